/- The laws of an engine beside its reference: Bounds. -/
import Derived.Test.YtkeicfajlmhajaaGreatQm
namespace Go.Proofs.YtkeicfajlmhajaaGreat.Lw
open Go Go.RowKit Go.Proofs.YtkeicfajlmhajaaGreat.K Go.Proofs.YtkeicfajlmhajaaGreat.Sl
open Go.Proofs.YtkeicfajlmhajaaGreat.Li (more more_lt own_form')
open Go.Proofs.YtkeicfajlmhajaaGreat.Rw (cell_below cell_upd own_mono own_below)
open Go.Proofs.YtkeicfajlmhajaaGreat.Eg (Ks Eng access remove evict has stext res gho len cof init Inv AccPost Gone Texts)

set_option maxRecDepth 100000 in
set_option maxHeartbeats 3200000 in
theorem bounds (room : Int) {w : World} {A : Option Addr} {xs : List Act2} {cap : Nat} (h : RAct w A xs) (hc : xs.length ≤ cap) :
    Calls Tryz.prog 9 #[.int .i64 room, .slice A xs.length cap] w fun e w' => e = .returned (.bool true) ∧ Below w.heap.size w w' := by
  obtain ⟨r, hL, hr⟩ := heavy_any h hc
  have LG := Lib.hid hL
  have NW := Lib.hid (Eg.eng_new room w)
  have NR := Lib.hid (fun w1 => Rf.ref_new room w1)
  clear hL
  cases r with
  | true =>
    clear hr h
    go_enter Tryz.func9, Tryz.ntmps9
    go_wp2_with fail
    refine LG.out.mono ?_
    rintro e w1 ⟨rfl, rfl⟩
    go_wp2_with fail
    go_ret
    exact ⟨rfl, Below.refl _ _⟩
  | false =>
    have h40 := hr rfl
    obtain ⟨N, hN⟩ : ∃ N, N = xs.length := ⟨_, rfl⟩
    rw [← hN] at hc LG h40 ⊢
    have HN := Lib.hid hN
    have H := Lib.hid h
    have H40 := Lib.hid h40
    clear h hN h40 hr
    go_enter Tryz.func9, Tryz.ntmps9
    go_wp2_with fail
    refine LG.out.mono ?_
    rintro e w1 ⟨rfl, rfl⟩
    go_wp2_with fail
    refine NW.out.mono ?_
    rintro e w1 ⟨b, F, rfl, he, hb, hF⟩
    have HE := Lib.hid he
    have HB1 := Lib.hid hb
    have HF := Lib.hid hF
    clear he hb hF
    go_wp2_with fail
    refine (NR.out w1).mono ?_
    rintro e w2 ⟨q, G, rfl, hr, hb2, hG⟩
    have R0 : Hid (PRel w b q (cof room) N N (.int .i64 0) w2) := Lib.hid (by
      obtain ⟨t1, t2, t3⟩ := two_new HE.out HB1.out HF.out hr hb2 hG
      exact ⟨F, G, init, 0, by omega, by omega, by omega, rfl, t1, t2, t3⟩)
    clear hr hb2 hG
    generalize cof room = c at *
    go_wp2_with fail
    go_loopg [7] N (fun k vi wr => PRel w b q c N k vi wr)
    case atStart => exact R0.out
    case round =>
      obtain ⟨F, G, K, j, hj, hj2, hgk, rfl, hT, hnew, hb⟩ := hrel
      have HGK := Lib.hid hgk
      clear hgk
      by_cases hjl : j < N ∧ j < 200
      · obtain ⟨hjl, hjm⟩ := hjl
        obtain ⟨a, ha⟩ : ∃ a, xs[j]? = some a := ⟨_, List.getElem?_eq_getElem (by rw [← HN.out]; exact hjl)⟩
        obtain ⟨g, o, rfl, hk0, hk1⟩ := act_at (H.out.below hb) ha
        have hsz := H40.out j a (by unfold upto; omega) ha
        have AC := Lib.hid (act_any hT a hsz)
        have HNW := Lib.hid hnew
        have HB := Lib.hid hb
        have z0 : (0 : Int) ≤ (j : Int) := by omega
        have z1 : (j : Int) < (N : Int) := by omega
        have z2 : (j : Int) < 200 := by omega
        clear hT hnew hb ha
        generalize next c K a = K' at *
        go_wp2_with fail
        refine AC.out.mono ?_
        rintro e w3 ⟨rfl, F3, G3, hT3, hS3⟩
        have T3 := Lib.hid hT3
        have S3 := Lib.hid hS3
        clear hT3 hS3
        have hrm := T3.out.eng.inv.room
        have hR := res_le T3.out.eng.inv
        have hlr := Eg.len_res K'
        go_wp2_with fail
        refine (Eg.eng_len T3.out.eng).mono ?_
        rintro e w4 ⟨rfl, hb4⟩
        have T4 := Lib.hid (T3.out.below hb4)
        have B4 := Lib.hid hb4
        clear hb4
        go_wp2_with fail
        refine (Eg.eng_room T4.out.eng).mono ?_
        rintro e w5 ⟨rfl, rfl⟩
        have d1 : ¬ ((c : Int) < (len K' : Int)) := by omega
        go_wp2_with fail
        refine (Eg.eng_keys T4.out.eng).mono ?_
        rintro e w6 ⟨v6, rfl, ho6, hb6⟩
        obtain ⟨A6, p6, rfl⟩ := own_form' ho6
        rw [hlr]
        have T6 := Lib.hid (T4.out.below hb6)
        have B6 := Lib.hid (Eg.below_next B4.out hb6)
        clear ho6 hb6 hlr hR
        go_wp2_with fail
        refine (Eg.eng_len T6.out.eng).mono ?_
        rintro e w7 ⟨rfl, hb7⟩
        have T7 := Lib.hid (T6.out.below hb7)
        have B7 := Lib.hid (Eg.below_next B6.out hb7)
        clear hb7
        go_wp2_with fail
        refine (bounded_any T7.out.eng).mono ?_
        rintro e w8 ⟨rfl, hb8⟩
        have T8 := Lib.hid (T7.out.below hb8)
        have B8 := Lib.hid (Eg.below_next B7.out hb8)
        clear hb8
        go_wp2_with fail
        go_roundg (N - (j + 1))
        case measure => rw [HGK.out]; omega
        case rel => exact ⟨F3, G3, K', j + 1, hjl, hjm, rfl, rfl, T8.out, S3.out.above HB.out.size HNW.out, HB.out.trans ((S3.out.below HB.out.size HNW.out).trans (B8.out.mono (Nat.le_trans HB.out.size S3.out.upd.size)))⟩
      · have HB := Lib.hid hb
        clear hT hnew hb
        have hex : j = N ∨ (j < N ∧ j = 200) := by omega
        clear hjl
        have z2 : ¬ ((200 : Int) < 200) := by omega
        rcases hex with rfl | ⟨hjl, rfl⟩
        all_goals
          go_wp2_with fail
          refine (known_any _).mono ?_
          rintro e w9 ⟨rfl, hb9⟩
          have B9 := Lib.hid hb9
          clear hb9
          go_wp2_with fail
          go_ret
          exact ⟨rfl, HB.out.trans (B9.out.mono HB.out.size)⟩

end Go.Proofs.YtkeicfajlmhajaaGreat.Lw
