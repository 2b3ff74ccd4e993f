/- The laws of an engine beside its reference: Plays. -/
import Derived.Test.YtkeicfajlmhajaaGreatWc
namespace Go.Proofs.YtkeicfajlmhajaaGreat.Lw
open Go Go.RowKit Go.Proofs.YtkeicfajlmhajaaGreat.K Go.Proofs.YtkeicfajlmhajaaGreat.Sl
open Go.Proofs.YtkeicfajlmhajaaGreat.Li (more more_lt own_form')
open Go.Proofs.YtkeicfajlmhajaaGreat.Rw (cell_below cell_upd own_mono own_below)
open Go.Proofs.YtkeicfajlmhajaaGreat.Eg (Ks Eng access remove evict has stext res gho len cof init Inv AccPost Gone Texts)

/-- A script, played in both. -/
def PRel (w0 : World) (b q c N : Nat) (k : Nat) (vi : Value) (wr : World) : Prop :=
  ∃ F G K j, j ≤ N ∧ j ≤ 200 ∧ k = N - j ∧ vi = .int .i64 ((j : Nat) : Int) ∧ Two wr b q c F G K K ∧ (∀ k, Both F G k → w0.heap.size ≤ k) ∧ Below w0.heap.size w0 wr

theorem two_new {w w1 w2 : World} {b q c : Nat} {F G : Nat → Prop} {K : Ks} (he : Eng w1 b F c K) (hb : Below w.heap.size w w1) (hF : ∀ k, F k → w.heap.size ≤ k) (hr : Rf.Ref w2 q G c K) (hb2 : Below w1.heap.size w1 w2) (hG : ∀ k, G k → w1.heap.size ≤ k) :
    Two w2 b q c F G K K ∧ (∀ k, Both F G k → w.heap.size ≤ k) ∧ Below w.heap.size w w2 :=
  ⟨⟨he.below hb2, hr, fun k hk hg => by have := he.lt k hk; have := hG k hg; omega⟩, fun k hk => by
    rcases hk with h | h
    · exact hF k h
    · have := hG k h; have := hb.size; omega, hb.trans (hb2.mono hb.size)⟩

/-- An act is at hand. -/
theorem act_at {w : World} {A : Option Addr} {xs : List Act2} (h : RAct w A xs) {j : Nat} {a : Act2} (ha : xs[j]? = some a) :
    ∃ g o, A = some ⟨g, o, none⟩ ∧ w.cell? ⟨g, o + j * 2, none⟩ = some (.int .i64 a.kind) ∧ w.cell? ⟨g, o + j * 2 + 1, none⟩ = some (.string a.key) := by
  obtain ⟨g, o, rfl, hc, -⟩ := h.get j a ha
  exact ⟨g, o, rfl, hc 0 _ rfl, hc 1 _ rfl⟩

/-- Texts that were answered, later. -/
theorem texts_rstr {l : List ByteArray} {B : Nat} {v : Value} {w w' : World} (ho : w.ownsRow B 9 1 v l.length (l.map .string)) (hb : Below w.heap.size w w') (hl : l.length ≤ 1000000) : ∃ A c, v = .slice A l.length c ∧ l.length ≤ c ∧ RStr w' A l := by
  obtain ⟨A, c, h1, h2, h3⟩ := own_rstr (own_below ho hb) (by omega)
  exact ⟨A, c, h1, h2, h3⟩

set_option maxRecDepth 100000 in
set_option maxHeartbeats 3200000 in
theorem plays (room : Int) {w : World} {A : Option Addr} {xs : List Act2} {cap : Nat} (h : RAct w A xs) (hc : xs.length ≤ cap) :
    Calls Tryz.prog 8 #[.int .i64 room, .slice A xs.length cap] w fun e w' => e = .returned (.bool true) ∧ Below w.heap.size w w' := by
  obtain ⟨r, hL, hr⟩ := heavy_any h hc
  have LG := Lib.hid hL
  have NW := Lib.hid (Eg.eng_new room w)
  have NR := Lib.hid (fun w1 => Rf.ref_new room w1)
  clear hL
  cases r with
  | true =>
    clear hr h
    go_enter Tryz.func8, Tryz.ntmps8
    go_wp2_with fail
    refine LG.out.mono ?_
    rintro e w1 ⟨rfl, rfl⟩
    go_wp2_with fail
    go_ret
    exact ⟨rfl, Below.refl _ _⟩
  | false =>
    have h40 := hr rfl
    obtain ⟨N, hN⟩ : ∃ N, N = xs.length := ⟨_, rfl⟩
    rw [← hN] at hc LG h40 ⊢
    have HN := Lib.hid hN
    have H := Lib.hid h
    have H40 := Lib.hid h40
    clear h hN h40 hr
    go_enter Tryz.func8, Tryz.ntmps8
    go_wp2_with fail
    refine LG.out.mono ?_
    rintro e w1 ⟨rfl, rfl⟩
    go_wp2_with fail
    refine NW.out.mono ?_
    rintro e w1 ⟨b, F, rfl, he, hb, hF⟩
    have HE := Lib.hid he
    have HB1 := Lib.hid hb
    have HF := Lib.hid hF
    clear he hb hF
    go_wp2_with fail
    refine (NR.out w1).mono ?_
    rintro e w2 ⟨q, G, rfl, hr, hb2, hG⟩
    have R0 : Hid (PRel w b q (cof room) N N (.int .i64 0) w2) := Lib.hid (by
      obtain ⟨t1, t2, t3⟩ := two_new HE.out HB1.out HF.out hr hb2 hG
      exact ⟨F, G, init, 0, by omega, by omega, by omega, rfl, t1, t2, t3⟩)
    clear hr hb2 hG
    generalize cof room = c at *
    go_wp2_with fail
    go_loopg [7] N (fun k v7 wr => PRel w b q c N k v7 wr)
    case atStart => exact R0.out
    case round =>
      obtain ⟨F, G, K, j, hj, hj2, hgk, rfl, hT, hnew, hb⟩ := hrel
      have HGK := Lib.hid hgk
      clear hgk
      by_cases hjl : j < N ∧ j < 200
      · obtain ⟨hjl, hjm⟩ := hjl
        obtain ⟨a, ha⟩ : ∃ a, xs[j]? = some a := ⟨_, List.getElem?_eq_getElem (by rw [← HN.out]; exact hjl)⟩
        obtain ⟨g, o, rfl, hk0, hk1⟩ := act_at (H.out.below hb) ha
        have hsz := H40.out j a (by unfold upto; omega) ha
        have AC := Lib.hid (act_any hT a hsz)
        have HNW := Lib.hid hnew
        have HB := Lib.hid hb
        have z0 : (0 : Int) ≤ (j : Int) := by omega
        have z1 : (j : Int) < (N : Int) := by omega
        have z2 : (j : Int) < 200 := by omega
        clear hT hnew hb ha
        generalize next c K a = K' at *
        go_wp2_with fail
        refine AC.out.mono ?_
        rintro e w3 ⟨rfl, F3, G3, hT3, hS3⟩
        have T3 := Lib.hid hT3
        have S3 := Lib.hid hS3
        have ES := Lib.hid (Eg.eng_state hT3.eng)
        clear hT3 hS3
        go_wp2_with fail
        refine ES.out.mono ?_
        rintro e w4 ⟨rfl, hb4⟩
        have T4 := Lib.hid (T3.out.below hb4)
        have B4 := Lib.hid hb4
        have RS := Lib.hid (ref_state2 T4.out.ref)
        clear hb4
        go_wp2_with fail
        refine RS.out.mono ?_
        rintro e w5 ⟨rfl, hb5⟩
        have T5 := Lib.hid (T4.out.below hb5)
        have B5 := Lib.hid hb5
        have EL := Lib.hid (Eg.eng_len T5.out.eng)
        clear hb5
        go_wp2_with fail
        refine EL.out.mono ?_
        rintro e w6 ⟨rfl, hb6⟩
        have T6 := Lib.hid (T5.out.below hb6)
        have B6 := Lib.hid hb6
        have RL := Lib.hid (Rf.ref_len T6.out.ref)
        clear hb6
        go_wp2_with fail
        refine RL.out.mono ?_
        rintro e w7 ⟨rfl, hb7⟩
        have T7 := Lib.hid (T6.out.below hb7)
        have B7 := Lib.hid (Eg.below_next (Eg.below_next (Eg.below_next B4.out B5.out) B6.out) hb7)
        clear hb7
        go_wp2_with fail
        go_roundg (N - (j + 1))
        case measure => rw [HGK.out]; omega
        case rel => exact ⟨F3, G3, K', j + 1, hjl, hjm, rfl, rfl, T7.out, S3.out.above HB.out.size HNW.out, HB.out.trans ((S3.out.below HB.out.size HNW.out).trans (B7.out.mono (Nat.le_trans HB.out.size S3.out.upd.size)))⟩
      · have hR := res_le hT.eng.inv
        have hG := gho_le hT.eng.inv
        have HT := Lib.hid hT
        have HB := Lib.hid hb
        have KS := Lib.hid (Eg.eng_keys hT.eng)
        clear hT hnew hb
        have hex : j = N ∨ (j < N ∧ j = 200) := by omega
        clear hjl
        have z2 : ¬ ((200 : Int) < 200) := by omega
        rcases hex with rfl | ⟨hjl, rfl⟩
        all_goals
          go_wp2_with fail
          refine KS.out.mono ?_
          rintro e w3 ⟨v3, rfl, ho3, hb3⟩
          have O3 := Lib.hid ho3
          have T3 := Lib.hid (HT.out.below hb3)
          have B3 := Lib.hid hb3
          clear ho3 hb3
          go_wp2_with fail
          refine (Rf.ref_keys T3.out.ref).mono ?_
          rintro e w4 ⟨v4, rfl, ho4, hb4⟩
          obtain ⟨A3, c3, rfl, l3, R3⟩ := texts_rstr O3.out hb4 (by omega)
          obtain ⟨A4, c4, rfl, l4, R4⟩ := texts_rstr ho4 (Below.refl _ _) (by omega)
          have T4 := Lib.hid (T3.out.below hb4)
          have B4 := Lib.hid (Eg.below_next B3.out hb4)
          have TX := Lib.hid (texts_same R3 R4 l3 l4 (by omega))
          clear ho4 hb4 R3 R4
          go_wp2_with fail
          refine TX.out.mono ?_
          rintro e w5 ⟨rfl, hb5⟩
          have T5 := Lib.hid (T4.out.below hb5)
          have B5 := Lib.hid (Eg.below_next B4.out hb5)
          clear hb5
          go_wp2_with fail
          refine (Eg.eng_ghosts T5.out.eng).mono ?_
          rintro e w6 ⟨v6, rfl, ho6, hb6⟩
          have O6 := Lib.hid ho6
          have T6 := Lib.hid (T5.out.below hb6)
          have B6 := Lib.hid (Eg.below_next B5.out hb6)
          clear ho6 hb6
          go_wp2_with fail
          refine (Rf.ref_ghosts T6.out.ref).mono ?_
          rintro e w7 ⟨v7, rfl, ho7, hb7⟩
          obtain ⟨A6, c6, rfl, l6, R6⟩ := texts_rstr O6.out hb7 (by omega)
          obtain ⟨A7, c7, rfl, l7, R7⟩ := texts_rstr ho7 (Below.refl _ _) (by omega)
          have T7 := Lib.hid (T6.out.below hb7)
          have B7 := Lib.hid (Eg.below_next B6.out hb7)
          have TX2 := Lib.hid (texts_same R6 R7 l6 l7 (by omega))
          clear ho7 hb7 R6 R7
          go_wp2_with fail
          refine TX2.out.mono ?_
          rintro e w8 ⟨rfl, hb8⟩
          have T8 := Lib.hid (T7.out.below hb8)
          have B8 := Lib.hid (Eg.below_next B7.out hb8)
          clear hb8
          go_wp2_with fail
          refine (Eg.eng_room T8.out.eng).mono ?_
          rintro e w9 ⟨rfl, rfl⟩
          go_wp2_with fail
          refine (Rf.ref_room T8.out.ref).mono ?_
          rintro e w9 ⟨rfl, rfl⟩
          go_wp2_with fail
          refine (known_any w8).mono ?_
          rintro e w9 ⟨rfl, hb9⟩
          have B9 := Lib.hid (Eg.below_next B8.out hb9)
          clear hb9
          go_wp2_with fail
          go_ret
          exact ⟨rfl, HB.out.trans (B9.out.mono HB.out.size)⟩

end Go.Proofs.YtkeicfajlmhajaaGreat.Lw
