/- The laws of an engine beside its reference: Empties. -/
import Derived.Test.YtkeicfajlmhajaaGreatQn
namespace Go.Proofs.YtkeicfajlmhajaaGreat.Lw
open Go Go.RowKit Go.Proofs.YtkeicfajlmhajaaGreat.K Go.Proofs.YtkeicfajlmhajaaGreat.Sl
open Go.Proofs.YtkeicfajlmhajaaGreat.Li (more more_lt own_form')
open Go.Proofs.YtkeicfajlmhajaaGreat.Rw (cell_below cell_upd own_mono own_below)
open Go.Proofs.YtkeicfajlmhajaaGreat.Eg (Ks Eng access remove evict has stext res gho len cof init Inv AccPost Gone Texts)

/-- Whoever is in the list is resident, and no other. -/
def ERel (w0 : World) (b c : Nat) (k : Nat) (v8 v9 : Value) (w : World) : Prop :=
  ∃ F K D ys m, k = m ∧ len K = m ∧ ys.length = m ∧ v9 = .int .i64 ((m : Nat) : Int) ∧ Beside w0 b c F K D v8 ys w

set_option maxRecDepth 100000 in
set_option maxHeartbeats 3200000 in
theorem empties (room : Int) {w : World} {A : Option Addr} {xs : List Act2} {cap : Nat} (h : RAct w A xs) (hc : xs.length ≤ cap) :
    Calls Tryz.prog 4 #[.int .i64 room, .slice A xs.length cap] w fun e w' => e = .returned (.bool true) ∧ Below w.heap.size w w' := by
  obtain ⟨r, hL, hr⟩ := heavy_any h hc
  have LG := Lib.hid hL
  have NW := Lib.hid (Eg.eng_new room w)
  have NR := Lib.hid (fun w1 => Rf.ref_new room w1)
  clear hL
  cases r with
  | true =>
    clear hr h
    go_enter Tryz.func4, Tryz.ntmps4
    go_wp2_with fail
    refine LG.out.mono ?_
    rintro e w1 ⟨rfl, rfl⟩
    go_wp2_with fail
    go_ret
    exact ⟨rfl, Below.refl _ _⟩
  | false =>
    have h40 := hr rfl
    obtain ⟨N, hN⟩ : ∃ N, N = xs.length := ⟨_, rfl⟩
    rw [← hN] at hc LG h40 ⊢
    have HN := Lib.hid hN
    have H := Lib.hid h
    have H40 := Lib.hid h40
    clear h hN h40 hr
    go_enter Tryz.func4, Tryz.ntmps4
    go_wp2_with fail
    refine LG.out.mono ?_
    rintro e w1 ⟨rfl, rfl⟩
    go_wp2_with fail
    refine NW.out.mono ?_
    rintro e w1 ⟨b, F, rfl, he, hb, hF⟩
    have HE := Lib.hid he
    have HB1 := Lib.hid hb
    have HF := Lib.hid hF
    clear he hb hF
    go_wp2_with fail
    refine (NR.out w1).mono ?_
    rintro e w2 ⟨q, G, rfl, hr, hb2, hG⟩
    have R0 : Hid (PRel w b q (cof room) N N (.int .i64 0) w2) := Lib.hid (by
      obtain ⟨t1, t2, t3⟩ := two_new HE.out HB1.out HF.out hr hb2 hG
      exact ⟨F, G, init, 0, by omega, by omega, by omega, rfl, t1, t2, t3⟩)
    clear hr hb2 hG
    generalize cof room = c at *
    go_wp2_with fail
    go_loopg [7] N (fun k vi wr => PRel w b q c N k vi wr)
    case atStart => exact R0.out
    case round =>
      obtain ⟨F, G, K, j, hj, hj2, hgk, rfl, hT, hnew, hb⟩ := hrel
      have HGK := Lib.hid hgk
      clear hgk
      by_cases hjl : j < N ∧ j < 200
      · obtain ⟨hjl, hjm⟩ := hjl
        obtain ⟨a, ha⟩ : ∃ a, xs[j]? = some a := ⟨_, List.getElem?_eq_getElem (by rw [← HN.out]; exact hjl)⟩
        obtain ⟨g, o, rfl, hk0, hk1⟩ := act_at (H.out.below hb) ha
        have hsz := H40.out j a (by unfold upto; omega) ha
        have AC := Lib.hid (act_any hT a hsz)
        have HNW := Lib.hid hnew
        have HB := Lib.hid hb
        have z0 : (0 : Int) ≤ (j : Int) := by omega
        have z1 : (j : Int) < (N : Int) := by omega
        have z2 : (j : Int) < 200 := by omega
        clear hT hnew hb ha
        generalize next c K a = K' at *
        go_wp2_with fail
        refine AC.out.mono ?_
        rintro e w3 ⟨rfl, F3, G3, hT3, hS3⟩
        have T3 := Lib.hid hT3
        have S3 := Lib.hid hS3
        clear hT3 hS3
        go_wp2_with fail
        go_roundg (N - (j + 1))
        case measure => rw [HGK.out]; omega
        case rel => exact ⟨F3, G3, K', j + 1, hjl, hjm, rfl, rfl, T3.out, S3.out.above HB.out.size HNW.out, HB.out.trans (S3.out.below HB.out.size HNW.out)⟩
      · have hR := res_le hT.eng.inv
        have HLR := Lib.hid (Eg.len_res K)
        have HND := Lib.hid (Eg.res_nodup hT.eng.inv)
        have HT := Lib.hid hT
        have HB := Lib.hid hb
        have KS := Lib.hid (Eg.eng_keys hT.eng)
        have HNW := Lib.hid (fun k hk => hnew k (.inl hk))
        clear hT hnew hb
        have hex : j = N ∨ (j < N ∧ j = 200) := by omega
        clear hjl
        have z2 : ¬ ((200 : Int) < 200) := by omega
        rcases hex with rfl | ⟨hjl, rfl⟩
        all_goals
          go_wp2_with fail
          refine KS.out.mono ?_
          rintro e w2 ⟨v2, rfl, ho2, hb2⟩
          have BS : Hid (Beside w b c F K (fun j => v2.ownBlock = some j) v2 (res K) w2) := Lib.hid ⟨HT.out.eng.below hb2, Sl.of_own ho2 (fun _ h => h), fun x => Iff.rfl, HND.out, HNW.out,
            fun k hk => by have := (ho2.lt k hk).1; have := HB.out.size; omega, fun k hk => (ho2.lt k hk).2, fun k hk hf => by have := (ho2.lt k hk).1; have := HT.out.eng.lt k hf; omega, HB.out.trans (hb2.mono HB.out.size)⟩
          obtain ⟨A2, c2, rfl⟩ := own_form' ho2
          clear ho2 hb2
          obtain ⟨n, hn⟩ : ∃ n, n = (res K).length := ⟨_, rfl⟩
          have HNL : Hid (len K = n) := Lib.hid (by rw [hn, HLR.out])
          have hn9 : n ≤ 1024 := by omega
          rw [← hn] at BS ⊢
          have HNE := Lib.hid hn
          clear hn
          go_wp2_with fail
          go_loopg [8, 9] n (fun k v8 v9 w9 => ERel w b c k v8 v9 w9)
          case atStart => exact ⟨F, K, _, res K, n, rfl, HNL.out, HNE.out.symm, rfl, BS.out⟩
          case round =>
            obtain ⟨F4, K4, D4, ys, m, hgk, hlk, hly, rfl, hB⟩ := hrel
            have HG2 := Lib.hid hgk
            clear hgk
            have hlr := Eg.len_res K4
            have hr4 := res_le hB.eng.inv
            rcases Nat.eq_zero_or_pos m with hm0 | hm0
            · subst hm0
              obtain ⟨A4, c4, rfl, hc4⟩ := hB.sl.form
              rw [hly]
              have EV := Lib.hid (Eg.eng_evict hB.eng)
              rw [evict_none hlk] at EV
              have BB := Lib.hid hB.bel
              have FN := Lib.hid hB.fnew
              have HLK := Lib.hid hlk
              clear hB hlk hly hlr hc4
              go_wp2_with fail
              refine EV.out.mono ?_
              rintro e w5 ⟨rfl, F5, he5, hs5⟩
              have B5 := Lib.hid (BB.out.trans (hs5.below BB.out.size FN.out))
              have LN := Lib.hid (Eg.eng_len he5)
              rw [HLK.out] at LN
              clear he5 hs5
              go_wp2_with fail
              refine LN.out.mono ?_
              rintro e w6 ⟨rfl, hb6⟩
              have B6 := Lib.hid (B5.out.trans (hb6.mono B5.out.size))
              clear hb6
              go_wp2_with fail
              refine (known_any _).mono ?_
              rintro e w7 ⟨rfl, hb7⟩
              have B7 := Lib.hid (B6.out.trans (hb7.mono B6.out.size))
              clear hb7
              go_wp2_with fail
              go_ret
              exact ⟨rfl, B7.out⟩
            · obtain ⟨s, K5, hev, hsr, hlen, hmem, hno⟩ := evict_some hB.eng.inv (by omega)
              have hks := res_small hB.eng.inv hsr
              have hsy := (hB.mem s).2 hsr
              obtain ⟨A4, c4, rfl, hc4⟩ := hB.sl.form
              have hM4 : ys.length ≤ 1024 := by omega
              have EV := Lib.hid (Eg.eng_evict hB.eng)
              rw [hev] at EV
              have RS := Lib.hid (fun w1 (h : Beside w b c F4 K4 D4 (.slice A4 ys.length c4) ys w1) => h.sl.rstr (by omega))
              have HSY := Lib.hid hsy
              have HMEM := Lib.hid hmem
              have HLY := Lib.hid hly
              have HHN : Hid (has K5 s = false) := Lib.hid (by rw [Bool.eq_false_iff]; exact fun e => hno (Eg.has_iff.1 e))
              have HBS := Lib.hid hB
              obtain ⟨p, hp⟩ : ∃ p, p = len K5 := ⟨_, rfl⟩
              have hpm : p + 1 = m := by omega
              have HP := Lib.hid hp
              have HPM := Lib.hid hpm
              have hc4' : m ≤ c4 := by omega
              have hlw := less_len_of_mem' hsy hB.nod
              have HLW := Lib.hid hlw
              have g1 : (0 : Int) < (m : Int) := by omega
              have hm9 : m ≤ 1024 := by omega
              have dE : ((p : Int) != (m : Int) - 1) = false := by simp; omega
              clear hB hsy hmem hno hlk hlr hp hpm hev hsr hc4 hlw hly
              rw [HLY.out] at HBS RS ⊢
              go_wp2_with fail
              refine EV.out.mono ?_
              rintro e w5 ⟨rfl, F5, he5, hs5⟩
              have A5 := Lib.hid (HBS.out.apart.eng' he5 hs5)
              have R5 := A5.out.sl.rstr (by omega)
              have HY := Lib.hid (w_has_yes R5 (cap := c4) (by rw [HLY.out]; exact hc4') (by omega) HSY.out)
              rw [HLY.out] at HY
              clear he5 hs5 R5
              go_wp2_with fail
              refine HY.out.mono ?_
              rintro e w6 ⟨rfl, rfl⟩
              have HH := Lib.hid (Eg.eng_has A5.out.eng (key := s) (by omega))
              rw [HHN.out] at HH
              go_wp2_with fail
              refine HH.out.mono ?_
              rintro e w6 ⟨rfl, hb6⟩
              have A6 := Lib.hid (A5.out.below hb6)
              clear hb6
              have LN := Lib.hid (Eg.eng_len A6.out.eng)
              rw [← HP.out] at LN
              go_wp2_with fail
              refine LN.out.mono ?_
              rintro e w7 ⟨rfl, hb7⟩
              have A7 := Lib.hid (A6.out.below hb7)
              have R7 := A7.out.sl.rstr (by omega)
              have CT := Lib.hid (w_cut R7 (cap := c4) (by rw [HLY.out]; exact hc4') (by omega) s)
              rw [HLY.out] at CT
              clear hb7 R7
              go_wp2_with fail
              refine CT.out.mono ?_
              rintro e w8 ⟨v8, rfl, ho8, hb8, -⟩
              have A8 := Lib.hid (A7.out.cut hb8 ho8)
              obtain ⟨A9, c9, rfl⟩ := own_form' ho8
              clear ho8 hb8
              have hpp : (without ys s).length = p := by have := HLW.out; have := HPM.out; have := HLY.out; omega
              rw [hpp] at A8 ⊢
              have HPP := Lib.hid hpp
              clear hpp
              go_wp2_with fail
              go_roundg p
              case measure => rw [HG2.out]; have := HPM.out; omega
              case rel =>
                exact ⟨F5, K5, _, without ys s, p, rfl, HP.out.symm, HPP.out, by have := HPM.out; congr 1; omega, A8.out.beside (fun x => by rw [mem_without, HBS.out.mem x, HMEM.out x])⟩

end Go.Proofs.YtkeicfajlmhajaaGreat.Lw
