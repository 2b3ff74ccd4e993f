/- The laws of an engine beside its reference: Removes. -/
import Derived.Test.YtkeicfajlmhajaaGreatWf
namespace Go.Proofs.YtkeicfajlmhajaaGreat.Lw
open Go Go.RowKit Go.Proofs.YtkeicfajlmhajaaGreat.K Go.Proofs.YtkeicfajlmhajaaGreat.Sl
open Go.Proofs.YtkeicfajlmhajaaGreat.Li (more more_lt own_form')
open Go.Proofs.YtkeicfajlmhajaaGreat.Rw (cell_below cell_upd own_mono own_below)
open Go.Proofs.YtkeicfajlmhajaaGreat.Eg (Ks Eng access remove evict has stext res gho len cof init Inv AccPost Gone Texts)

/-- All others stay. -/
def VRel (w0 : World) (b c : Nat) (F : Nat → Prop) (K : Ks) (v : Value) (ys : List ByteArray) (B n k : Nat) (vi : Value) (w : World) : Prop :=
  ∃ j, j ≤ n ∧ k = n - j ∧ vi = .int .i64 ((j : Nat) : Int) ∧ Eng w b F c K ∧ w.ownsRow B 9 1 v n (ys.map .string) ∧ Below w0.heap.size w0 w

set_option maxRecDepth 100000 in
set_option maxHeartbeats 3200000 in
theorem removes (room : Int) {w : World} {A : Option Addr} {xs : List Act2} {cap : Nat} (h : RAct w A xs) (hc : xs.length ≤ cap) (key : ByteArray) :
    Calls Tryz.prog 6 #[.int .i64 room, .slice A xs.length cap, .string key] w fun e w' => e = .returned (.bool true) ∧ Below w.heap.size w w' := by
  by_cases hk40 : 40 < key.size
  · have i1 : (40 : Int) < (key.size : Int) := by omega
    obtain ⟨r, hL, hr⟩ := heavy_any h hc
    have LG := Lib.hid hL
    clear hL hr h
    cases r
    all_goals
      go_enter Tryz.func6, Tryz.ntmps6
      go_wp2_with fail
      refine LG.out.mono ?_
      rintro e w1 ⟨rfl, rfl⟩
      go_wp2_with fail
      go_ret
      exact ⟨rfl, Below.refl _ _⟩
  have i1 : ¬ (40 : Int) < (key.size : Int) := by omega
  have hks : key.size ≤ 40 := by omega
  clear hk40
  obtain ⟨r, hL, hr⟩ := heavy_any h hc
  have LG := Lib.hid hL
  have NW := Lib.hid (Eg.eng_new room w)
  have NR := Lib.hid (fun w1 => Rf.ref_new room w1)
  clear hL
  cases r with
  | true =>
    clear hr h
    go_enter Tryz.func6, Tryz.ntmps6
    go_wp2_with fail
    refine LG.out.mono ?_
    rintro e w1 ⟨rfl, rfl⟩
    go_wp2_with fail
    go_ret
    exact ⟨rfl, Below.refl _ _⟩
  | false =>
    have h40 := hr rfl
    obtain ⟨N, hN⟩ : ∃ N, N = xs.length := ⟨_, rfl⟩
    rw [← hN] at hc LG h40 ⊢
    have HN := Lib.hid hN
    have H := Lib.hid h
    have H40 := Lib.hid h40
    clear h hN h40 hr
    go_enter Tryz.func6, Tryz.ntmps6
    go_wp2_with fail
    refine LG.out.mono ?_
    rintro e w1 ⟨rfl, rfl⟩
    go_wp2_with fail
    refine NW.out.mono ?_
    rintro e w1 ⟨b, F, rfl, he, hb, hF⟩
    have HE := Lib.hid he
    have HB1 := Lib.hid hb
    have HF := Lib.hid hF
    clear he hb hF
    go_wp2_with fail
    refine (NR.out w1).mono ?_
    rintro e w2 ⟨q, G, rfl, hr, hb2, hG⟩
    have R0 : Hid (PRel w b q (cof room) N N (.int .i64 0) w2) := Lib.hid (by
      obtain ⟨t1, t2, t3⟩ := two_new HE.out HB1.out HF.out hr hb2 hG
      exact ⟨F, G, init, 0, by omega, by omega, by omega, rfl, t1, t2, t3⟩)
    clear hr hb2 hG
    generalize cof room = c at *
    go_wp2_with fail
    go_loopg [9] N (fun k vi wr => PRel w b q c N k vi wr)
    case atStart => exact R0.out
    case round =>
      obtain ⟨F, G, K, j, hj, hj2, hgk, rfl, hT, hnew, hb⟩ := hrel
      have HGK := Lib.hid hgk
      clear hgk
      by_cases hjl : j < N ∧ j < 200
      · obtain ⟨hjl, hjm⟩ := hjl
        obtain ⟨a, ha⟩ : ∃ a, xs[j]? = some a := ⟨_, List.getElem?_eq_getElem (by rw [← HN.out]; exact hjl)⟩
        obtain ⟨g, o, rfl, hk0, hk1⟩ := act_at (H.out.below hb) ha
        have hsz := H40.out j a (by unfold upto; omega) ha
        have AC := Lib.hid (act_any hT a hsz)
        have HNW := Lib.hid hnew
        have HB := Lib.hid hb
        have z0 : (0 : Int) ≤ (j : Int) := by omega
        have z1 : (j : Int) < (N : Int) := by omega
        have z2 : (j : Int) < 200 := by omega
        clear hT hnew hb ha
        generalize next c K a = K' at *
        go_wp2_with fail
        refine AC.out.mono ?_
        rintro e w3 ⟨rfl, F3, G3, hT3, hS3⟩
        have T3 := Lib.hid hT3
        have S3 := Lib.hid hS3
        clear hT3 hS3
        go_wp2_with fail
        go_roundg (N - (j + 1))
        case measure => rw [HGK.out]; omega
        case rel => exact ⟨F3, G3, K', j + 1, hjl, hjm, rfl, rfl, T3.out, S3.out.above HB.out.size HNW.out, HB.out.trans (S3.out.below HB.out.size HNW.out)⟩
      · have hR := res_le hT.eng.inv
        obtain ⟨hi', hrm, hmem, hyes, hno⟩ := Eg.remove_facts hT.eng.inv (key := key)
        have hG' := gho_le hi'
        have HLR := Lib.hid (Eg.len_res K)
        have HT := Lib.hid hT
        have HB := Lib.hid hb
        have KS := Lib.hid (Eg.eng_keys hT.eng)
        have RV := Lib.hid (fun w1 (h : Eng w1 b F c K) => Eg.eng_remove h hks)
        have HMEM := Lib.hid hmem
        have HNW := Lib.hid (fun k hk => hnew k (.inl hk))
        have HSM := Lib.hid (fun x (hx : x ∈ res K) => res_small hT.eng.inv hx)
        have hkn : key ∉ res (remove K key).2 := fun e => (hmem key).1 e |>.2 rfl
        have HKF : Hid (has (remove K key).2 key = false) := Lib.hid (by rw [Bool.eq_false_iff]; exact fun e => hkn (Eg.has_iff.1 e))
        by_cases hin : key ∈ res K
        · have HAS := Lib.hid (Eg.has_iff.2 hin)
          rw [hrm, HAS.out] at RV
          obtain ⟨hkg, hln⟩ := hyes hin
          have HKG := Lib.hid hkg
          clear hT hnew hb hi' hmem hrm hyes hno hkg hkn hin
          generalize (remove K key).2 = K' at *
          obtain ⟨m, hm⟩ : ∃ m, m = len K' := ⟨_, rfl⟩
          rw [← hm] at hln
          have HM := Lib.hid hm.symm
          have HLN := Lib.hid hln
          clear hm hln
          have hex : j = N ∨ (j < N ∧ j = 200) := by omega
          clear hjl
          have z2 : ¬ ((200 : Int) < 200) := by omega
          rcases hex with rfl | ⟨hjl, rfl⟩
          all_goals
            go_wp2_with fail
            refine KS.out.mono ?_
            rintro e w2 ⟨v2, rfl, ho2, hb2⟩
            have T2 := Lib.hid (HT.out.below hb2)
            have B2 := Lib.hid hb2
            obtain ⟨A2, c2, rfl⟩ := own_form' ho2
            have O2 := Lib.hid ho2
            clear ho2 hb2
            go_wp2_with fail
            refine (Eg.eng_has T2.out.eng (key := key) (by omega)).mono ?_
            rintro e w3 ⟨rfl, hb3⟩
            rw [HAS.out]
            have T3 := Lib.hid (T2.out.below hb3)
            have B3 := Lib.hid (Eg.below_next B2.out hb3)
            have O3 := Lib.hid (own_below O2.out hb3)
            clear hb3
            go_wp2_with fail
            refine (RV.out w3 T3.out.eng).mono ?_
            rintro e w4 ⟨rfl, F4, he4, hs4⟩
            have E4 := Lib.hid he4
            have B4 : Hid (Below w.heap.size w w4) := Lib.hid (HB.out.trans ((B3.out.mono HB.out.size).trans (hs4.below (Nat.le_trans HB.out.size B3.out.size) HNW.out)))
            have O4 := Lib.hid (own_upd O3.out hs4.upd (fun k hk hf => by have := (O3.out.lt k hk).1; have := HT.out.eng.lt k hf; omega))
            clear he4 hs4
            go_wp2_with fail
            refine (Eg.eng_has E4.out (key := key) (by omega)).mono ?_
            rintro e w5 ⟨rfl, hb5⟩
            rw [HKF.out]
            have E5 := Lib.hid (E4.out.below hb5)
            have B5 := Lib.hid (B4.out.trans (hb5.mono B4.out.size))
            have O5 := Lib.hid (own_below O4.out hb5)
            clear hb5
            go_wp2_with fail
            refine (Eg.eng_ghosts E5.out).mono ?_
            rintro e w6 ⟨v6, rfl, ho6, hb6⟩
            obtain ⟨A6, c6, rfl, l6, R6⟩ := texts_rstr ho6 (Below.refl _ _) (by omega)
            have GN := Lib.hid (w_has_no R6 l6 (by omega) HKG.out)
            have E6 := Lib.hid (E5.out.below hb6)
            have B6 := Lib.hid (B5.out.trans (hb6.mono B5.out.size))
            have O6 := Lib.hid (own_below O5.out hb6)
            clear ho6 hb6 R6
            go_wp2_with fail
            refine GN.out.mono ?_
            rintro e w7 ⟨rfl, rfl⟩
            obtain ⟨n, hn⟩ : ∃ n, n = (res K).length := ⟨_, rfl⟩
            have hnl : n = m + 1 := by rw [hn, HLR.out]; have := HLN.out; omega
            have hn9 : n ≤ 1024 := by omega
            rw [← hn] at O6 ⊢
            have HNE := Lib.hid hn
            clear hn
            have HNL := Lib.hid hnl
            clear hnl
            go_wp2_with fail
            go_loopg [12] n (fun k vi w9 => VRel w b c F4 K' (.slice A2 n c2) (res K) wr.heap.size n k vi w9)
            case atStart => exact ⟨0, by omega, by omega, rfl, E6.out, O6.out, B6.out⟩
            case round =>
              obtain ⟨i, hi, hgk, rfl, he, ho, hb⟩ := hrel
              have HG2 := Lib.hid hgk
              clear hgk
              rcases Nat.eq_or_lt_of_le hi with hin2 | hil
              · have hin' := hin2.symm
                subst hin'
                have LE := Lib.hid (Eg.eng_len he)
                rw [HM.out] at LE
                have BE := Lib.hid hb
                have dE : ((m : Int) == (n : Int) - 1) = true := by have := HNL.out; simp; omega
                clear he ho hb hin2
                go_wp2_with fail
                refine LE.out.mono ?_
                rintro e w8 ⟨rfl, hb8⟩
                have B8 := Lib.hid (BE.out.trans (hb8.mono BE.out.size))
                clear hb8
                go_wp2_with fail
                refine (known_any _).mono ?_
                rintro e w9 ⟨rfl, hb9⟩
                have B9 := Lib.hid (B8.out.trans (hb9.mono B8.out.size))
                clear hb9
                go_wp2_with fail
                go_ret
                exact ⟨rfl, B9.out⟩
              · obtain ⟨y, hy⟩ : ∃ y, (res K)[i]? = some y := ⟨_, List.getElem?_eq_getElem (by rw [← HNE.out]; exact hil)⟩
                obtain ⟨gg, oo, rfl, hcell⟩ := (Sl.of_own (F := fun _ => True) (xs := res K) (by exact ho) (fun _ _ => trivial)).cell hy
                have hyr := List.mem_of_getElem? hy
                have y0 : (0 : Int) ≤ (i : Int) := by omega
                have y1 : (i : Int) < (n : Int) := by omega
                have HEE := Lib.hid he
                have HOO := Lib.hid ho
                have HBB := Lib.hid hb
                by_cases e : y = key
                · subst e
                  clear he ho hb hy hyr
                  go_wp2_with fail
                  go_roundg (n - (i + 1))
                  case measure => rw [HG2.out]; omega
                  case rel => exact ⟨i + 1, hil, rfl, rfl, HEE.out, HOO.out, HBB.out⟩
                · have dS := ne_list e
                  have HY := Lib.hid (Eg.eng_has he (key := y) (by have := HSM.out y hyr; omega))
                  rw [Eg.has_iff.2 ((HMEM.out y).2 ⟨hyr, e⟩)] at HY
                  clear he ho hb hy hyr
                  go_wp2_with fail
                  refine HY.out.mono ?_
                  rintro e w8 ⟨rfl, hb8⟩
                  have E8 := Lib.hid (HEE.out.below hb8)
                  have O8 := Lib.hid (own_below HOO.out hb8)
                  have B8 := Lib.hid (HBB.out.trans (hb8.mono HBB.out.size))
                  clear hb8
                  go_wp2_with fail
                  go_roundg (n - (i + 1))
                  case measure => rw [HG2.out]; omega
                  case rel => exact ⟨i + 1, hil, rfl, rfl, E8.out, O8.out, B8.out⟩
        · have HAS : Hid (has K key = false) := Lib.hid (by rw [Bool.eq_false_iff]; exact fun e => hin (Eg.has_iff.1 e))
          rw [hrm, HAS.out] at RV
          have hln : len (remove K key).2 = len K := by rw [hno hin]
          clear hT hnew hb hi' hmem hrm hyes hno hkn hin
          generalize (remove K key).2 = K' at *
          obtain ⟨m, hm⟩ : ∃ m, m = len K' := ⟨_, rfl⟩
          rw [← hm] at hln
          have HM := Lib.hid hm.symm
          have HLN := Lib.hid hln
          clear hm hln
          have hex : j = N ∨ (j < N ∧ j = 200) := by omega
          clear hjl
          have z2 : ¬ ((200 : Int) < 200) := by omega
          rcases hex with rfl | ⟨hjl, rfl⟩
          all_goals
            go_wp2_with fail
            refine KS.out.mono ?_
            rintro e w2 ⟨v2, rfl, ho2, hb2⟩
            have T2 := Lib.hid (HT.out.below hb2)
            have B2 := Lib.hid hb2
            obtain ⟨A2, c2, rfl⟩ := own_form' ho2
            have O2 := Lib.hid ho2
            clear ho2 hb2
            go_wp2_with fail
            refine (Eg.eng_has T2.out.eng (key := key) (by omega)).mono ?_
            rintro e w3 ⟨rfl, hb3⟩
            rw [HAS.out]
            have T3 := Lib.hid (T2.out.below hb3)
            have B3 := Lib.hid (Eg.below_next B2.out hb3)
            have O3 := Lib.hid (own_below O2.out hb3)
            clear hb3
            go_wp2_with fail
            refine (RV.out w3 T3.out.eng).mono ?_
            rintro e w4 ⟨rfl, F4, he4, hs4⟩
            have E4 := Lib.hid he4
            have B4 : Hid (Below w.heap.size w w4) := Lib.hid (HB.out.trans ((B3.out.mono HB.out.size).trans (hs4.below (Nat.le_trans HB.out.size B3.out.size) HNW.out)))
            have O4 := Lib.hid (own_upd O3.out hs4.upd (fun k hk hf => by have := (O3.out.lt k hk).1; have := HT.out.eng.lt k hf; omega))
            clear he4 hs4
            go_wp2_with fail
            refine (Eg.eng_has E4.out (key := key) (by omega)).mono ?_
            rintro e w5 ⟨rfl, hb5⟩
            rw [HKF.out]
            have E5 := Lib.hid (E4.out.below hb5)
            have B5 := Lib.hid (B4.out.trans (hb5.mono B4.out.size))
            have O5 := Lib.hid (own_below O4.out hb5)
            clear hb5
            obtain ⟨n, hn⟩ : ∃ n, n = (res K).length := ⟨_, rfl⟩
            have hnl : n = m := by rw [hn, HLR.out]; have := HLN.out; omega
            have hn9 : n ≤ 1024 := by omega
            rw [← hn] at O5 ⊢
            have HNE := Lib.hid hn
            clear hn
            have HNL := Lib.hid hnl
            clear hnl
            go_wp2_with fail
            go_loopg [12] n (fun k vi w9 => VRel w b c F4 K' (.slice A2 n c2) (res K) wr.heap.size n k vi w9)
            case atStart => exact ⟨0, by omega, by omega, rfl, E5.out, O5.out, B5.out⟩
            case round =>
              obtain ⟨i, hi, hgk, rfl, he, ho, hb⟩ := hrel
              have HG2 := Lib.hid hgk
              clear hgk
              rcases Nat.eq_or_lt_of_le hi with hin2 | hil
              · have hin' := hin2.symm
                subst hin'
                have LE := Lib.hid (Eg.eng_len he)
                rw [HM.out] at LE
                have BE := Lib.hid hb
                have dE : ((m : Int) == (n : Int)) = true := by have := HNL.out; simp; omega
                clear he ho hb hin2
                go_wp2_with fail
                refine LE.out.mono ?_
                rintro e w8 ⟨rfl, hb8⟩
                have B8 := Lib.hid (BE.out.trans (hb8.mono BE.out.size))
                clear hb8
                go_wp2_with fail
                refine (known_any _).mono ?_
                rintro e w9 ⟨rfl, hb9⟩
                have B9 := Lib.hid (B8.out.trans (hb9.mono B8.out.size))
                clear hb9
                go_wp2_with fail
                go_ret
                exact ⟨rfl, B9.out⟩
              · obtain ⟨y, hy⟩ : ∃ y, (res K)[i]? = some y := ⟨_, List.getElem?_eq_getElem (by rw [← HNE.out]; exact hil)⟩
                obtain ⟨gg, oo, rfl, hcell⟩ := (Sl.of_own (F := fun _ => True) (xs := res K) (by exact ho) (fun _ _ => trivial)).cell hy
                have hyr := List.mem_of_getElem? hy
                have y0 : (0 : Int) ≤ (i : Int) := by omega
                have y1 : (i : Int) < (n : Int) := by omega
                have HEE := Lib.hid he
                have HOO := Lib.hid ho
                have HBB := Lib.hid hb
                by_cases e : y = key
                · subst e
                  clear he ho hb hy hyr
                  go_wp2_with fail
                  go_roundg (n - (i + 1))
                  case measure => rw [HG2.out]; omega
                  case rel => exact ⟨i + 1, hil, rfl, rfl, HEE.out, HOO.out, HBB.out⟩
                · have dS := ne_list e
                  have HY := Lib.hid (Eg.eng_has he (key := y) (by have := HSM.out y hyr; omega))
                  rw [Eg.has_iff.2 ((HMEM.out y).2 ⟨hyr, e⟩)] at HY
                  clear he ho hb hy hyr
                  go_wp2_with fail
                  refine HY.out.mono ?_
                  rintro e w8 ⟨rfl, hb8⟩
                  have E8 := Lib.hid (HEE.out.below hb8)
                  have O8 := Lib.hid (own_below HOO.out hb8)
                  have B8 := Lib.hid (HBB.out.trans (hb8.mono HBB.out.size))
                  clear hb8
                  go_wp2_with fail
                  go_roundg (n - (i + 1))
                  case measure => rw [HG2.out]; omega
                  case rel => exact ⟨i + 1, hil, rfl, rfl, E8.out, O8.out, B8.out⟩

end Go.Proofs.YtkeicfajlmhajaaGreat.Lw
