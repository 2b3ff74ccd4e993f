/- S3-FIFO: bounded. -/
import Derived.Test.YtodiceafnkojiaaWf
namespace Go.Proofs.Ytodiceafnkojiaa.Lw
open Go Go.RowKit Go.Proofs.Ytodiceafnkojiaa.K Go.Proofs.Ytodiceafnkojiaa.Sl
open Go.Proofs.Ytodiceafnkojiaa.Li (more more_lt own_form')
open Go.Proofs.Ytodiceafnkojiaa.Rw (cell_below cell_upd own_mono own_below)
open Go.Proofs.Ytodiceafnkojiaa.Eg (Ks Eng access remove evict has stext res gho len cof init Inv AccPost Gone Texts kout kin)

set_option maxRecDepth 100000 in
set_option maxHeartbeats 800000 in
theorem bounded_any {w : World} {b c : Nat} {F : Nat → Prop} {K : Ks} (h : Eng w b F c K) : Calls Try.prog 39 #[.pointer (some ⟨b, 0, none⟩)] w fun e w' => e = .returned (.bool true) ∧ Below w.heap.size w w' := by
  have hR := res_le h.inv
  have hG := gho_le h.inv
  have hc2 := h.inv.c2
  have hgk : (gho K).length ≤ kout c := h.inv.gh
  have KS := Lib.hid (Eg.eng_keys h)
  have HE := Lib.hid h
  have HI := Lib.hid h.inv
  clear h
  go_enter Try.func39, Try.ntmps39
  go_wp2_with fail
  refine KS.out.mono ?_
  rintro e w1 ⟨v1, rfl, ho1, hb1⟩
  have O1 := Lib.hid ho1
  have E1 := Lib.hid (HE.out.below hb1)
  have B1 := Lib.hid hb1
  clear ho1 hb1
  go_wp2_with fail
  refine (Eg.eng_ghosts E1.out).mono ?_
  rintro e w2 ⟨v2, rfl, ho2, hb2⟩
  obtain ⟨A1, c1, rfl, l1, R1⟩ := texts_rstr O1.out hb2 (by omega)
  obtain ⟨A2, c2, rfl, l2, R2⟩ := texts_rstr ho2 (Below.refl _ _) (by omega)
  have E2 := Lib.hid (E1.out.below hb2)
  have B2 := Lib.hid (Eg.below_next B1.out hb2)
  have RM := Lib.hid (Eg.eng_room E2.out)
  have HAS := Lib.hid (fun k (hk : k ∉ res K) => w_has_no R1 l1 (by omega) hk)
  have HR2 := Lib.hid R2
  clear ho2 hb2 R1 R2 l1 hR hG
  obtain ⟨N, hN⟩ : ∃ N, N = (gho K).length := ⟨_, rfl⟩
  rw [← hN] at hgk l2 ⊢
  have HN := Lib.hid hN
  clear hN
  generalize (res K).length = n1 at *
  have hko : kout c ≤ 1024 := by unfold Eg.kout; omega
  have hc1 : 1 ≤ c := HI.out.c1
  go_wp2_with fail
  go_loopg [5] N (fun k v5 wr => w2 = wr ∧ ∃ j : Nat, j ≤ N ∧ k = N - j ∧ v5 = .int .i64 (j : Int))
  case atStart => exact ⟨rfl, 0, by omega, by omega, rfl⟩
  case round =>
    obtain ⟨rfl, j, hj, hgk', rfl⟩ := hrel
    have HGK := Lib.hid hgk'
    clear hgk'
    rcases Nat.eq_or_lt_of_le hj with rfl | hjl
    · have dI : (j : Int) ≤ (kout c : Int) := by omega
      by_cases h2 : (1 : Int) < (c : Int) / 10
      · have hk : (kout c : Int) = (c : Int) - (c : Int) / 10 := by unfold Eg.kout Eg.kin; omega
        have h3 : (1 : Int) < (c : Int) - (c : Int) / 10 := by omega
        have dJ : (j : Int) ≤ (c : Int) - (c : Int) / 10 := by omega
        go_wp2_with fail
        refine RM.out.mono ?_
        rintro e w3 ⟨rfl, rfl⟩
        go_wp2_with fail
        refine RM.out.mono ?_
        rintro e w3 ⟨rfl, rfl⟩
        go_wp2_with fail
        go_ret
        refine ⟨?_, B2.out⟩
        first | rfl | (simp; omega)
      · by_cases h3 : (1 : Int) < (c : Int) - 1
        · have hk : (kout c : Int) = (c : Int) - 1 := by unfold Eg.kout Eg.kin; omega
          have dJ : (j : Int) ≤ (c : Int) - 1 := by omega
          go_wp2_with fail
          refine RM.out.mono ?_
          rintro e w3 ⟨rfl, rfl⟩
          go_wp2_with fail
          refine RM.out.mono ?_
          rintro e w3 ⟨rfl, rfl⟩
          go_wp2_with fail
          go_ret
          refine ⟨?_, B2.out⟩
          first | rfl | (simp; omega)
        · have hk : kout c = 1 := by unfold Eg.kout Eg.kin; omega
          have dJ : (j : Int) ≤ 1 := by omega
          go_wp2_with fail
          refine RM.out.mono ?_
          rintro e w3 ⟨rfl, rfl⟩
          go_wp2_with fail
          refine RM.out.mono ?_
          rintro e w3 ⟨rfl, rfl⟩
          go_wp2_with fail
          go_ret
          refine ⟨?_, B2.out⟩
          first | rfl | (simp; omega)
    · obtain ⟨s, hs⟩ : ∃ s, (gho K)[j]? = some s := ⟨_, List.getElem?_eq_getElem (by rw [← HN.out]; exact hjl)⟩
      obtain ⟨g, o, rfl, hcell⟩ := HR2.out.get j s hs
      have HH := Lib.hid (HAS.out s (Eg.gho_res HI.out (List.mem_of_getElem? hs)))
      clear hs
      have z0 : (0 : Int) ≤ (j : Int) := by omega
      have z1 : (j : Int) < (N : Int) := by omega
      go_wp2_with fail
      refine HH.out.mono ?_
      rintro e w3 ⟨rfl, rfl⟩
      go_wp2_with fail
      go_roundg (N - (j + 1))
      case measure => rw [HGK.out]; omega
      case rel => exact ⟨rfl, j + 1, hjl, rfl, rfl⟩

end Go.Proofs.Ytodiceafnkojiaa.Lw
