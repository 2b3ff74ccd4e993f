/- The walk of the law RouteMerges. -/
import Derived.Test.YtlnpjcamcefbkaaRg
namespace Go.Proofs.Ytlnpjcamcefbkaa.Rg
open Go Go.RowKit Go.Proofs.Ytlnpjcamcefbkaa.K Go.Proofs.Ytlnpjcamcefbkaa.Ro Go.Proofs.Ytlnpjcamcefbkaa.Rw

theorem heavy_calls (A C D : Option Addr) (ca cb cd : Nat) (a b : List COp) (ps : List Int) (w : World)
    (hh : 200 < a.length + b.length ∨ (a.length + b.length ≤ 200 ∧ 500 < ps.length)) (la : a.length ≤ 2932031007402) (lb : b.length ≤ 2932031007402) :
    Calls Try.prog 6 #[.slice A a.length ca, .slice C b.length cb, .slice D ps.length cd] w fun e w' => e = .returned (.bool true) ∧ Below w.heap.size w w' := by
  rcases hh with h | ⟨h, h2⟩
  · have t1 : decide ((200 : Int) < (a.length : Int) + (b.length : Int)) = true := by simp; omega
    go_enter Try.func6, Try.ntmps6
    go_wp2_with fail
    go_ret
    exact ⟨rfl, Below.refl _ _⟩
  · have t1 : decide ((200 : Int) < (a.length : Int) + (b.length : Int)) = false := by simp; omega
    have t2 : decide ((500 : Int) < (ps.length : Int)) = true := by simp; omega
    go_enter Try.func6, Try.ntmps6
    go_wp2_with fail
    go_ret
    exact ⟨rfl, Below.refl _ _⟩

theorem opc_at {w : World} {B n j c : Nat} {gA : Option Addr} {l : List COp} {x : COp} (h : w.ownsRow B 32 4 (.slice gA n c) n (opc l)) (hx : l[j]? = some x) :
    ∃ g, gA = some ⟨g, 0, none⟩ ∧ j < n ∧ ∀ t v, x.cells[t]? = some v → w.cell? ⟨g, j * 4 + t, none⟩ = some v := by
  have hl := h.1
  have hj := lt_of_get hx
  unfold opc at hl
  rw [flat_length op4] at hl
  rcases h.2 with ⟨_, h0⟩ | ⟨g, cap, cur, hv, hB, hg, hnc, hcm, _, _⟩
  · omega
  · injection hv with h1 _ _
    refine ⟨g, h1, by omega, fun t v hv' => ?_⟩
    have ht : t < 4 := by have := lt_of_get hv'; simpa [COp.cells] using this
    have := h.cells (g := g) (by rw [h1]; rfl) (j * 4 + t) v (by unfold opc; rw [flat_get op4 hx ht]; exact hv')
    rw [add_plain', Nat.zero_add] at this
    exact this

set_option maxHeartbeats 1600000 in
set_option maxRecDepth 100000 in
theorem law_calls (A C D : Option Addr) (ca cb cd : Nat) (a b : List COp) (ps : List Int) (w : World) (hA : ROp w A a) (hC : ROp w C b) (hD : RInt w D ps) :
    Calls Try.prog 6 #[.slice A a.length ca, .slice C b.length cb, .slice D ps.length cd] w fun e w' => e = .returned (.bool true) ∧ Below w.heap.size w w' := by
  by_cases hh : 200 < a.length + b.length ∨ (a.length + b.length ≤ 200 ∧ 500 < ps.length)
  · exact heavy_calls A C D ca cb cd a b ps w hh hA.len hC.len
  · have h1 : a.length + b.length ≤ 200 := by omega
    have h2 : ps.length ≤ 500 := by omega
    clear hh
    have two := two_of a.length b.length ps h1
    generalize hor : ord [(a.length : Int), (b.length : Int)] ps = o at *
    have HOR := Lib.hid hor
    have HA := Lib.hid hA
    have HC := Lib.hid hC
    have HD := Lib.hid hD
    have TW := Lib.hid two
    have hol := two.len
    clear hor hA hC hD two
    have t1 : decide ((200 : Int) < (a.length : Int) + (b.length : Int)) = false := by simp; omega
    have t2 : decide ((500 : Int) < (ps.length : Int)) = false := by simp; omega
    go_enter Try.func6, Try.ntmps6
    go_wp2_with fail
    have hM := merge_calls w.heap.size A C D ca cb cd a b ps (w.alloc (.cells #[.slice A a.length ca, .slice C b.length cb] 28)) (block_new w _)
      (HA.out.below ((Below.refl _ _).alloc (Nat.le_refl _) _)) (HC.out.below ((Below.refl _ _).alloc (Nat.le_refl _) _)) (HD.out.below ((Below.refl _ _).alloc (Nat.le_refl _) _)) h1
    rw [HOR.out] at hM
    refine hM.mono ?_
    rintro e w1 ⟨v, rfl, hv, hb1⟩
    obtain ⟨gA, gc, rfl⟩ := own_form hv
    have hb1' : Below w.heap.size w w1 := ((Below.refl _ _).alloc (Nat.le_refl _) _).trans (hb1.mono (by simp))
    have HV := Lib.hid hv
    have HB1 := Lib.hid hb1'
    have HW := Lib.hid (show w.heap.size + 1 = (w.alloc (.cells #[.slice A a.length ca, .slice C b.length cb] 28)).heap.size by simp)
    clear hM hv hb1 hb1'
    go_wp2_with fail
    have hA2 : RInt (w1.alloc (.cells #[.int .i64 (a.length : Int), .int .i64 (b.length : Int)] 3)) (some ⟨w1.heap.size, 0, none⟩) [(a.length : Int), (b.length : Int)] :=
      rint_new (block_new w1 _) (by simp)
    have hD2 := (HD.out.below HB1.out).below (w' := w1.alloc (.cells #[.int .i64 (a.length : Int), .int .i64 (b.length : Int)] 3)) ((Below.refl _ _).alloc (Nat.le_refl _) _)
    refine (ref_calls _ _ 2 cd [(a.length : Int), (b.length : Int)] ps _ hA2 hD2 (by simp)).mono ?_
    rintro e w2 ⟨v2, rfl, hv2, hb2⟩
    rw [HOR.out] at hv2
    obtain ⟨oA, oc, rfl⟩ := own_form hv2
    have hb2' : Below w1.heap.size w1 w2 := ((Below.refl _ _).alloc (Nat.le_refl _) _).trans (hb2.mono (by simp))
    have hvv : w2.ownsRow (w.alloc (.cells #[.slice A a.length ca, .slice C b.length cb] 28)).heap.size 32 4 (.slice gA o.length gc) o.length (opc (mrg a b o o.length)) :=
      own_upd HV.out (Upd.of_below (F := fun _ => False) hb2' (fun i h1 h2 => by omega)) (fun _ _ => id)
    have HVV := Lib.hid hvv
    have HV2 := Lib.hid hv2
    have HB2 := Lib.hid (HB1.out.trans (hb2'.mono HB1.out.size))
    clear hA2 hD2 hv2 hb2 hb2' hvv HV HB1 HW
    have t3 : ((o.length : Int) != (a.length : Int) + (b.length : Int)) = false := by simp; omega
    go_wp2_with fail
    generalize hB7 : (w.alloc (.cells #[.slice A a.length ca, .slice C b.length cb] 28)).heap.size = B7 at *
    generalize hB8 : (w1.alloc (.cells #[.int .i64 (a.length : Int), .int .i64 (b.length : Int)] 3)).heap.size = B8 at *
    clear hB7 hB8
    go_loopw [9, 10, 11] (fun v9 v10 v11 wr => ∃ j : Nat, j ≤ o.length ∧ v11 = .int .i64 j ∧ v9 = .int .i64 (cn o j 0) ∧ v10 = .int .i64 (cn o j 1) ∧
      wr.ownsRow B7 32 4 (.slice gA o.length gc) o.length (opc (mrg a b o o.length)) ∧ wr.ownsRow B8 3 1 (.slice oA o.length oc) o.length (nats o) ∧ Below w.heap.size w wr) (fun v9 v10 v11 wr => o.length - (intOf v11).toNat)
    case atStart => exact ⟨0, by omega, rfl, rfl, rfl, HVV.out, HV2.out, HB2.out⟩
    case round =>
      clear HVV HV2 HB2
      obtain ⟨j, hj, rfl, rfl, rfl, hvv, hv2, hb2⟩ := hrel
      have HVV := Lib.hid hvv
      have HV2 := Lib.hid hv2
      have HB2 := Lib.hid hb2
      clear hvv hv2 hb2
      by_cases hlt : j < o.length
      · obtain ⟨q, hq⟩ : ∃ q, o[j]? = some q := ⟨_, List.getElem?_eq_getElem hlt⟩
        have h01 := TW.out.bit j q hq
        obtain ⟨x, hx⟩ := two_at TW.out hq
        have hcl := cn_lt hq
        obtain ⟨og, ocap, eo, -, hco, -⟩ := own_at_nat HV2.out hq
        injection eo with eo1 _ eo3
        subst eo1 eo3
        obtain ⟨g, rfl, -, hl⟩ := opc_at HVV.out (mrg_get TW.out hq hx o.length hlt (Nat.le_refl _))
        have l0 := hl 0 _ rfl
        have l1 := hl 1 _ rfl
        have l2 := hl 2 _ rfl
        have l3 := hl 3 _ rfl
        simp only [Nat.add_zero] at l0
        have hcb0 : cn o j 0 ≤ 200 := by unfold cn; have := List.count_le_length (a := 0) (l := o.take j); simp at this; omega
        have hcb1 : cn o j 1 ≤ 200 := by unfold cn; have := List.count_le_length (a := 1) (l := o.take j); simp at this; omega
        have hj0 : (0 : Int) ≤ (j : Int) := by omega
        have hj1 : (j : Int) < (o.length : Int) := by omega
        have HS0 := Lib.hid (cn_succ hq 0)
        have HS1 := Lib.hid (cn_succ hq 1)
        clear hl
        rcases h01 with rfl | rfl
        · rw [TW.out.ca] at hcl
          obtain ⟨ob, oo, rfl, hc, -⟩ := (HA.out.below HB2.out).get _ x hx
          have hoc : ∀ t v, x.cells[t]? = some v → wr.cell? ⟨ob, oo + cn o j 0 * 4 + t, none⟩ = some v := fun t v hv => by rw [Nat.add_assoc]; exact hc t v hv
          have k0 := hoc 0 _ rfl
          have k1 := hoc 1 _ rfl
          have k2 := hoc 2 _ rfl
          have k3 := hoc 3 _ rfl
          simp only [Nat.add_zero] at k0
          have hc1 : (cn o j 0 : Int) < (a.length : Int) := by omega
          clear hc hoc hx hq
          go_wp2_with fail
          go_quiet (fail)
          go_wp2_with fail
          go_roundw
          case rel => exact ⟨j + 1, by omega, by go_num, by rw [HS0.out]; go_num, by rw [HS1.out]; go_num, HVV.out, HV2.out, below_drewN HB2.out _⟩
          case measure => simp [intOf]; omega
        · rw [TW.out.cb] at hcl
          obtain ⟨ob, oo, rfl, hc, -⟩ := (HC.out.below HB2.out).get _ x hx
          have hoc : ∀ t v, x.cells[t]? = some v → wr.cell? ⟨ob, oo + cn o j 1 * 4 + t, none⟩ = some v := fun t v hv => by rw [Nat.add_assoc]; exact hc t v hv
          have k0 := hoc 0 _ rfl
          have k1 := hoc 1 _ rfl
          have k2 := hoc 2 _ rfl
          have k3 := hoc 3 _ rfl
          simp only [Nat.add_zero] at k0
          have hc1 : (cn o j 1 : Int) < (b.length : Int) := by omega
          clear hc hoc hx hq
          go_wp2_with fail
          go_quiet (fail)
          go_wp2_with fail
          go_roundw
          case rel => exact ⟨j + 1, by omega, by go_num, by rw [HS0.out]; go_num, by rw [HS1.out]; go_num, HVV.out, HV2.out, below_drewN HB2.out _⟩
          case measure => simp [intOf]; omega
      · obtain rfl : j = o.length := by omega
        go_wp2_with (go_at_call 12; refine (known_calls _).mono ?_; rintro e w3 ⟨rfl, hb3⟩)
        go_ret
        exact ⟨rfl, HB2.out.trans (hb3.mono HB2.out.size)⟩

end Go.Proofs.Ytlnpjcamcefbkaa.Rg
