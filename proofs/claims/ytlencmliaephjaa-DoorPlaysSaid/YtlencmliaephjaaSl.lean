/- known; the law of nothing. -/
import Derived.Test.YtlencmliaephjaaSn
namespace Go.Proofs.Ytlencmliaephjaa.Sk
open Go Go.RowKit Go.Proofs.Ytlencmliaephjaa.K Go.Proofs.Ytlencmliaephjaa.Ha Go.Proofs.Ytlencmliaephjaa.PSketchPlays Go.Proofs.YtlencmliaephjaaW.PrintWords

def ka : ByteArray := ⟨#[97]⟩
def s1 : List Nat × Int := addS 8 ka (List.replicate 32 0, 0)
def s2 : List Nat × Int := addS 8 ka s1

theorem s1_sum : s1.2 = 1 := by decide +kernel
theorem s2_sum : s2.2 = 2 := by decide +kernel
theorem s2_cnt : cnt 8 s2.1 ka = 2 := by decide +kernel

theorem known_calls (w : World) : Calls Try.prog 16 #[] w fun e w' => e = .returned (.bool true) ∧ Below w.heap.size w w' := by
  go_enter Try.func16, Try.ntmps16
  go_wp2_with fail
  refine (new_sq 8 w).mono ?_
  rintro e w1 ⟨b, c, rfl, hb, hc, hs, hw⟩
  have e0 : pw (clamp 8 1 1024) = 8 := by decide
  rw [e0] at hs
  have HS : Hid (Sq w1 b c 8 (List.replicate 32 0) 0) := Lib.hid hs
  have HW := Lib.hid hw
  have HBC : Hid (w.heap.size ≤ b ∧ w.heap.size ≤ c) := Lib.hid ⟨hb, hc⟩
  clear hs hw e0 hb hc
  go_wp2_with fail
  refine (add_sq b c 8 (List.replicate 32 0) 0 ka w1 HS.out (by decide) (by omega) (by omega)).mono ?_
  rintro e w2 ⟨rfl, hs2, hu2⟩
  have HS2 : Hid (Sq w2 b c 8 s1.1 s1.2) := Lib.hid hs2
  have HU2 := Lib.hid hu2
  clear hs2 hu2
  go_wp2_with fail
  refine (add_sq b c 8 s1.1 s1.2 ka w2 HS2.out (by decide) (by rw [s1_sum]; omega) (by rw [s1_sum]; omega)).mono ?_
  rintro e w3 ⟨rfl, hs3, hu3⟩
  have HS3 : Hid (Sq w3 b c 8 s2.1 s2.2) := Lib.hid hs3
  have HU3 := Lib.hid hu3
  clear hs3 hu3
  go_wp2_with fail
  refine (count_sq b c 8 s2.1 s2.2 ka w3 HS3.out (by decide)).mono ?_
  rintro e w4 ⟨rfl, hb4⟩
  rw [s2_cnt]
  have HB4 := Lib.hid hb4
  clear hb4
  go_wp2_with fail
  refine (sum_sq b c 8 s2.1 s2.2 w4 (HS3.out.below HB4.out)).mono ?_
  rintro e w5 ⟨rfl, rfl⟩
  rw [s2_sum]
  go_wp2_with fail
  go_ret
  refine ⟨rfl, ?_⟩
  have hB : w.heap.size ≤ w1.heap.size := HW.out.size
  have hF : ∀ i, BC b c i → w.heap.size ≤ i := by
    rintro i (rfl | rfl)
    · exact HBC.out.1
    · exact HBC.out.2
  have h2 := HW.out.trans (HU2.out.below hB hF)
  have h3 := h2.trans (HU3.out.below h2.size hF)
  exact h3.trans (HB4.out.mono h3.size)

theorem nothing_calls (key : ByteArray) (w : World) : Calls Try.prog 11 #[.string key] w fun e w' => e = .returned (.bool true) ∧ Below w.heap.size w w' := by
  by_cases hk : key.size ≤ 60
  · have t1 : decide (60 < key.size) = false := by simp; omega
    have t2 : decide ((60 : Int) < (key.size : Int)) = false := by simp; omega
    go_enter Try.func11, Try.ntmps11
    go_wp2_with (first
      | (go_at_call 14; refine (nil_add key _).mono ?_; rintro e w1 ⟨rfl, rfl⟩)
      | (go_at_call 30; refine (nil_halve _).mono ?_; rintro e w1 ⟨rfl, rfl⟩)
      | (go_at_call 15; refine (nil_count key _).mono ?_; rintro e w1 ⟨rfl, rfl⟩)
      | (go_at_call 34; refine (nil_sum _).mono ?_; rintro e w1 ⟨rfl, rfl⟩)
      | (go_at_call 36; refine (nil_cells _).mono ?_; rintro e w1 ⟨rfl, rfl⟩)
      | (go_at_call 16; refine (known_calls _).mono ?_; rintro e w2 ⟨rfl, hb⟩))
    go_ret
    exact ⟨rfl, hb⟩
  · have t1 : decide (60 < key.size) = true := by simp; omega
    have t2 : decide ((60 : Int) < (key.size : Int)) = true := by simp; omega
    go_enter Try.func11, Try.ntmps11
    go_wp2_with fail
    go_ret
    exact ⟨rfl, Below.refl _ _⟩

end Go.Proofs.Ytlencmliaephjaa.Sk
