/- The walks of Count and Add. -/
import Derived.Test.YtkeicfajlmhajaaKc
namespace Go.Proofs.Ytkeicfajlmhajaa.Sk
open Go Go.RowKit Go.Proofs.Ytkeicfajlmhajaa.K Go.Proofs.Ytkeicfajlmhajaa.Ha

theorem plc_lt (n : Nat) (key : ByteArray) (i : Nat) (hi : i < 4) (hn : 1 ≤ n) : plc n key i < 4 * n := by
  unfold plc pl
  have := Nat.mod_lt (HF ((i : Int) + 1) key).toNat (show n > 0 by omega)
  have h2 : i * n ≤ 3 * n := Nat.mul_le_mul_right _ (by omega)
  omega

/-- The least of the first k cells of a key, from 15. -/
def cntk (n : Nat) (C : List Nat) (key : ByteArray) (k : Nat) : Nat := (List.range k).foldl (fun m i => min m (C.getD (plc n key i) 0)) 15
def cnt (n : Nat) (C : List Nat) (key : ByteArray) : Nat := cntk n C key 4
theorem cntk_succ (n : Nat) (C : List Nat) (key : ByteArray) (k : Nat) : cntk n C key (k + 1) = min (cntk n C key k) (C.getD (plc n key k) 0) := by
  simp [cntk, List.range_succ]

theorem plv_eq (n : Nat) (key : ByteArray) : (plv n key).toArray = #[.int .i64 (plc n key 0 : Int), .int .i64 (plc n key 1 : Int), .int .i64 (plc n key 2 : Int), .int .i64 (plc n key 3 : Int)] := rfl

theorem idx0 (a b c d : Value) (w : World) : (Instr.index 94 (.agg #[a, b, c, d]) (.int .i64 0)).run Try.prog w = .ok a w := by kernel_rfl
theorem idx1 (a b c d : Value) (w : World) : (Instr.index 94 (.agg #[a, b, c, d]) (.int .i64 1)).run Try.prog w = .ok b w := by kernel_rfl
theorem idx2 (a b c d : Value) (w : World) : (Instr.index 94 (.agg #[a, b, c, d]) (.int .i64 2)).run Try.prog w = .ok c w := by kernel_rfl
theorem idx3 (a b c d : Value) (w : World) : (Instr.index 94 (.agg #[a, b, c, d]) (.int .i64 3)).run Try.prog w = .ok d w := by kernel_rfl

theorem count_sq (b c n : Nat) (C : List Nat) (sum : Int) (key : ByteArray) (w : World) (h : Sq w b c n C sum) (hn : key.size ≤ 140737488351232) :
    Calls Try.prog 60 #[.pointer (some ⟨b, 0, none⟩), .string key] w fun e w' => e = .returned (.int .i64 (cnt n C key : Nat)) ∧ Below w.heap.size w w' := by
  have n1 := h.n1
  have H := Lib.hid h
  clear h
  go_enter Try.func60, Try.ntmps60
  go_wp2_with (go_at_call 61; refine (places_sq b c n C sum key w H.out hn).mono ?_; rintro e w1 ⟨rfl, hb⟩)
  rw [plv_eq]
  have HB := Lib.hid hb
  clear hb
  go_loop [5, 13] (fun v5 v13 => ∃ k : Nat, k ≤ 4 ∧ v13 = .int .i64 k ∧ v5 = .int .i64 (cntk n C key k : Nat)) (fun v5 v13 => 4 - (intOf v13).toNat)
  case atStart => exact ⟨0, by omega, rfl, rfl⟩
  case round =>
    obtain ⟨k, hk, rfl, rfl⟩ := hrel
    by_cases hlt : k < 4
    · have A := at_sq b c n (plc n key k) C sum w1 (H.out.below HB.out) (plc_lt n key k hlt (by omega))
      have S := cntk_succ n C key k
      generalize hm : C.getD (plc n key k) 0 = m at *
      have hS := Lib.hid S
      clear S hm
      generalize cntk n C key k = x at *
      have hc : k = 0 ∨ k = 1 ∨ k = 2 ∨ k = 3 := by omega
      rcases hc with rfl | rfl | rfl | rfl
      all_goals
        have hA := Lib.hid A
        clear A
        have i0 := idx0
        have i1 := idx1
        have i2 := idx2
        have i3 := idx3
        go_wp2_with (go_at_call 62; refine hA.out.mono ?_; rintro e w2 ⟨rfl, rfl⟩)
        have hs := hS.out
        simp only [Nat.zero_add, Nat.reduceAdd] at hs
        have hm : (if m < x then (m : Int) else (x : Int)) = ((min x m : Nat) : Int) := by split <;> omega
        first
          | (refine ⟨⟨1, by omega, rfl, ?_⟩, by simp [intOf]⟩; rw [hs, hm])
          | (refine ⟨⟨2, by omega, rfl, ?_⟩, by simp [intOf]⟩; rw [hs, hm])
          | (refine ⟨⟨3, by omega, rfl, ?_⟩, by simp [intOf]⟩; rw [hs, hm])
          | (refine ⟨⟨4, by omega, rfl, ?_⟩, by simp [intOf]⟩; rw [hs, hm])
    · obtain rfl : k = 4 := by omega
      go_wp2_with fail
      go_ret
      exact ⟨rfl, HB.out⟩

end Go.Proofs.Ytkeicfajlmhajaa.Sk
