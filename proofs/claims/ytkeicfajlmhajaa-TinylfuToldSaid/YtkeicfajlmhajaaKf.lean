/- The walk of New. -/
import Derived.Test.YtkeicfajlmhajaaKe
import Derived.OwnWalk
import Derived.Deep.Cut
import Derived.Deep.DeepCutAuto
namespace Go.Proofs.Ytkeicfajlmhajaa.Sk
open Go Go.RowKit Go.Proofs.Ytkeicfajlmhajaa.K Go.Proofs.Ytkeicfajlmhajaa.Ha

def clamp (n lo hi : Int) : Int := min (max n lo) hi
theorem clamp_any (n lo hi : Int) (w : World) :
    Calls Try.prog 40 #[.int .i64 n, .int .i64 lo, .int .i64 hi] w fun e w' => e = .returned (.int .i64 (clamp n lo hi)) ∧ ∃ k, w' = w.drewN k := by
  go_enter Try.func40, Try.ntmps40
  go_wp2
  all_goals
    go_ret
    refine ⟨ret_int ?_, 0, rfl⟩
    simp only [clamp, Int.min_def, Int.max_def] at *
    omega

/-- How many cells a row has, of a clamped room. -/
def pw (c : Int) : Nat := if c ≤ 8 then 8 else if c ≤ 16 then 16 else if c ≤ 32 then 32 else if c ≤ 64 then 64 else if c ≤ 128 then 128 else if c ≤ 256 then 256 else if c ≤ 512 then 512 else 1024

def Pow (n : Nat) : Prop := n = 8 ∨ n = 16 ∨ n = 32 ∨ n = 64 ∨ n = 128 ∨ n = 256 ∨ n = 512 ∨ n = 1024
theorem pow_next {n : Nat} {c : Int} (h : Pow n) (hc : (n : Int) < c) (h2 : c ≤ 1024) : Pow (2 * n) ∧ 2 * n ≤ 1024 := by unfold Pow at *; omega
theorem pow_range {n : Nat} (h : Pow n) : 8 ≤ n ∧ n ≤ 1024 := by unfold Pow at *; omega
theorem pow_end {n : Nat} {c : Int} (h : Pow n) (hb : n = 8 ∨ (n : Int) < 2 * c) (hc : ¬ (n : Int) < c) (h2 : c ≤ 1024) : n = pw c := by
  unfold Pow at h
  unfold pw
  (repeat' split) <;> omega

theorem info5 : (Try.prog.info? 5).map (fun i => (i.zero, i.size, i.bytes)) = some (some (.int .u8 0), 1, 1) := by kernel_rfl

theorem own_full {w : World} {base g n : Nat} {e : TypeId} {xs : List Value} (h : w.ownsRow base e 1 (.slice (some ⟨g, 0, none⟩) n n) n xs) : w.heap[g]? = some (.cells xs.toArray e (0, 0)) := by
  rcases h.2 with ⟨hh, _⟩ | ⟨g', cap', cur, hv, hB, hg, hnc, hcm, hcs, htake⟩
  · cases hh
  · injection hv with h1 _ h3
    injection h1 with h1
    injection h1 with h1
    subst h1 h3
    rw [hg, ← htake, List.take_of_length_le (by rw [Array.length_toList, hcs]; exact Nat.le_refl _)]

theorem made_one (z : Value) (n : Nat) : (madeCells #[z] n).toList = List.replicate n z := by
  apply List.ext_getElem
  · simp [madeCells]
  · intro i h1 h2
    simp [madeCells, Nat.mod_one]
theorem made_bytes (n : Nat) : (madeCells (Value.int .u8 0).cells (n * 1)).toList = bytes (List.replicate n 0) := by
  rw [Nat.mul_one]
  refine (made_one (.int .u8 0) n).trans ?_
  simp [bytes]
theorem below_of_grown {w w' : World} {m : Nat} (h : (w.drewN m).grownBy w' none) : Below w.heap.size w w' :=
  ⟨h.os, h.tape, h.output, h.size, fun k hk => h.block k hk (by simp)⟩

set_option maxRecDepth 100000 in
theorem new_sq (room : Int) (w : World) :
    Calls Try.prog 25 #[.int .i64 room] w fun e w' => ∃ b c, e = .returned (.pointer (some ⟨b, 0, none⟩)) ∧ w.heap.size ≤ b ∧ w.heap.size ≤ c ∧
      Sq w' b c (pw (clamp room 1 1024)) (List.replicate (4 * pw (clamp room 1 1024)) 0) 0 ∧ Below w.heap.size w w' := by
  have hc2 : clamp room 1 1024 ≤ 1024 := by unfold clamp; omega
  have hc1 : 1 ≤ clamp room 1 1024 := by unfold clamp; omega
  have hC := fun w => clamp_any room 1 1024 w
  generalize clamp room 1 1024 = c at *
  go_enter Try.func25, Try.ntmps25
  go_wp2_with fail
  go_loopw [3] (fun v3 wr => ∃ n : Nat, v3 = .int .i64 n ∧ Pow n ∧ (n = 8 ∨ (n : Int) < 2 * c) ∧ ∃ m, wr = w.drewN m) (fun v3 wr => 1024 - (intOf v3).toNat)
  case atStart => exact ⟨8, rfl, .inl rfl, .inl rfl, 0, rfl⟩
  case round =>
    obtain ⟨n, rfl, hp, hb, m, rfl⟩ := hrel
    have hr := pow_range hp
    by_cases hlt : (n : Int) < c
    · obtain ⟨hp2, hr2⟩ := pow_next hp hlt hc2
      have HP := Lib.hid hp2
      clear hp hp2
      go_wp2_with (go_at_call 40; refine (hC _).mono ?_; rintro e w' ⟨rfl, k, rfl⟩)
      go_roundw
      case rel => exact ⟨2 * n, by go_num, HP.out, .inr (by omega), _, rfl⟩
      case measure => simp [intOf]; omega
    · have hpe := Lib.hid (pow_end hp hb hlt hc2)
      clear hp hb
      obtain ⟨i5, hi5, hz5, hs5, hb5⟩ : ∃ i, Try.prog.info? 5 = some i ∧ i.zero = some (.int .u8 0) ∧ i.size = 1 ∧ i.bytes = 1 := by
        have h := info5
        cases hh : Try.prog.info? 5 with
        | none => rw [hh] at h; cases h
        | some i =>
          rw [hh] at h
          simp only [Option.map_some, Option.some.injEq, Prod.mk.injEq] at h
          exact ⟨i, rfl, h.1, h.2.1, h.2.2⟩
      go_wp2_with (first | (go_at_call 40; refine (hC _).mono ?_; rintro e w' ⟨rfl, k, rfl⟩) | (refine wpList_make_full _ rfl _ _ 67 rfl w.heap.size 5 i5 _ 1 Try.underlying67 hi5 hz5 hs5 .i64 .i64 _ _ (2 * n) rfl rfl (by omega) (by omega) (by rw [hb5]; omega) (by unfold maxLen; omega) (Nat.le_refl _) ?_; intro w5 hown hgr))
      go_ret
      have hB : w.heap.size ≤ w5.heap.size := hgr.size
      have hrow := own_full hown
      rw [made_bytes] at hrow
      have hne := hpe.out
      rw [← hne]
      refine ⟨_, _, rfl, hB, Nat.le_refl _, ⟨List.replicate (2 * n) 0, ⟨?_, block_alloc hrow, by simp, ?_, hr.1, hr.2⟩, by simp, ?_⟩, ?_⟩
      · rw [List.length_replicate]; exact block_new w5 _
      · intro x hx; rw [(List.mem_replicate.1 hx).2]; omega
      · intro i hi
        unfold cell
        rw [List.getD_eq_getElem?_getD, List.getD_eq_getElem?_getD, List.getElem?_replicate, List.getElem?_replicate, if_pos (by omega), if_pos (by omega)]
        simp
      · exact (Below.alloc (below_of_grown hgr) hB _)

end Go.Proofs.Ytkeicfajlmhajaa.Sk

namespace Go.Proofs.Ytkeicfajlmhajaa.Sr
open Go Go.RowKit Go.Proofs.Ytkeicfajlmhajaa.K Go.Proofs.Ytkeicfajlmhajaa.Sk

/-- The powers, from one. -/
def Pow1 (n : Nat) : Prop := n = 1 ∨ n = 2 ∨ n = 4 ∨ Sk.Pow n
theorem pow1_next {n : Nat} {c : Int} (h : Pow1 n) (hc : (n : Int) < c ∨ n < 8) (h2 : c ≤ 1024) : Pow1 (2 * n) ∧ 2 * n ≤ 1024 ∧ (2 * n ≤ 8 ∨ ((2 * n : Nat) : Int) < 2 * c) := by unfold Pow1 Sk.Pow at *; omega
theorem pow1_end {n : Nat} {c : Int} (h : Pow1 n) (hb : n ≤ 8 ∨ (n : Int) < 2 * c) (h8 : 8 ≤ n) (hc : ¬ (n : Int) < c) (h2 : c ≤ 1024) : n = pw c := by
  unfold Pow1 Sk.Pow at h
  unfold pw
  (repeat' split) <;> omega

end Go.Proofs.Ytkeicfajlmhajaa.Sr
