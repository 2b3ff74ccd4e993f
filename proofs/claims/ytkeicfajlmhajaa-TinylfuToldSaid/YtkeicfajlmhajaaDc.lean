/- The walks of package door: New; a nil door; known; the reference's door. -/
import Derived.Test.YtkeicfajlmhajaaDb
namespace Go.Proofs.Ytkeicfajlmhajaa.Do
open Go Go.RowKit Go.Proofs.Ytkeicfajlmhajaa.K Go.Proofs.Ytkeicfajlmhajaa.Ha Go.Proofs.Ytkeicfajlmhajaa.Sk

/-- The least power of two that is not below a clamped room. -/
def pw1 (c : Int) : Nat := if c ≤ 1 then 1 else if c ≤ 2 then 2 else if c ≤ 4 then 4 else pw c
/-- How many words a door has. -/
def dw (room : Int) : Nat := max 1 (8 * pw1 (clamp room 1 1024) / 64)
theorem pw1_range (c : Int) : 1 ≤ pw1 c ∧ pw1 c ≤ 1024 := by unfold pw1 pw; (repeat' split) <;> omega
theorem dw_range (room : Int) : 1 ≤ dw room ∧ dw room ≤ 128 := by
  have := pw1_range (clamp room 1 1024)
  unfold dw; omega
theorem p1_next {n : Nat} {c : Int} (h : Sr.Pow1 n) (hc : (n : Int) < c) (h2 : c ≤ 1024) : Sr.Pow1 (2 * n) ∧ 2 * n ≤ 1024 ∧ (2 * n = 1 ∨ ((2 * n : Nat) : Int) < 2 * c) := by unfold Sr.Pow1 Sk.Pow at *; omega
theorem p1_end {n : Nat} {c : Int} (h : Sr.Pow1 n) (hb : n = 1 ∨ (n : Int) < 2 * c) (hc : ¬ (n : Int) < c) (h2 : c ≤ 1024) : n = pw1 c := by
  unfold Sr.Pow1 Sk.Pow at h
  unfold pw1 pw
  (repeat' split) <;> omega
theorem p1_ge {n : Nat} (h : Sr.Pow1 n) : 1 ≤ n := by unfold Sr.Pow1 Sk.Pow at h; omega
theorem made_words (n : Nat) : (madeCells (Value.int .u64 0).cells (n * 1)).toList = words (List.replicate n 0) := by
  rw [Nat.mul_one]
  refine (made_one (.int .u64 0) n).trans ?_
  simp [words]

def NewPost (m : Nat) (w : World) (e : Ending) (w' : World) : Prop :=
  ∃ b c, e = .returned (.pointer (some ⟨b, 0, none⟩)) ∧ w.heap.size ≤ b ∧ w.heap.size ≤ c ∧ Dq w' b c m (List.replicate (64 * m) false) ∧ Below w.heap.size w w'

set_option maxRecDepth 100000 in
theorem new_dq (room : Int) (w : World) : Calls Try.prog 26 #[.int .i64 room] w (NewPost (dw room) w) := by
  have hdr := dw_range room
  have hdw : dw room = max 1 (8 * pw1 (clamp room 1 1024) / 64) := rfl
  generalize dw room = m at *
  obtain ⟨m1, m2⟩ := hdr
  have hc2 : clamp room 1 1024 ≤ 1024 := by unfold clamp; omega
  have hC := fun w => clamp_any room 1 1024 w
  generalize clamp room 1 1024 = c at *
  obtain ⟨i5, hi5, hz5, hs5, hb5⟩ := info_parts info56
  have HD := Lib.hid hdw
  have HC := Lib.hid hC
  clear hdw hC
  go_enter Try.func26, Try.ntmps26
  go_wp2_with fail
  go_loopw [3] (fun v3 wr => ∃ n : Nat, v3 = .int .i64 n ∧ Sr.Pow1 n ∧ (n = 1 ∨ (n : Int) < 2 * c) ∧ n ≤ 1024 ∧ ∃ m, wr = w.drewN m) (fun v3 wr => 1024 - (intOf v3).toNat)
  case atStart => exact ⟨1, rfl, .inl rfl, .inl rfl, by omega, 0, rfl⟩
  case round =>
    obtain ⟨n, rfl, hp, hb, hn, q, rfl⟩ := hrel
    have hn1 := p1_ge hp
    by_cases hlt : (n : Int) < c
    · have HP := Lib.hid (p1_next hp hlt hc2)
      clear hp
      go_wp2_with (go_at_call 40; refine (HC.out _).mono ?_; rintro e w' ⟨rfl, k, rfl⟩)
      go_roundw
      case rel => exact ⟨2 * n, by go_num, HP.out.1, HP.out.2.2, HP.out.2.1, _, rfl⟩
      case measure => simp [intOf]; omega
    · have hpe := p1_end hp hb hlt hc2
      have hm : max 1 (8 * n / 64) = m := by rw [HD.out, ← hpe]
      have HM := Lib.hid hm
      have e1 : wrap64 (8 * (n : Int)) = 8 * (n : Int) := by unfold wrap64; omega
      have e2 : wrap64 ((8 * (n : Int)).tdiv 64) = ((8 * n / 64 : Nat) : Int) := by rw [Int.tdiv_eq_ediv_of_nonneg (by omega)]; unfold wrap64; omega
      clear hpe hp hb hm
      go_wp2_with (first | (go_at_call 40; refine (HC.out _).mono ?_; rintro e w' ⟨rfl, k, rfl⟩) | (refine wpList_make_full _ rfl _ _ 70 rfl w.heap.size 63 i5 _ 1 Try.underlying70 hi5 hz5 hs5 .i64 .i64 _ _ m rfl rfl (by have := HM.out; omega) (by have := HM.out; omega) (by rw [hb5]; omega) (by unfold maxLen; omega) (Nat.le_refl _) ?_; intro w5 hown hgr))
      all_goals
        go_ret
        have hB : w.heap.size ≤ w5.heap.size := hgr.size
        have hrow := own_full hown
        rw [made_words] at hrow
        exact ⟨_, _, rfl, hB, Nat.le_refl _, dq_zero (block_new w5 _) (block_alloc hrow) m1 m2, (below_of_grown hgr).alloc hB _⟩

/-! Plain: what an Add leaves. -/
theorem setk_length (m : Nat) (B : List Bool) (key : ByteArray) : ∀ k, (setk m B key k).length = B.length
  | 0 => rfl
  | k + 1 => by simp [setk, setk_length m B key k]
theorem addB_length (m : Nat) (B : List Bool) (key : ByteArray) : (addB m B key).length = B.length := setk_length m B key 3
theorem addB_get (m : Nat) (B : List Bool) (key : ByteArray) (hl : B.length = 64 * m) (hm : 1 ≤ m) (j : Nat) :
    (addB m B key).getD j false = (decide (j = pb m key 0 ∨ j = pb m key 1 ∨ j = pb m key 2) || B.getD j false) := by
  have h0 := pb_lt m key 0 hm
  have h1 := pb_lt m key 1 hm
  have h2 := pb_lt m key 2 hm
  unfold addB
  simp only [setk, getD_setB, List.length_set]
  by_cases e0 : j = pb m key 0
  · subst e0; simp; (repeat' split) <;> simp_all
  · by_cases e1 : j = pb m key 1
    · subst e1; simp; (repeat' split) <;> simp_all
    · by_cases e2 : j = pb m key 2
      · subst e2; simp; (repeat' split) <;> simp_all
      · rw [if_neg (fun h => e2 h.1.symm), if_neg (fun h => e1 h.1.symm), if_neg (fun h => e0 h.1.symm)]
        simp [e0, e1, e2]
theorem has_eq (m : Nat) (B : List Bool) (key : ByteArray) : has m B key = (B.getD (pb m key 0) false && B.getD (pb m key 1) false && B.getD (pb m key 2) false) := by
  unfold has
  rw [hask_succ, hask_succ, hask_succ]
  simp [hask]
theorem has_add (m : Nat) (B : List Bool) (key : ByteArray) (hl : B.length = 64 * m) (hm : 1 ≤ m) : has m (addB m B key) key = true := by
  rw [has_eq, addB_get m B key hl hm, addB_get m B key hl hm, addB_get m B key hl hm]
  simp
theorem has_mono (m : Nat) (B : List Bool) (key k2 : ByteArray) (hl : B.length = 64 * m) (hm : 1 ≤ m) (h : has m B k2 = true) : has m (addB m B key) k2 = true := by
  rw [has_eq] at h
  simp only [Bool.and_eq_true] at h
  rw [has_eq, addB_get m B key hl hm, addB_get m B key hl hm, addB_get m B key hl hm, h.1.1, h.1.2, h.2]
  simp
end Go.Proofs.Ytkeicfajlmhajaa.Do
