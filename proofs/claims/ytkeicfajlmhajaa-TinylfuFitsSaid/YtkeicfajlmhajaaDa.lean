/- The walks of package door over a list of bits. -/
import Derived.Test.YtkeicfajlmhajaaKf
import Derived.Test.YtkeicfajlmhajaaFl
import Derived.IntWalk
import Derived.Deep.RegionHeld3
import Derived.BigRegion
import Derived.Laws.BitsAllLaws
namespace Go.Proofs.Ytkeicfajlmhajaa.Do
open Go Go.RowKit Go.Proofs.Ytkeicfajlmhajaa.K Go.Proofs.Ytkeicfajlmhajaa.Ha Go.Proofs.Ytkeicfajlmhajaa.Sk

def words (W : List Nat) : List Value := W.map fun x : Nat => Value.int .u64 (x : Int)

/-- The door at b, its words at c. -/
structure Dr (w : World) (b c m : Nat) (W : List Nat) : Prop where
  obj : w.heap[b]? = some (.cells #[.slice (some ⟨c, 0, none⟩) m m] 72 (0, 0))
  row : w.heap[c]? = some (.cells (words W).toArray 63 (0, 0))
  len : W.length = m
  small : ∀ x ∈ W, x < 18446744073709551616
  m1 : 1 ≤ m
  m2 : m ≤ 128

theorem cells1 {w : World} {b : Nat} {x : Value} {T : TypeId} (h : w.heap[b]? = some (.cells #[x] T (0, 0))) : w.cell? ⟨b, 0, none⟩ = some x ∧ (∀ o, w.frozen? ⟨b, o, none⟩ = false) :=
  ⟨cell_of h 0, free_of h⟩

theorem Dr.cell {w : World} {b c m : Nat} {W : List Nat} (h : Dr w b c m W) (i : Nat) (hi : i < m) : w.cell? ⟨c, i, none⟩ = some (.int .u64 ((W.getD i 0 : Nat) : Int)) := by
  rw [cell_of h.row]
  have := h.len
  simp [words, List.getD_eq_getElem?_getD, List.getElem?_eq_getElem (show i < W.length by omega)]
theorem Dr.lt {w : World} {b c m : Nat} {W : List Nat} (h : Dr w b c m W) (i : Nat) : W.getD i 0 < 18446744073709551616 := by
  rw [List.getD_eq_getElem?_getD]
  cases hx : W[i]? with
  | none => simp
  | some x => exact h.small x (List.mem_of_getElem? hx)
theorem Dr.ne {w : World} {b c m : Nat} {W : List Nat} (h : Dr w b c m W) : b ≠ c := by
  rintro rfl
  have := h.obj.symm.trans h.row
  simp only [Option.some.injEq, Obj.cells.injEq] at this
  exact absurd this.2.1 (by decide)

/-- Where a key's bit lies. -/
def pb (m : Nat) (key : ByteArray) (i : Nat) : Nat := pl ((i : Int) + 11) key (64 * m)
theorem pb_lt (m : Nat) (key : ByteArray) (i : Nat) (hm : 1 ≤ m) : pb m key i < 64 * m := Nat.mod_lt _ (by omega)

theorem ret_two {a a' b b' : Int} (h1 : a = a') (h2 : b = b') : Ending.returned (.tuple #[.int .i64 a, .int .u64 b]) = .returned (.tuple #[.int .i64 a', .int .u64 b']) := by rw [h1, h2]
theorem one_shl (p : Nat) : IntKind.u64.wrap ((2 : Int) ^ (p % 64)) = ((2 ^ (p % 64) : Nat) : Int) := by
  have h : 2 ^ (p % 64) < 2 ^ 64 := Nat.pow_lt_pow_right (by decide) (Nat.mod_lt _ (by decide))
  have e : ((2 : Int) ^ (p % 64)) = ((2 ^ (p % 64) : Nat) : Int) := by simp
  rw [e]
  generalize 2 ^ (p % 64) = y at *
  simp only [IntKind.wrap_u64]
  omega

theorem bit_calls (b c m : Nat) (W : List Nat) (key : ByteArray) (i : Nat) (hi : i < 3) (w : World) (h : Dr w b c m W) (hn : key.size ≤ 140737488351232) :
    Calls Try.prog 59 #[.pointer (some ⟨b, 0, none⟩), .int .i64 (i : Int), .string key] w fun e w' =>
      e = .returned (.tuple #[.int .i64 ((pb m key i / 64 : Nat) : Int), .int .u64 ((2 ^ (pb m key i % 64) : Nat) : Int)]) ∧ ∃ k, w' = w.drewN k := by
  have m1 := h.m1
  have m2 := h.m2
  obtain ⟨c0, fr⟩ := cells1 h.obj
  obtain ⟨hh, -, g0, g1⟩ := HF_spec key ((i : Int) + 11) hn
  have HHA := fun w => hash_any hh w
  have HPL := fun w => place_any (HF ((i : Int) + 11) key) (64 * m) ⟨g0, g1⟩ (by omega) (by omega) w
  have hp : (HF ((i : Int) + 11) key).toNat % (64 * m) = pb m key i := rfl
  rw [hp] at HPL
  have hlt := pb_lt m key i m1
  generalize pb m key i = p at *
  generalize hq : HF ((i : Int) + 11) key = q at *
  have e1 : IntKind.i64.wrap (11 + (i : Int)) = (i : Int) + 11 := by rw [IntWalk.i64_in _ (by omega)]; omega
  have e3 : IntKind.u64.wrap ((i : Int) + 11) = (i : Int) + 11 := by simp only [IntKind.wrap_u64]; omega
  have e4 : IntKind.i64.wrap (64 * (m : Int)) = ((64 * m : Nat) : Int) := by rw [IntWalk.i64_in _ (by omega)]; omega
  clear h hh hq hp
  go_enter Try.func59, Try.ntmps59
  go_wp2_with fail
  go_region_held3 (fun w' => w'.cell? ⟨b, 0, none⟩ = some (.slice (some ⟨c, 0, none⟩) m m))
    (first | go_keep)
    (first | (go_at_call 77; refine (HHA _).mono ?_; rintro e w' ⟨rfl, k, rfl⟩) | (go_at_call 76; refine (HPL _).mono ?_; rintro e w' ⟨rfl, k, rfl⟩))
  clear e1 e3 e4
  have z0 : (0 : Int) ≤ (p : Int) := by omega
  have z1 : (p : Int) < 8192 := by omega
  have e5 : IntKind.i64.wrap ((p : Int).tdiv 64) = ((p / 64 : Nat) : Int) := by rw [Int.tdiv_eq_ediv_of_nonneg (by omega), IntWalk.i64_in _ (by omega)]; omega
  have e6 : IntKind.i64.wrap ((p : Int).tmod 64) = ((p % 64 : Nat) : Int) := by rw [Int.tmod_eq_emod_of_nonneg (by omega), IntWalk.i64_in _ (by omega)]; omega
  go_wp2_with fail
  go_quiet (fail)
  go_wp2_with fail
  go_ret2
  exact ⟨ret_two (by omega) (one_shl p), drawn_add _ _⟩

/-- The door at b: its bits. -/
def Dq (w : World) (b c m : Nat) (B : List Bool) : Prop := ∃ W, Dr w b c m W ∧ B.length = 64 * m ∧ ∀ p, p < 64 * m → (W.getD (p / 64) 0).testBit (p % 64) = B.getD p false

variable {w : World} {b c m : Nat} {B : List Bool}

theorem Dq.m1 (h : Dq w b c m B) : 1 ≤ m := by obtain ⟨W, h, _⟩ := h; exact h.m1
theorem Dq.m2 (h : Dq w b c m B) : m ≤ 128 := by obtain ⟨W, h, _⟩ := h; exact h.m2
theorem Dq.len (h : Dq w b c m B) : B.length = 64 * m := by obtain ⟨W, _, h, _⟩ := h; exact h
theorem Dq.drewN (h : Dq w b c m B) (k : Nat) : Dq (w.drewN k) b c m B := by
  obtain ⟨W, h, h1⟩ := h; exact ⟨W, ⟨h.obj, h.row, h.len, h.small, h.m1, h.m2⟩, h1⟩
theorem Dq.upd {w' : World} {F : Nat → Prop} (h : Dq w b c m B) (hu : Upd F w w') (h1 : ¬ F b) (h2 : ¬ F c) : Dq w' b c m B := by
  obtain ⟨W, h, h'⟩ := h; exact ⟨W, ⟨hu.get h.obj h1, hu.get h.row h2, h.len, h.small, h.m1, h.m2⟩, h'⟩
theorem Dq.below {w' : World} (h : Dq w b c m B) (hu : Below w.heap.size w w') : Dq w' b c m B := by
  obtain ⟨W, h, h'⟩ := h
  exact ⟨W, ⟨(hu.block _ (lt_of_block h.obj)).trans h.obj, (hu.block _ (lt_of_block h.row)).trans h.row, h.len, h.small, h.m1, h.m2⟩, h'⟩
theorem Dq.ltb (h : Dq w b c m B) : b < w.heap.size ∧ c < w.heap.size := by
  obtain ⟨W, h, _⟩ := h; exact ⟨lt_of_block h.obj, lt_of_block h.row⟩

/-- Whether the first k bits of a key are set. -/
def hask (m : Nat) (B : List Bool) (key : ByteArray) (k : Nat) : Bool := (List.range k).all fun i => B.getD (pb m key i) false
def has (m : Nat) (B : List Bool) (key : ByteArray) : Bool := hask m B key 3
theorem hask_succ (m : Nat) (B : List Bool) (key : ByteArray) (k : Nat) : hask m B key (k + 1) = (hask m B key k && B.getD (pb m key k) false) := by
  simp [hask, List.range_succ]
theorem has_false {key : ByteArray} {k : Nat} (hk : k < 3) (h : B.getD (pb m key k) false = false) : has m B key = false := by
  unfold has hask
  rw [List.all_eq_false]
  exact ⟨k, List.mem_range.2 hk, by rw [h]; simp⟩

theorem and_bit {x k : Nat} (hx : x < 18446744073709551616) (hk : k < 64) : (Go.bits .and .u64 (x : Int) ((2 ^ k : Nat) : Int) == 0) = !x.testBit k := by
  have h : 2 ^ k < 2 ^ 64 := Nat.pow_lt_pow_right (by decide) hk
  rw [u64_and_nat x (2 ^ k) hx h]
  cases ht : x.testBit k with
  | false =>
    have : x &&& 2 ^ k = 0 := by
      apply Nat.eq_of_testBit_eq
      intro i
      rw [Nat.testBit_and, Nat.testBit_two_pow, Nat.zero_testBit]
      by_cases e : k = i
      · subst e; rw [ht]; rfl
      · simp [e]
    rw [this]; rfl
  | true =>
    have : x &&& 2 ^ k ≠ 0 := fun e => by
      have h2 := congrArg (fun n => n.testBit k) e
      simp only [Nat.testBit_and, Nat.testBit_two_pow, Nat.zero_testBit, ht] at h2
      simp at h2
    simp; omega

theorem has_dq (key : ByteArray) (h : Dq w b c m B) (hn : key.size ≤ 140737488351232) :
    Calls Try.prog 58 #[.pointer (some ⟨b, 0, none⟩), .string key] w fun e w' => e = .returned (.bool (has m B key)) ∧ ∃ k, w' = w.drewN k := by
  obtain ⟨W, h, hl, hb⟩ := h
  have m1 := h.m1
  have m2 := h.m2
  have H := Lib.hid h
  have HB := Lib.hid hb
  obtain ⟨c0, fr⟩ := cells1 h.obj
  clear h hb
  go_enter Try.func58, Try.ntmps58
  go_wp2_with fail
  go_loopw [10] (fun v10 wr => ∃ k : Nat, k ≤ 3 ∧ v10 = .int .i64 k ∧ hask m B key k = true ∧ ∃ q, wr = w.drewN q) (fun v10 wr => 3 - (intOf v10).toNat)
  case atStart => exact ⟨0, by omega, rfl, rfl, 0, rfl⟩
  case round =>
    obtain ⟨k, hk, rfl, hs, q, rfl⟩ := hrel
    have HS := Lib.hid hs
    clear hs
    by_cases hlt : k < 3
    · have A : ∀ w', Dr w' b c m W → Calls Try.prog 59 _ w' _ := fun w' h' => bit_calls b c m W key k hlt w' h' hn
      have hp := pb_lt m key k m1
      have HN := Lib.hid (hask_succ m B key k)
      have HF2 : Hid (B.getD (pb m key k) false = false → has m B key = false) := Lib.hid (fun e => has_false hlt e)
      have hbit := HB.out _ hp
      generalize pb m key k = p at *
      have HD : ∀ n, Dr (w.drewN n) b c m W := fun n => ⟨H.out.obj, H.out.row, H.out.len, H.out.small, H.out.m1, H.out.m2⟩
      have d := H.out.cell (p / 64) (by omega)
      have hx := H.out.lt (p / 64)
      generalize W.getD (p / 64) 0 = x at *
      have hand := and_bit hx (show p % 64 < 64 by omega)
      rw [hbit] at hand
      generalize hpow : 2 ^ (p % 64) = y at *
      have z0 : (0 : Int) ≤ ((p / 64 : Nat) : Int) := by omega
      have z1 : ((p / 64 : Nat) : Int) < (m : Int) := by omega
      have A' := Lib.hid A
      have HD' := Lib.hid HD
      clear A HD hbit hpow
      cases hv : B.getD p false with
      | false =>
        rw [hv] at hand
        have HV := Lib.hid hv
        clear hv
        go_wp2_with (go_at_call 59; refine (A'.out _ (HD'.out _)).mono ?_; rintro e w2 ⟨rfl, q2, rfl⟩)
        go_ret
        exact ⟨ret_bool (HF2.out HV.out).symm, _, rfl⟩
      | true =>
        rw [hv] at hand
        have HV := Lib.hid hv
        clear hv
        go_wp2_with (go_at_call 59; refine (A'.out _ (HD'.out _)).mono ?_; rintro e w2 ⟨rfl, q2, rfl⟩)
        go_roundw
        case rel => exact ⟨k + 1, by omega, by go_num, by rw [HN.out, HS.out, HV.out]; rfl, _, rfl⟩
        case measure => simp [intOf]; omega
    · obtain rfl : k = 3 := by omega
      go_wp2_with fail
      go_ret
      exact ⟨ret_bool HS.out.symm, _, rfl⟩

end Go.Proofs.Ytkeicfajlmhajaa.Do
