/- The walks of package door over a list of bits. -/
import Derived.Test.YtkeicfajlmhajaaGreatKa
import Derived.Test.YtkeicfajlmhajaaGreatFl
import Derived.IntWalk
import Derived.Deep.RegionHeld3
import Derived.BigRegion
import Derived.Laws.BitsAllLaws
import Derived.WalkLawsBesides
import Derived.OwnWalk
namespace Go.Proofs.YtkeicfajlmhajaaGreat.Do
open Go Go.RowKit Go.Proofs.YtkeicfajlmhajaaGreat.K Go.Proofs.YtkeicfajlmhajaaGreat.Ha Go.Proofs.YtkeicfajlmhajaaGreat.Sk

def words (W : List Nat) : List Value := W.map fun x : Nat => Value.int .u64 (x : Int)

/-- The door at b, its words at c. -/
structure Dr (w : World) (b c m : Nat) (W : List Nat) : Prop where
  obj : w.heap[b]? = some (.cells #[.slice (some ⟨c, 0, none⟩) m m] 90 (0, 0))
  row : w.heap[c]? = some (.cells (words W).toArray 81 (0, 0))
  len : W.length = m
  small : ∀ x ∈ W, x < 18446744073709551616
  m1 : 1 ≤ m
  m2 : m ≤ 128

theorem cells1 {w : World} {b : Nat} {x : Value} {T : TypeId} (h : w.heap[b]? = some (.cells #[x] T (0, 0))) : w.cell? ⟨b, 0, none⟩ = some x ∧ (∀ o, w.frozen? ⟨b, o, none⟩ = false) :=
  ⟨cell_of h 0, free_of h⟩

theorem Dr.cell {w : World} {b c m : Nat} {W : List Nat} (h : Dr w b c m W) (i : Nat) (hi : i < m) : w.cell? ⟨c, i, none⟩ = some (.int .u64 ((W.getD i 0 : Nat) : Int)) := by
  rw [cell_of h.row]
  have := h.len
  simp [words, List.getD_eq_getElem?_getD, List.getElem?_eq_getElem (show i < W.length by omega)]
theorem Dr.lt {w : World} {b c m : Nat} {W : List Nat} (h : Dr w b c m W) (i : Nat) : W.getD i 0 < 18446744073709551616 := by
  rw [List.getD_eq_getElem?_getD]
  cases hx : W[i]? with
  | none => simp
  | some x => exact h.small x (List.mem_of_getElem? hx)
theorem Dr.ne {w : World} {b c m : Nat} {W : List Nat} (h : Dr w b c m W) : b ≠ c := by
  rintro rfl
  have := h.obj.symm.trans h.row
  simp only [Option.some.injEq, Obj.cells.injEq] at this
  exact absurd this.2.1 (by decide)

/-- Where a key's bit lies. -/
def pb (m : Nat) (key : ByteArray) (i : Nat) : Nat := pl ((i : Int) + 11) key (64 * m)
theorem pb_lt (m : Nat) (key : ByteArray) (i : Nat) (hm : 1 ≤ m) : pb m key i < 64 * m := Nat.mod_lt _ (by omega)

theorem ret_two {a a' b b' : Int} (h1 : a = a') (h2 : b = b') : Ending.returned (.tuple #[.int .i64 a, .int .u64 b]) = .returned (.tuple #[.int .i64 a', .int .u64 b']) := by rw [h1, h2]
theorem one_shl (p : Nat) : IntKind.u64.wrap ((2 : Int) ^ (p % 64)) = ((2 ^ (p % 64) : Nat) : Int) := by
  have h : 2 ^ (p % 64) < 2 ^ 64 := Nat.pow_lt_pow_right (by decide) (Nat.mod_lt _ (by decide))
  have e : ((2 : Int) ^ (p % 64)) = ((2 ^ (p % 64) : Nat) : Int) := by simp
  rw [e]
  generalize 2 ^ (p % 64) = y at *
  simp only [IntKind.wrap_u64]
  omega

theorem bit_calls (b c m : Nat) (W : List Nat) (key : ByteArray) (i : Nat) (hi : i < 3) (w : World) (h : Dr w b c m W) (hn : key.size ≤ 140737488351232) :
    Calls Tryz.prog 100 #[.pointer (some ⟨b, 0, none⟩), .int .i64 (i : Int), .string key] w fun e w' =>
      e = .returned (.tuple #[.int .i64 ((pb m key i / 64 : Nat) : Int), .int .u64 ((2 ^ (pb m key i % 64) : Nat) : Int)]) ∧ ∃ k, w' = w.drewN k := by
  have m1 := h.m1
  have m2 := h.m2
  obtain ⟨c0, fr⟩ := cells1 h.obj
  obtain ⟨hh, -, g0, g1⟩ := HF_spec key ((i : Int) + 11) hn
  have HHA := fun w => hash_any hh w
  have HPL := fun w => place_any (HF ((i : Int) + 11) key) (64 * m) ⟨g0, g1⟩ (by omega) (by omega) w
  have hp : (HF ((i : Int) + 11) key).toNat % (64 * m) = pb m key i := rfl
  rw [hp] at HPL
  have hlt := pb_lt m key i m1
  generalize pb m key i = p at *
  generalize hq : HF ((i : Int) + 11) key = q at *
  have e1 : IntKind.i64.wrap (11 + (i : Int)) = (i : Int) + 11 := by rw [IntWalk.i64_in _ (by omega)]; omega
  have e3 : IntKind.u64.wrap ((i : Int) + 11) = (i : Int) + 11 := by simp only [IntKind.wrap_u64]; omega
  have e4 : IntKind.i64.wrap (64 * (m : Int)) = ((64 * m : Nat) : Int) := by rw [IntWalk.i64_in _ (by omega)]; omega
  clear h hh hq hp
  go_enter Tryz.func100, Tryz.ntmps100
  go_wp2_with fail
  go_region_held3 (fun w' => w'.cell? ⟨b, 0, none⟩ = some (.slice (some ⟨c, 0, none⟩) m m))
    (first | go_keep)
    (first | (go_at_call 113; refine (HHA _).mono ?_; rintro e w' ⟨rfl, k, rfl⟩) | (go_at_call 112; refine (HPL _).mono ?_; rintro e w' ⟨rfl, k, rfl⟩))
  clear e1 e3 e4
  have z0 : (0 : Int) ≤ (p : Int) := by omega
  have z1 : (p : Int) < 8192 := by omega
  have e5 : IntKind.i64.wrap ((p : Int).tdiv 64) = ((p / 64 : Nat) : Int) := by rw [Int.tdiv_eq_ediv_of_nonneg (by omega), IntWalk.i64_in _ (by omega)]; omega
  have e6 : IntKind.i64.wrap ((p : Int).tmod 64) = ((p % 64 : Nat) : Int) := by rw [Int.tmod_eq_emod_of_nonneg (by omega), IntWalk.i64_in _ (by omega)]; omega
  go_wp2_with fail
  go_quiet (fail)
  go_wp2_with fail
  go_ret2
  exact ⟨ret_two (by omega) (one_shl p), drawn_add _ _⟩

/-- The door at b: its bits. -/
def Dq (w : World) (b c m : Nat) (B : List Bool) : Prop := ∃ W, Dr w b c m W ∧ B.length = 64 * m ∧ ∀ p, p < 64 * m → (W.getD (p / 64) 0).testBit (p % 64) = B.getD p false

variable {w : World} {b c m : Nat} {B : List Bool}

theorem Dq.m1 (h : Dq w b c m B) : 1 ≤ m := by obtain ⟨W, h, _⟩ := h; exact h.m1
theorem Dq.m2 (h : Dq w b c m B) : m ≤ 128 := by obtain ⟨W, h, _⟩ := h; exact h.m2
theorem Dq.len (h : Dq w b c m B) : B.length = 64 * m := by obtain ⟨W, _, h, _⟩ := h; exact h
theorem Dq.drewN (h : Dq w b c m B) (k : Nat) : Dq (w.drewN k) b c m B := by
  obtain ⟨W, h, h1⟩ := h; exact ⟨W, ⟨h.obj, h.row, h.len, h.small, h.m1, h.m2⟩, h1⟩
theorem Dq.upd {w' : World} {F : Nat → Prop} (h : Dq w b c m B) (hu : Upd F w w') (h1 : ¬ F b) (h2 : ¬ F c) : Dq w' b c m B := by
  obtain ⟨W, h, h'⟩ := h; exact ⟨W, ⟨hu.get h.obj h1, hu.get h.row h2, h.len, h.small, h.m1, h.m2⟩, h'⟩
theorem Dq.below {w' : World} (h : Dq w b c m B) (hu : Below w.heap.size w w') : Dq w' b c m B := by
  obtain ⟨W, h, h'⟩ := h
  exact ⟨W, ⟨(hu.block _ (lt_of_block h.obj)).trans h.obj, (hu.block _ (lt_of_block h.row)).trans h.row, h.len, h.small, h.m1, h.m2⟩, h'⟩
theorem Dq.ltb (h : Dq w b c m B) : b < w.heap.size ∧ c < w.heap.size := by
  obtain ⟨W, h, _⟩ := h; exact ⟨lt_of_block h.obj, lt_of_block h.row⟩

/-- Whether the first k bits of a key are set. -/
def hask (m : Nat) (B : List Bool) (key : ByteArray) (k : Nat) : Bool := (List.range k).all fun i => B.getD (pb m key i) false
def has (m : Nat) (B : List Bool) (key : ByteArray) : Bool := hask m B key 3
theorem hask_succ (m : Nat) (B : List Bool) (key : ByteArray) (k : Nat) : hask m B key (k + 1) = (hask m B key k && B.getD (pb m key k) false) := by
  simp [hask, List.range_succ]
theorem has_false {key : ByteArray} {k : Nat} (hk : k < 3) (h : B.getD (pb m key k) false = false) : has m B key = false := by
  unfold has hask
  rw [List.all_eq_false]
  exact ⟨k, List.mem_range.2 hk, by rw [h]; simp⟩

theorem and_bit {x k : Nat} (hx : x < 18446744073709551616) (hk : k < 64) : (Go.bits .and .u64 (x : Int) ((2 ^ k : Nat) : Int) == 0) = !x.testBit k := by
  have h : 2 ^ k < 2 ^ 64 := Nat.pow_lt_pow_right (by decide) hk
  rw [u64_and_nat x (2 ^ k) hx h]
  cases ht : x.testBit k with
  | false =>
    have : x &&& 2 ^ k = 0 := by
      apply Nat.eq_of_testBit_eq
      intro i
      rw [Nat.testBit_and, Nat.testBit_two_pow, Nat.zero_testBit]
      by_cases e : k = i
      · subst e; rw [ht]; rfl
      · simp [e]
    rw [this]; rfl
  | true =>
    have : x &&& 2 ^ k ≠ 0 := fun e => by
      have h2 := congrArg (fun n => n.testBit k) e
      simp only [Nat.testBit_and, Nat.testBit_two_pow, Nat.zero_testBit, ht] at h2
      simp at h2
    simp; omega

theorem has_dq (key : ByteArray) (h : Dq w b c m B) (hn : key.size ≤ 140737488351232) :
    Calls Tryz.prog 99 #[.pointer (some ⟨b, 0, none⟩), .string key] w fun e w' => e = .returned (.bool (has m B key)) ∧ ∃ k, w' = w.drewN k := by
  obtain ⟨W, h, hl, hb⟩ := h
  have m1 := h.m1
  have m2 := h.m2
  have H := Lib.hid h
  have HB := Lib.hid hb
  obtain ⟨c0, fr⟩ := cells1 h.obj
  clear h hb
  go_enter Tryz.func99, Tryz.ntmps99
  go_wp2_with fail
  go_loopw [10] (fun v10 wr => ∃ k : Nat, k ≤ 3 ∧ v10 = .int .i64 k ∧ hask m B key k = true ∧ ∃ q, wr = w.drewN q) (fun v10 wr => 3 - (intOf v10).toNat)
  case atStart => exact ⟨0, by omega, rfl, rfl, 0, rfl⟩
  case round =>
    obtain ⟨k, hk, rfl, hs, q, rfl⟩ := hrel
    have HS := Lib.hid hs
    clear hs
    by_cases hlt : k < 3
    · have A : ∀ w', Dr w' b c m W → Calls Tryz.prog 100 _ w' _ := fun w' h' => bit_calls b c m W key k hlt w' h' hn
      have hp := pb_lt m key k m1
      have HN := Lib.hid (hask_succ m B key k)
      have HF2 : Hid (B.getD (pb m key k) false = false → has m B key = false) := Lib.hid (fun e => has_false hlt e)
      have hbit := HB.out _ hp
      generalize pb m key k = p at *
      have HD : ∀ n, Dr (w.drewN n) b c m W := fun n => ⟨H.out.obj, H.out.row, H.out.len, H.out.small, H.out.m1, H.out.m2⟩
      have d := H.out.cell (p / 64) (by omega)
      have hx := H.out.lt (p / 64)
      generalize W.getD (p / 64) 0 = x at *
      have hand := and_bit hx (show p % 64 < 64 by omega)
      rw [hbit] at hand
      generalize hpow : 2 ^ (p % 64) = y at *
      have z0 : (0 : Int) ≤ ((p / 64 : Nat) : Int) := by omega
      have z1 : ((p / 64 : Nat) : Int) < (m : Int) := by omega
      have A' := Lib.hid A
      have HD' := Lib.hid HD
      clear A HD hbit hpow
      cases hv : B.getD p false with
      | false =>
        rw [hv] at hand
        have HV := Lib.hid hv
        clear hv
        go_wp2_with (go_at_call 100; refine (A'.out _ (HD'.out _)).mono ?_; rintro e w2 ⟨rfl, q2, rfl⟩)
        go_ret
        exact ⟨ret_bool (HF2.out HV.out).symm, _, rfl⟩
      | true =>
        rw [hv] at hand
        have HV := Lib.hid hv
        clear hv
        go_wp2_with (go_at_call 100; refine (A'.out _ (HD'.out _)).mono ?_; rintro e w2 ⟨rfl, q2, rfl⟩)
        go_roundw
        case rel => exact ⟨k + 1, by omega, by go_num, by rw [HN.out, HS.out, HV.out]; rfl, _, rfl⟩
        case measure => simp [intOf]; omega
    · obtain rfl : k = 3 := by omega
      go_wp2_with fail
      go_ret
      exact ⟨ret_bool HS.out.symm, _, rfl⟩

end Go.Proofs.YtkeicfajlmhajaaGreat.Do

/- The walks of package door: Add, Ones, Clear, New. -/
namespace Go.Proofs.YtkeicfajlmhajaaGreat.Do
open Go Go.RowKit Go.Proofs.YtkeicfajlmhajaaGreat.K Go.Proofs.YtkeicfajlmhajaaGreat.Ha Go.Proofs.YtkeicfajlmhajaaGreat.Sk

variable {w : World} {b c m : Nat} {B : List Bool}

/-- k bits of a key are set. -/
def setk (m : Nat) (B : List Bool) (key : ByteArray) : Nat → List Bool
  | 0 => B
  | k + 1 => (setk m B key k).set (pb m key k) true
def addB (m : Nat) (B : List Bool) (key : ByteArray) : List Bool := setk m B key 3

theorem getD_setB (B : List Bool) (i j : Nat) (v : Bool) : (B.set i v).getD j false = if i = j ∧ j < B.length then v else B.getD j false := by
  rw [List.getD_eq_getElem?_getD, List.getD_eq_getElem?_getD, List.getElem?_set]
  by_cases h : i = j
  · subst h
    by_cases h2 : i < B.length
    · rw [if_pos rfl, if_pos h2, if_pos ⟨rfl, h2⟩]; rfl
    · rw [if_pos rfl, if_neg h2, if_neg (fun h => h2 h.2), List.getElem?_eq_none (by omega)]
  · rw [if_neg h, if_neg (fun h' => h h'.1)]
theorem getD_setN (W : List Nat) (i j v : Nat) : (W.set i v).getD j 0 = if i = j ∧ j < W.length then v else W.getD j 0 := by
  rw [List.getD_eq_getElem?_getD, List.getD_eq_getElem?_getD, List.getElem?_set]
  by_cases h : i = j
  · subst h
    by_cases h2 : i < W.length
    · rw [if_pos rfl, if_pos h2, if_pos ⟨rfl, h2⟩]; rfl
    · rw [if_pos rfl, if_neg h2, if_neg (fun h => h2 h.2), List.getElem?_eq_none (by omega)]
  · rw [if_neg h, if_neg (fun h' => h h'.1)]

theorem or_bit {x k : Nat} (hx : x < 18446744073709551616) (hk : k < 64) : Go.bits .or .u64 (x : Int) ((2 ^ k : Nat) : Int) = ((x ||| 2 ^ k : Nat) : Int) ∧ x ||| 2 ^ k < 18446744073709551616 := by
  have h : 2 ^ k < 2 ^ 64 := Nat.pow_lt_pow_right (by decide) hk
  exact ⟨u64_or_nat x (2 ^ k) hx h, Nat.or_lt_two_pow (n := 64) hx h⟩

/-- One bit is set. -/
theorem dq_set {W : List Nat} (h : Dr w b c m W) (hl : B.length = 64 * m) (hb : ∀ p, p < 64 * m → (W.getD (p / 64) 0).testBit (p % 64) = B.getD p false) (p : Nat) (hp : p < 64 * m) :
    Dq (w.setCell ⟨c, p / 64, none⟩ (.int .u64 ((W.getD (p / 64) 0 ||| 2 ^ (p % 64) : Nat) : Int))) b c m (B.set p true) := by
  have hx := h.lt (p / 64)
  obtain ⟨-, ho⟩ := or_bit hx (show p % 64 < 64 by omega)
  refine ⟨W.set (p / 64) (W.getD (p / 64) 0 ||| 2 ^ (p % 64)), ⟨block_other h.ne h.obj, (block_setCell h.row).trans ?_, by simpa using h.len, fun x hx' => ?_, h.m1, h.m2⟩, by simpa using hl, fun q hq => ?_⟩
  · congr 2
    apply Array.ext'
    simp [words, List.map_set]
  · rcases List.mem_or_eq_of_mem_set hx' with e | e
    · exact h.small x e
    · rw [e]; exact ho
  · have hwl := h.len
    rw [getD_setN, getD_setB]
    by_cases e : p / 64 = q / 64
    · rw [if_pos ⟨e, by omega⟩, Nat.testBit_or, Nat.testBit_two_pow, e, hb q hq]
      by_cases e2 : p = q
      · subst e2; simp; omega
      · rw [if_neg (fun h => e2 h.1)]
        have : p % 64 ≠ q % 64 := fun e3 => e2 (by omega)
        simp [this]
    · rw [if_neg (fun h => e h.1), if_neg (fun h => e (by rw [h.1])), hb q hq]

def AddPost (b c m : Nat) (B : List Bool) (key : ByteArray) (w : World) (e : Ending) (w' : World) : Prop :=
  e = .returned (.bool (has m B key)) ∧ Dq w' b c m (addB m B key) ∧ Upd (· = c) w w'

theorem add_dq (key : ByteArray) (h : Dq w b c m B) (hn : key.size ≤ 140737488351232) :
    Calls Tryz.prog 80 #[.pointer (some ⟨b, 0, none⟩), .string key] w (AddPost b c m B key w) := by
  have m1 := h.m1
  have m2 := h.m2
  have A := has_dq key h hn
  have H := Lib.hid h
  have HA := Lib.hid A
  have HP := Lib.hid (fun r (hr : has m B key = r) => hr)
  clear h A
  go_enter Tryz.func80, Tryz.ntmps80
  go_wp2_with (go_at_call 99; refine HA.out.mono ?_; rintro e w1 ⟨rfl, q, rfl⟩)
  go_loopw [14] (fun v14 wr => ∃ k : Nat, k ≤ 3 ∧ v14 = .int .i64 k ∧ Dq wr b c m (setk m B key k) ∧ Upd (· = c) w wr) (fun v14 wr => 3 - (intOf v14).toNat)
  case atStart => exact ⟨0, by omega, rfl, H.out.drewN _, (Upd.refl _ _).drewN _⟩
  case round =>
    obtain ⟨k, hk, rfl, hs, hu⟩ := hrel
    have HU := Lib.hid hu
    clear hu
    by_cases hlt : k < 3
    · obtain ⟨W, h, hl, hb⟩ := hs
      have hp := pb_lt m key k m1
      have A : ∀ q, Calls Tryz.prog 100 _ (wr.drewN q) _ := fun q => bit_calls b c m W key k hlt (wr.drewN q) ⟨h.obj, h.row, h.len, h.small, h.m1, h.m2⟩ hn
      have A0 := bit_calls b c m W key k hlt wr h hn
      have S : ∀ q, Dq ((wr.drewN q).setCell ⟨c, pb m key k / 64, none⟩ _) b c m _ := fun q => dq_set (w := wr.drewN q) ⟨h.obj, h.row, h.len, h.small, h.m1, h.m2⟩ hl hb (pb m key k) hp
      have HS2 : Hid (setk m B key (k + 1) = (setk m B key k).set (pb m key k) true) := Lib.hid rfl
      have d := h.cell (pb m key k / 64) (by omega)
      obtain ⟨c0, fr⟩ := cells1 h.obj
      have frc := free_of h.row
      have hor := (or_bit (h.lt (pb m key k / 64)) (show pb m key k % 64 < 64 by omega)).1
      generalize pb m key k = p at *
      generalize W.getD (p / 64) 0 = x at *
      generalize hz : x ||| 2 ^ (p % 64) = z at *
      generalize hpow : 2 ^ (p % 64) = y at *
      have z0 : (0 : Int) ≤ ((p / 64 : Nat) : Int) := by omega
      have z1 : ((p / 64 : Nat) : Int) < (m : Int) := by omega
      have HA0 := Lib.hid A0
      have HSS := Lib.hid S
      clear A A0 S hz hpow h hl hb
      go_wp2_with (go_at_call 100; refine HA0.out.mono ?_; rintro e w2 ⟨rfl, q2, rfl⟩)
      go_roundw
      case rel => exact ⟨k + 1, by omega, by go_num, by rw [HS2.out]; exact HSS.out _, (HU.out.drewN _).setB⟩
      case measure => simp [intOf]; omega
    · obtain rfl : k = 3 := by omega
      go_wp2_with fail
      go_ret
      exact ⟨rfl, hs, HU.out⟩

theorem info56 : (Tryz.prog.info? 81).map (fun i => (i.zero, i.size, i.bytes)) = some (some (.int .u64 0), 1, 8) := by kernel_rfl
theorem zero56 (w : World) : (zeroValue 81).run Tryz.prog w = .ok (.int .u64 0) w := by kernel_rfl

theorem dq_zero (h : w.heap[b]? = some (.cells #[.slice (some ⟨c, 0, none⟩) m m] 90 (0, 0))) (hr : w.heap[c]? = some (.cells (words (List.replicate m 0)).toArray 81 (0, 0))) (h1 : 1 ≤ m) (h2 : m ≤ 128) :
    Dq w b c m (List.replicate (64 * m) false) := by
  refine ⟨List.replicate m 0, ⟨h, hr, by simp, fun x hx => ?_, h1, h2⟩, by simp, fun p hp => ?_⟩
  · rw [(List.mem_replicate.1 hx).2]; decide
  · have e1 : (List.replicate m 0).getD (p / 64) 0 = 0 := by
      rw [List.getD_eq_getElem?_getD, List.getElem?_replicate]; split <;> rfl
    have e2 : (List.replicate (64 * m) false).getD p false = false := by
      rw [List.getD_eq_getElem?_getD, List.getElem?_replicate]; split <;> rfl
    rw [e1, e2, Nat.zero_testBit]

theorem set_whole (g : Nat) (T : TypeId) : ∀ (vs : List Value) (o : Nat) (cs : Array Value) (w : World), w.heap[g]? = some (.cells cs T (0, 0)) → o + vs.length ≤ cs.size →
    (w.setCells g o vs).heap[g]? = some (.cells (cs.toList.take o ++ vs ++ cs.toList.drop (o + vs.length)).toArray T (0, 0))
  | [], o, cs, w, h, _ => by simpa [World.setCells] using h
  | v :: r, o, cs, w, h, hle => by
    simp only [List.length_cons] at hle
    have h1 := block_setCell (o := o) (v := v) h
    have h2 := set_whole g T r (o + 1) _ _ h1 (by simp; omega)
    rw [World.setCells, h2]
    congr 2
    apply Array.ext'
    simp only [Array.toList_setIfInBounds]
    have e1 : (cs.toList.set o v).take (o + 1) = cs.toList.take o ++ [v] := by
      rw [List.take_add_one, List.take_set_of_le (Nat.le_refl _), List.getElem?_set_self (by simp; omega)]; rfl
    have e2 : (cs.toList.set o v).drop (o + 1 + r.length) = cs.toList.drop (o + (r.length + 1)) := by
      rw [List.drop_set_of_lt (by omega)]; congr 1; omega
    rw [e1, e2]
    simp

set_option maxRecDepth 100000 in
theorem clear_dq (h : Dq w b c m B) : Calls Tryz.prog 83 #[.pointer (some ⟨b, 0, none⟩)] w fun e w' => e = .returned (.tuple #[]) ∧ Dq w' b c m (List.replicate (64 * m) false) ∧ Upd (· = c) w w' := by
  obtain ⟨W, h, hl, hb⟩ := h
  have m1 := h.m1
  have m2 := h.m2
  obtain ⟨c0, fr⟩ := cells1 h.obj
  have H := Lib.hid h
  have hclr := Lib.run_clear_slice (P := Tryz.prog) w 88 81 0 (.int .u64 0) Tryz.underlying88 zero56 rfl rfl c 0 m m (by omega)
    (fun j hj => by rw [Nat.zero_add, h.cell j hj]; rfl) (fun j hj => free_of h.row _)
  clear h hb hl
  go_enter Tryz.func83, Tryz.ntmps83
  go_wp2_with fail
  go_end0
  have hu : Upd (· = c) w (w.setCells c 0 (List.replicate m (.int .u64 0))) := upd_setCells _ _ _ (Upd.refl _ _) (.inl rfl)
  refine ⟨rfl, dq_zero (hu.get H.out.obj H.out.ne) ?_ m1 m2, hu⟩
  have hlen : (words W).toArray.size = m := by have := H.out.len; simp [words, this]
  rw [set_whole c 81 _ 0 _ w H.out.row (by simp [hlen])]
  congr 2
  apply Array.ext'
  have := H.out.len
  simp [words, this]

end Go.Proofs.YtkeicfajlmhajaaGreat.Do

/- The walks of package door: New; a nil door; known; the reference's door. -/
namespace Go.Proofs.YtkeicfajlmhajaaGreat.Do
open Go Go.RowKit Go.Proofs.YtkeicfajlmhajaaGreat.K Go.Proofs.YtkeicfajlmhajaaGreat.Ha Go.Proofs.YtkeicfajlmhajaaGreat.Sk

/-- The least power of two that is not below a clamped room. -/
def pw1 (c : Int) : Nat := if c ≤ 1 then 1 else if c ≤ 2 then 2 else if c ≤ 4 then 4 else pw c
/-- How many words a door has. -/
def dw (room : Int) : Nat := max 1 (8 * pw1 (clamp room 1 1024) / 64)
theorem pw1_range (c : Int) : 1 ≤ pw1 c ∧ pw1 c ≤ 1024 := by unfold pw1 pw; (repeat' split) <;> omega
theorem dw_range (room : Int) : 1 ≤ dw room ∧ dw room ≤ 128 := by
  have := pw1_range (clamp room 1 1024)
  unfold dw; omega
theorem p1_next {n : Nat} {c : Int} (h : Sr.Pow1 n) (hc : (n : Int) < c) (h2 : c ≤ 1024) : Sr.Pow1 (2 * n) ∧ 2 * n ≤ 1024 ∧ (2 * n = 1 ∨ ((2 * n : Nat) : Int) < 2 * c) := by unfold Sr.Pow1 Sk.Pow at *; omega
theorem p1_end {n : Nat} {c : Int} (h : Sr.Pow1 n) (hb : n = 1 ∨ (n : Int) < 2 * c) (hc : ¬ (n : Int) < c) (h2 : c ≤ 1024) : n = pw1 c := by
  unfold Sr.Pow1 Sk.Pow at h
  unfold pw1 pw
  (repeat' split) <;> omega
theorem p1_ge {n : Nat} (h : Sr.Pow1 n) : 1 ≤ n := by unfold Sr.Pow1 Sk.Pow at h; omega
theorem made_words (n : Nat) : (madeCells (Value.int .u64 0).cells (n * 1)).toList = words (List.replicate n 0) := by
  rw [Nat.mul_one]
  refine (made_one (.int .u64 0) n).trans ?_
  simp [words]

def NewPost (m : Nat) (w : World) (e : Ending) (w' : World) : Prop :=
  ∃ b c, e = .returned (.pointer (some ⟨b, 0, none⟩)) ∧ w.heap.size ≤ b ∧ w.heap.size ≤ c ∧ Dq w' b c m (List.replicate (64 * m) false) ∧ Below w.heap.size w w'

set_option maxRecDepth 100000 in
theorem new_dq (room : Int) (w : World) : Calls Tryz.prog 37 #[.int .i64 room] w (NewPost (dw room) w) := by
  have hdr := dw_range room
  have hdw : dw room = max 1 (8 * pw1 (clamp room 1 1024) / 64) := rfl
  generalize dw room = m at *
  obtain ⟨m1, m2⟩ := hdr
  have hc2 : clamp room 1 1024 ≤ 1024 := by unfold clamp; omega
  have hC := fun w => clamp_any room 1 1024 w
  generalize clamp room 1 1024 = c at *
  obtain ⟨i5, hi5, hz5, hs5, hb5⟩ := info_parts info56
  have HD := Lib.hid hdw
  have HC := Lib.hid hC
  clear hdw hC
  go_enter Tryz.func37, Tryz.ntmps37
  go_wp2_with fail
  go_loopw [3] (fun v3 wr => ∃ n : Nat, v3 = .int .i64 n ∧ Sr.Pow1 n ∧ (n = 1 ∨ (n : Int) < 2 * c) ∧ n ≤ 1024 ∧ ∃ m, wr = w.drewN m) (fun v3 wr => 1024 - (intOf v3).toNat)
  case atStart => exact ⟨1, rfl, .inl rfl, .inl rfl, by omega, 0, rfl⟩
  case round =>
    obtain ⟨n, rfl, hp, hb, hn, q, rfl⟩ := hrel
    have hn1 := p1_ge hp
    by_cases hlt : (n : Int) < c
    · have HP := Lib.hid (p1_next hp hlt hc2)
      clear hp
      go_wp2_with (go_at_call 58; refine (HC.out _).mono ?_; rintro e w' ⟨rfl, k, rfl⟩)
      go_roundw
      case rel => exact ⟨2 * n, by go_num, HP.out.1, HP.out.2.2, HP.out.2.1, _, rfl⟩
      case measure => simp [intOf]; omega
    · have hpe := p1_end hp hb hlt hc2
      have hm : max 1 (8 * n / 64) = m := by rw [HD.out, ← hpe]
      have HM := Lib.hid hm
      have e1 : wrap64 (8 * (n : Int)) = 8 * (n : Int) := by unfold wrap64; omega
      have e2 : wrap64 ((8 * (n : Int)).tdiv 64) = ((8 * n / 64 : Nat) : Int) := by rw [Int.tdiv_eq_ediv_of_nonneg (by omega)]; unfold wrap64; omega
      clear hpe hp hb hm
      go_wp2_with (first | (go_at_call 58; refine (HC.out _).mono ?_; rintro e w' ⟨rfl, k, rfl⟩) | (refine wpList_make_full _ rfl _ _ 88 rfl w.heap.size 81 i5 _ 1 Tryz.underlying88 hi5 hz5 hs5 .i64 .i64 _ _ m rfl rfl (by have := HM.out; omega) (by have := HM.out; omega) (by rw [hb5]; omega) (by unfold maxLen; omega) (Nat.le_refl _) ?_; intro w5 hown hgr))
      all_goals
        go_ret
        have hB : w.heap.size ≤ w5.heap.size := hgr.size
        have hrow := own_full hown
        rw [made_words] at hrow
        exact ⟨_, _, rfl, hB, Nat.le_refl _, dq_zero (block_new w5 _) (block_alloc hrow) m1 m2, (below_of_grown hgr).alloc hB _⟩

/-! Plain: what an Add leaves. -/
theorem setk_length (m : Nat) (B : List Bool) (key : ByteArray) : ∀ k, (setk m B key k).length = B.length
  | 0 => rfl
  | k + 1 => by simp [setk, setk_length m B key k]
theorem addB_length (m : Nat) (B : List Bool) (key : ByteArray) : (addB m B key).length = B.length := setk_length m B key 3
theorem addB_get (m : Nat) (B : List Bool) (key : ByteArray) (hl : B.length = 64 * m) (hm : 1 ≤ m) (j : Nat) :
    (addB m B key).getD j false = (decide (j = pb m key 0 ∨ j = pb m key 1 ∨ j = pb m key 2) || B.getD j false) := by
  have h0 := pb_lt m key 0 hm
  have h1 := pb_lt m key 1 hm
  have h2 := pb_lt m key 2 hm
  unfold addB
  simp only [setk, getD_setB, List.length_set]
  by_cases e0 : j = pb m key 0
  · subst e0; simp; (repeat' split) <;> simp_all
  · by_cases e1 : j = pb m key 1
    · subst e1; simp; (repeat' split) <;> simp_all
    · by_cases e2 : j = pb m key 2
      · subst e2; simp; (repeat' split) <;> simp_all
      · rw [if_neg (fun h => e2 h.1.symm), if_neg (fun h => e1 h.1.symm), if_neg (fun h => e0 h.1.symm)]
        simp [e0, e1, e2]
theorem has_eq (m : Nat) (B : List Bool) (key : ByteArray) : has m B key = (B.getD (pb m key 0) false && B.getD (pb m key 1) false && B.getD (pb m key 2) false) := by
  unfold has
  rw [hask_succ, hask_succ, hask_succ]
  simp [hask]
theorem has_add (m : Nat) (B : List Bool) (key : ByteArray) (hl : B.length = 64 * m) (hm : 1 ≤ m) : has m (addB m B key) key = true := by
  rw [has_eq, addB_get m B key hl hm, addB_get m B key hl hm, addB_get m B key hl hm]
  simp
theorem has_mono (m : Nat) (B : List Bool) (key k2 : ByteArray) (hl : B.length = 64 * m) (hm : 1 ≤ m) (h : has m B k2 = true) : has m (addB m B key) k2 = true := by
  rw [has_eq] at h
  simp only [Bool.and_eq_true] at h
  rw [has_eq, addB_get m B key hl hm, addB_get m B key hl hm, addB_get m B key hl hm, h.1.1, h.1.2, h.2]
  simp
end Go.Proofs.YtkeicfajlmhajaaGreat.Do
