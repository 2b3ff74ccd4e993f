/- The walks of package door: Add, Ones, Clear, New. -/
import Derived.Test.YtkeicfajlmhajaaDa
import Derived.WalkLawsBesides
import Derived.OwnWalk
namespace Go.Proofs.Ytkeicfajlmhajaa.Do
open Go Go.RowKit Go.Proofs.Ytkeicfajlmhajaa.K Go.Proofs.Ytkeicfajlmhajaa.Ha Go.Proofs.Ytkeicfajlmhajaa.Sk

variable {w : World} {b c m : Nat} {B : List Bool}

/-- k bits of a key are set. -/
def setk (m : Nat) (B : List Bool) (key : ByteArray) : Nat → List Bool
  | 0 => B
  | k + 1 => (setk m B key k).set (pb m key k) true
def addB (m : Nat) (B : List Bool) (key : ByteArray) : List Bool := setk m B key 3

theorem getD_setB (B : List Bool) (i j : Nat) (v : Bool) : (B.set i v).getD j false = if i = j ∧ j < B.length then v else B.getD j false := by
  rw [List.getD_eq_getElem?_getD, List.getD_eq_getElem?_getD, List.getElem?_set]
  by_cases h : i = j
  · subst h
    by_cases h2 : i < B.length
    · rw [if_pos rfl, if_pos h2, if_pos ⟨rfl, h2⟩]; rfl
    · rw [if_pos rfl, if_neg h2, if_neg (fun h => h2 h.2), List.getElem?_eq_none (by omega)]
  · rw [if_neg h, if_neg (fun h' => h h'.1)]
theorem getD_setN (W : List Nat) (i j v : Nat) : (W.set i v).getD j 0 = if i = j ∧ j < W.length then v else W.getD j 0 := by
  rw [List.getD_eq_getElem?_getD, List.getD_eq_getElem?_getD, List.getElem?_set]
  by_cases h : i = j
  · subst h
    by_cases h2 : i < W.length
    · rw [if_pos rfl, if_pos h2, if_pos ⟨rfl, h2⟩]; rfl
    · rw [if_pos rfl, if_neg h2, if_neg (fun h => h2 h.2), List.getElem?_eq_none (by omega)]
  · rw [if_neg h, if_neg (fun h' => h h'.1)]

theorem or_bit {x k : Nat} (hx : x < 18446744073709551616) (hk : k < 64) : Go.bits .or .u64 (x : Int) ((2 ^ k : Nat) : Int) = ((x ||| 2 ^ k : Nat) : Int) ∧ x ||| 2 ^ k < 18446744073709551616 := by
  have h : 2 ^ k < 2 ^ 64 := Nat.pow_lt_pow_right (by decide) hk
  exact ⟨u64_or_nat x (2 ^ k) hx h, Nat.or_lt_two_pow (n := 64) hx h⟩

/-- One bit is set. -/
theorem dq_set {W : List Nat} (h : Dr w b c m W) (hl : B.length = 64 * m) (hb : ∀ p, p < 64 * m → (W.getD (p / 64) 0).testBit (p % 64) = B.getD p false) (p : Nat) (hp : p < 64 * m) :
    Dq (w.setCell ⟨c, p / 64, none⟩ (.int .u64 ((W.getD (p / 64) 0 ||| 2 ^ (p % 64) : Nat) : Int))) b c m (B.set p true) := by
  have hx := h.lt (p / 64)
  obtain ⟨-, ho⟩ := or_bit hx (show p % 64 < 64 by omega)
  refine ⟨W.set (p / 64) (W.getD (p / 64) 0 ||| 2 ^ (p % 64)), ⟨block_other h.ne h.obj, (block_setCell h.row).trans ?_, by simpa using h.len, fun x hx' => ?_, h.m1, h.m2⟩, by simpa using hl, fun q hq => ?_⟩
  · congr 2
    apply Array.ext'
    simp [words, List.map_set]
  · rcases List.mem_or_eq_of_mem_set hx' with e | e
    · exact h.small x e
    · rw [e]; exact ho
  · have hwl := h.len
    rw [getD_setN, getD_setB]
    by_cases e : p / 64 = q / 64
    · rw [if_pos ⟨e, by omega⟩, Nat.testBit_or, Nat.testBit_two_pow, e, hb q hq]
      by_cases e2 : p = q
      · subst e2; simp; omega
      · rw [if_neg (fun h => e2 h.1)]
        have : p % 64 ≠ q % 64 := fun e3 => e2 (by omega)
        simp [this]
    · rw [if_neg (fun h => e h.1), if_neg (fun h => e (by rw [h.1])), hb q hq]

def AddPost (b c m : Nat) (B : List Bool) (key : ByteArray) (w : World) (e : Ending) (w' : World) : Prop :=
  e = .returned (.bool (has m B key)) ∧ Dq w' b c m (addB m B key) ∧ Upd (· = c) w w'

theorem add_dq (key : ByteArray) (h : Dq w b c m B) (hn : key.size ≤ 140737488351232) :
    Calls Try.prog 41 #[.pointer (some ⟨b, 0, none⟩), .string key] w (AddPost b c m B key w) := by
  have m1 := h.m1
  have m2 := h.m2
  have A := has_dq key h hn
  have H := Lib.hid h
  have HA := Lib.hid A
  have HP := Lib.hid (fun r (hr : has m B key = r) => hr)
  clear h A
  go_enter Try.func41, Try.ntmps41
  go_wp2_with (go_at_call 58; refine HA.out.mono ?_; rintro e w1 ⟨rfl, q, rfl⟩)
  go_loopw [14] (fun v14 wr => ∃ k : Nat, k ≤ 3 ∧ v14 = .int .i64 k ∧ Dq wr b c m (setk m B key k) ∧ Upd (· = c) w wr) (fun v14 wr => 3 - (intOf v14).toNat)
  case atStart => exact ⟨0, by omega, rfl, H.out.drewN _, (Upd.refl _ _).drewN _⟩
  case round =>
    obtain ⟨k, hk, rfl, hs, hu⟩ := hrel
    have HU := Lib.hid hu
    clear hu
    by_cases hlt : k < 3
    · obtain ⟨W, h, hl, hb⟩ := hs
      have hp := pb_lt m key k m1
      have A : ∀ q, Calls Try.prog 59 _ (wr.drewN q) _ := fun q => bit_calls b c m W key k hlt (wr.drewN q) ⟨h.obj, h.row, h.len, h.small, h.m1, h.m2⟩ hn
      have A0 := bit_calls b c m W key k hlt wr h hn
      have S : ∀ q, Dq ((wr.drewN q).setCell ⟨c, pb m key k / 64, none⟩ _) b c m _ := fun q => dq_set (w := wr.drewN q) ⟨h.obj, h.row, h.len, h.small, h.m1, h.m2⟩ hl hb (pb m key k) hp
      have HS2 : Hid (setk m B key (k + 1) = (setk m B key k).set (pb m key k) true) := Lib.hid rfl
      have d := h.cell (pb m key k / 64) (by omega)
      obtain ⟨c0, fr⟩ := cells1 h.obj
      have frc := free_of h.row
      have hor := (or_bit (h.lt (pb m key k / 64)) (show pb m key k % 64 < 64 by omega)).1
      generalize pb m key k = p at *
      generalize W.getD (p / 64) 0 = x at *
      generalize hz : x ||| 2 ^ (p % 64) = z at *
      generalize hpow : 2 ^ (p % 64) = y at *
      have z0 : (0 : Int) ≤ ((p / 64 : Nat) : Int) := by omega
      have z1 : ((p / 64 : Nat) : Int) < (m : Int) := by omega
      have HA0 := Lib.hid A0
      have HSS := Lib.hid S
      clear A A0 S hz hpow h hl hb
      go_wp2_with (go_at_call 59; refine HA0.out.mono ?_; rintro e w2 ⟨rfl, q2, rfl⟩)
      go_roundw
      case rel => exact ⟨k + 1, by omega, by go_num, by rw [HS2.out]; exact HSS.out _, (HU.out.drewN _).setB⟩
      case measure => simp [intOf]; omega
    · obtain rfl : k = 3 := by omega
      go_wp2_with fail
      go_ret
      exact ⟨rfl, hs, HU.out⟩

theorem info56 : (Try.prog.info? 63).map (fun i => (i.zero, i.size, i.bytes)) = some (some (.int .u64 0), 1, 8) := by kernel_rfl
theorem zero56 (w : World) : (zeroValue 63).run Try.prog w = .ok (.int .u64 0) w := by kernel_rfl

theorem dq_zero (h : w.heap[b]? = some (.cells #[.slice (some ⟨c, 0, none⟩) m m] 72 (0, 0))) (hr : w.heap[c]? = some (.cells (words (List.replicate m 0)).toArray 63 (0, 0))) (h1 : 1 ≤ m) (h2 : m ≤ 128) :
    Dq w b c m (List.replicate (64 * m) false) := by
  refine ⟨List.replicate m 0, ⟨h, hr, by simp, fun x hx => ?_, h1, h2⟩, by simp, fun p hp => ?_⟩
  · rw [(List.mem_replicate.1 hx).2]; decide
  · have e1 : (List.replicate m 0).getD (p / 64) 0 = 0 := by
      rw [List.getD_eq_getElem?_getD, List.getElem?_replicate]; split <;> rfl
    have e2 : (List.replicate (64 * m) false).getD p false = false := by
      rw [List.getD_eq_getElem?_getD, List.getElem?_replicate]; split <;> rfl
    rw [e1, e2, Nat.zero_testBit]

theorem set_whole (g : Nat) (T : TypeId) : ∀ (vs : List Value) (o : Nat) (cs : Array Value) (w : World), w.heap[g]? = some (.cells cs T (0, 0)) → o + vs.length ≤ cs.size →
    (w.setCells g o vs).heap[g]? = some (.cells (cs.toList.take o ++ vs ++ cs.toList.drop (o + vs.length)).toArray T (0, 0))
  | [], o, cs, w, h, _ => by simpa [World.setCells] using h
  | v :: r, o, cs, w, h, hle => by
    simp only [List.length_cons] at hle
    have h1 := block_setCell (o := o) (v := v) h
    have h2 := set_whole g T r (o + 1) _ _ h1 (by simp; omega)
    rw [World.setCells, h2]
    congr 2
    apply Array.ext'
    simp only [Array.toList_setIfInBounds]
    have e1 : (cs.toList.set o v).take (o + 1) = cs.toList.take o ++ [v] := by
      rw [List.take_add_one, List.take_set_of_le (Nat.le_refl _), List.getElem?_set_self (by simp; omega)]; rfl
    have e2 : (cs.toList.set o v).drop (o + 1 + r.length) = cs.toList.drop (o + (r.length + 1)) := by
      rw [List.drop_set_of_lt (by omega)]; congr 1; omega
    rw [e1, e2]
    simp

set_option maxRecDepth 100000 in
theorem clear_dq (h : Dq w b c m B) : Calls Try.prog 44 #[.pointer (some ⟨b, 0, none⟩)] w fun e w' => e = .returned (.tuple #[]) ∧ Dq w' b c m (List.replicate (64 * m) false) ∧ Upd (· = c) w w' := by
  obtain ⟨W, h, hl, hb⟩ := h
  have m1 := h.m1
  have m2 := h.m2
  obtain ⟨c0, fr⟩ := cells1 h.obj
  have H := Lib.hid h
  have hclr := Lib.run_clear_slice (P := Try.prog) w 70 63 0 (.int .u64 0) Try.underlying70 zero56 rfl rfl c 0 m m (by omega)
    (fun j hj => by rw [Nat.zero_add, h.cell j hj]; rfl) (fun j hj => free_of h.row _)
  clear h hb hl
  go_enter Try.func44, Try.ntmps44
  go_wp2_with fail
  go_end0
  have hu : Upd (· = c) w (w.setCells c 0 (List.replicate m (.int .u64 0))) := upd_setCells _ _ _ (Upd.refl _ _) (.inl rfl)
  refine ⟨rfl, dq_zero (hu.get H.out.obj H.out.ne) ?_ m1 m2, hu⟩
  have hlen : (words W).toArray.size = m := by have := H.out.len; simp [words, this]
  rw [set_whole c 63 _ 0 _ w H.out.row (by simp [hlen])]
  congr 2
  apply Array.ext'
  have := H.out.len
  simp [words, this]

end Go.Proofs.Ytkeicfajlmhajaa.Do
