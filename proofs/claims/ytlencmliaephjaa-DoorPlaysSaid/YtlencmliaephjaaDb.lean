/- The walks of package door: Add, Ones, Clear, New. -/
import Derived.Test.YtlencmliaephjaaDa
import Derived.WalkLawsBesides
import Derived.OwnWalk
namespace Go.Proofs.Ytlencmliaephjaa.Do
open Go Go.RowKit Go.Proofs.Ytlencmliaephjaa.K Go.Proofs.Ytlencmliaephjaa.Ha Go.Proofs.Ytlencmliaephjaa.Sk Go.Proofs.Ytlencmliaephjaa.Po

variable {w : World} {b c m : Nat} {B : List Bool}

/-- k bits of a key are set. -/
def setk (m : Nat) (B : List Bool) (key : ByteArray) : Nat → List Bool
  | 0 => B
  | k + 1 => (setk m B key k).set (pb m key k) true
def addB (m : Nat) (B : List Bool) (key : ByteArray) : List Bool := setk m B key 3

theorem getD_setB (B : List Bool) (i j : Nat) (v : Bool) : (B.set i v).getD j false = if i = j ∧ j < B.length then v else B.getD j false := by
  rw [List.getD_eq_getElem?_getD, List.getD_eq_getElem?_getD, List.getElem?_set]
  by_cases h : i = j
  · subst h
    by_cases h2 : i < B.length
    · rw [if_pos rfl, if_pos h2, if_pos ⟨rfl, h2⟩]; rfl
    · rw [if_pos rfl, if_neg h2, if_neg (fun h => h2 h.2), List.getElem?_eq_none (by omega)]
  · rw [if_neg h, if_neg (fun h' => h h'.1)]
theorem getD_setN (W : List Nat) (i j v : Nat) : (W.set i v).getD j 0 = if i = j ∧ j < W.length then v else W.getD j 0 := by
  rw [List.getD_eq_getElem?_getD, List.getD_eq_getElem?_getD, List.getElem?_set]
  by_cases h : i = j
  · subst h
    by_cases h2 : i < W.length
    · rw [if_pos rfl, if_pos h2, if_pos ⟨rfl, h2⟩]; rfl
    · rw [if_pos rfl, if_neg h2, if_neg (fun h => h2 h.2), List.getElem?_eq_none (by omega)]
  · rw [if_neg h, if_neg (fun h' => h h'.1)]

theorem or_bit {x k : Nat} (hx : x < 18446744073709551616) (hk : k < 64) : Go.bits .or .u64 (x : Int) ((2 ^ k : Nat) : Int) = ((x ||| 2 ^ k : Nat) : Int) ∧ x ||| 2 ^ k < 18446744073709551616 := by
  have h : 2 ^ k < 2 ^ 64 := Nat.pow_lt_pow_right (by decide) hk
  exact ⟨u64_or_nat x (2 ^ k) hx h, Nat.or_lt_two_pow (n := 64) hx h⟩

/-- One bit is set. -/
theorem dq_set {W : List Nat} (h : Dr w b c m W) (hl : B.length = 64 * m) (hb : ∀ p, p < 64 * m → (W.getD (p / 64) 0).testBit (p % 64) = B.getD p false) (p : Nat) (hp : p < 64 * m) :
    Dq (w.setCell ⟨c, p / 64, none⟩ (.int .u64 ((W.getD (p / 64) 0 ||| 2 ^ (p % 64) : Nat) : Int))) b c m (B.set p true) := by
  have hx := h.lt (p / 64)
  obtain ⟨-, ho⟩ := or_bit hx (show p % 64 < 64 by omega)
  refine ⟨W.set (p / 64) (W.getD (p / 64) 0 ||| 2 ^ (p % 64)), ⟨block_other h.ne h.obj, (block_setCell h.row).trans ?_, by simpa using h.len, fun x hx' => ?_, h.m1, h.m2⟩, by simpa using hl, fun q hq => ?_⟩
  · congr 2
    apply Array.ext'
    simp [words, List.map_set]
  · rcases List.mem_or_eq_of_mem_set hx' with e | e
    · exact h.small x e
    · rw [e]; exact ho
  · have hwl := h.len
    rw [getD_setN, getD_setB]
    by_cases e : p / 64 = q / 64
    · rw [if_pos ⟨e, by omega⟩, Nat.testBit_or, Nat.testBit_two_pow, e, hb q hq]
      by_cases e2 : p = q
      · subst e2; simp; omega
      · rw [if_neg (fun h => e2 h.1)]
        have : p % 64 ≠ q % 64 := fun e3 => e2 (by omega)
        simp [this]
    · rw [if_neg (fun h => e h.1), if_neg (fun h => e (by rw [h.1])), hb q hq]

def AddPost (b c m : Nat) (B : List Bool) (key : ByteArray) (w : World) (e : Ending) (w' : World) : Prop :=
  e = .returned (.bool (has m B key)) ∧ Dq w' b c m (addB m B key) ∧ Upd (· = c) w w'

theorem add_dq (key : ByteArray) (h : Dq w b c m B) (hn : key.size ≤ 140737488351232) :
    Calls Try.prog 19 #[.pointer (some ⟨b, 0, none⟩), .string key] w (AddPost b c m B key w) := by
  have m1 := h.m1
  have m2 := h.m2
  have A := has_dq key h hn
  have H := Lib.hid h
  have HA := Lib.hid A
  have HP := Lib.hid (fun r (hr : has m B key = r) => hr)
  clear h A
  go_enter Try.func19, Try.ntmps19
  go_wp2_with (go_at_call 20; refine HA.out.mono ?_; rintro e w1 ⟨rfl, q, rfl⟩)
  go_loopw [14] (fun v14 wr => ∃ k : Nat, k ≤ 3 ∧ v14 = .int .i64 k ∧ Dq wr b c m (setk m B key k) ∧ Upd (· = c) w wr) (fun v14 wr => 3 - (intOf v14).toNat)
  case atStart => exact ⟨0, by omega, rfl, H.out.drewN _, (Upd.refl _ _).drewN _⟩
  case round =>
    obtain ⟨k, hk, rfl, hs, hu⟩ := hrel
    have HU := Lib.hid hu
    clear hu
    by_cases hlt : k < 3
    · obtain ⟨W, h, hl, hb⟩ := hs
      have hp := pb_lt m key k m1
      have A : ∀ q, Calls Try.prog 42 _ (wr.drewN q) _ := fun q => bit_calls b c m W key k hlt (wr.drewN q) ⟨h.obj, h.row, h.len, h.small, h.m1, h.m2⟩ hn
      have A0 := bit_calls b c m W key k hlt wr h hn
      have S : ∀ q, Dq ((wr.drewN q).setCell ⟨c, pb m key k / 64, none⟩ _) b c m _ := fun q => dq_set (w := wr.drewN q) ⟨h.obj, h.row, h.len, h.small, h.m1, h.m2⟩ hl hb (pb m key k) hp
      have HS2 : Hid (setk m B key (k + 1) = (setk m B key k).set (pb m key k) true) := Lib.hid rfl
      have d := h.cell (pb m key k / 64) (by omega)
      obtain ⟨c0, fr⟩ := cells1 h.obj
      have frc := free_of h.row
      have hor := (or_bit (h.lt (pb m key k / 64)) (show pb m key k % 64 < 64 by omega)).1
      generalize pb m key k = p at *
      generalize W.getD (p / 64) 0 = x at *
      generalize hz : x ||| 2 ^ (p % 64) = z at *
      generalize hpow : 2 ^ (p % 64) = y at *
      have z0 : (0 : Int) ≤ ((p / 64 : Nat) : Int) := by omega
      have z1 : ((p / 64 : Nat) : Int) < (m : Int) := by omega
      have HA0 := Lib.hid A0
      have HSS := Lib.hid S
      clear A A0 S hz hpow h hl hb
      go_wp2_with (go_at_call 42; refine HA0.out.mono ?_; rintro e w2 ⟨rfl, q2, rfl⟩)
      go_roundw
      case rel => exact ⟨k + 1, by omega, by go_num, by rw [HS2.out]; exact HSS.out _, (HU.out.drewN _).setB⟩
      case measure => simp [intOf]; omega
    · obtain rfl : k = 3 := by omega
      go_wp2_with fail
      go_ret
      exact ⟨rfl, hs, HU.out⟩

theorem masks : rep 85 8 = 6148914691236517205 ∧ rep 51 8 = 3689348814741910323 ∧ rep 15 8 = 1085102592571150095 := by decide

theorem wrap_u (x : Nat) (hx : x < 18446744073709551616) : IntKind.u64.wrap (x : Int) = x := by simp only [IntKind.wrap_u64]; omega
theorem wrap_u2 (a b c : Nat) (h : a + b = c) (hx : c < 18446744073709551616) : IntKind.u64.wrap ((a : Int) + (b : Int)) = (c : Int) := by simp only [IntKind.wrap_u64]; omega
theorem div_nat (x k : Nat) : (x : Int) / (k : Int) = ((x / k : Nat) : Int) := by simp

theorem and127 (y : Nat) (h : y < 9223372036854775808) : Go.bits .and .i64 (wrap64 (y : Int)) 127 = ((y % 128 : Nat) : Int) := by
  have e2 : wrap64 (y : Int) = y := by unfold wrap64; omega
  rw [e2]
  have := bits_mask .i64 63 (by decide) (fun n h0 h1 => by simp only [IntKind.wrap_i64]; omega) 7 (by decide) (y : Int) (by omega) (by omega)
  simpa using this

def M1 : Nat := 6148914691236517205
def M2 : Nat := 3689348814741910323
def M3 : Nat := 1085102592571150095
theorem s1_eq (x : Nat) : s1 8 x = (x / 2 &&& M1) + (x &&& M1) := by unfold s1 M1; rw [masks.1]
theorem s2_eq (x : Nat) : s2 8 x = (x / 4 &&& M2) + (x &&& M2) := by unfold s2 M2; rw [masks.2.1]
theorem s3_eq (x : Nat) : s3 8 x = (x / 16 + x) &&& M3 := by unfold s3 M3; rw [masks.2.2]
theorem s1_le (x : Nat) : s1 8 x ≤ 12297829382473034410 := by
  have h1 : x / 2 &&& M1 ≤ M1 := Nat.and_le_right
  have h2 : x &&& M1 ≤ M1 := Nat.and_le_right
  rw [s1_eq]; unfold M1 at *; omega
theorem s2_le (x : Nat) : s2 8 x ≤ 7378697629483820646 := by
  have h1 : x / 4 &&& M2 ≤ M2 := Nat.and_le_right
  have h2 : x &&& M2 ≤ M2 := Nat.and_le_right
  rw [s2_eq]; unfold M2 at *; omega
theorem s3_le (x : Nat) : s3 8 x ≤ 1085102592571150095 := by
  rw [s3_eq]; exact Nat.and_le_right

theorem andM1 (a : Nat) (h : a < 18446744073709551616) : Go.bits .and .u64 (a : Int) 6148914691236517205 = ((a &&& M1 : Nat) : Int) := u64_and_nat a M1 h (by unfold M1; omega)
theorem andM2 (a : Nat) (h : a < 18446744073709551616) : Go.bits .and .u64 (a : Int) 3689348814741910323 = ((a &&& M2 : Nat) : Int) := u64_and_nat a M2 h (by unfold M2; omega)
theorem andM3 (a : Nat) (h : a < 18446744073709551616) : Go.bits .and .u64 (a : Int) 1085102592571150095 = ((a &&& M3 : Nat) : Int) := u64_and_nat a M3 h (by unfold M3; omega)

theorem step1 (x : Nat) (hx : x < 18446744073709551616) : IntKind.u64.wrap (Go.bits .and .u64 ((x : Int) / 2) 6148914691236517205 + Go.bits .and .u64 (x : Int) 6148914691236517205) = ((s1 8 x : Nat) : Int) := by
  have e : (x : Int) / 2 = ((x / 2 : Nat) : Int) := div_nat x 2
  have hl := s1_le x
  rw [e, andM1 _ (by omega), andM1 _ hx]
  exact wrap_u2 _ _ _ (s1_eq x).symm (by omega)
theorem step2 (x : Nat) (hx : x < 18446744073709551616) : IntKind.u64.wrap (Go.bits .and .u64 ((x : Int) / 4) 3689348814741910323 + Go.bits .and .u64 (x : Int) 3689348814741910323) = ((s2 8 x : Nat) : Int) := by
  have e : (x : Int) / 4 = ((x / 4 : Nat) : Int) := div_nat x 4
  have hl := s2_le x
  rw [e, andM2 _ (by omega), andM2 _ hx]
  exact wrap_u2 _ _ _ (s2_eq x).symm (by omega)
theorem step3 (x : Nat) (hx : x ≤ 7378697629483820646) : Go.bits .and .u64 (IntKind.u64.wrap ((x : Int) / 16 + (x : Int))) 1085102592571150095 = ((s3 8 x : Nat) : Int) := by
  have e : (x : Int) / 16 = ((x / 16 : Nat) : Int) := div_nat x 16
  rw [e, wrap_u2 _ _ _ rfl (by omega), andM3 _ (by omega), s3_eq]

theorem ones_any (x : Nat) (hx : x < 18446744073709551616) (w : World) : Calls Try.prog 43 #[.int .u64 (x : Int)] w fun e w' => e = .returned (.int .i64 ((pop 64 x : Nat) : Int)) ∧ w = w' := by
  have HX := Lib.hid hx
  go_enter Try.func43, Try.ntmps43
  go_wp2
  go_ret
  refine ⟨ret_int ?_, rfl⟩
  have hx := HX.out
  have l1 := s1_le x
  rw [step1 x hx]
  generalize hy1 : s1 8 x = y1 at *
  have l2 := s2_le y1
  rw [step2 y1 (by omega)]
  generalize hy2 : s2 8 y1 = y2 at *
  have l3 := s3_le y2
  rw [step3 y2 (by omega)]
  have hc : s3 8 y2 = t 8 x := by unfold t; rw [hy1, hy2]
  generalize s3 8 y2 = c at *
  obtain ⟨c1, e1⟩ : ∃ c1, c1 = c + c / 256 := ⟨_, rfl⟩
  obtain ⟨c2, e2⟩ : ∃ c2, c2 = c1 + c1 / 65536 := ⟨_, rfl⟩
  obtain ⟨c3, e3⟩ : ∃ c3, c3 = c2 + c2 / 4294967296 := ⟨_, rfl⟩
  obtain ⟨p1, p2, p3, p4⟩ := pop64 x c c1 c2 c3 hc e1 e2 e3
  have d1 : (c : Int) / 256 = ((c / 256 : Nat) : Int) := div_nat c 256
  have d2 : (c1 : Int) / 65536 = ((c1 / 65536 : Nat) : Int) := div_nat c1 65536
  have d3 : (c2 : Int) / 4294967296 = ((c2 / 4294967296 : Nat) : Int) := div_nat c2 4294967296
  rw [d1, wrap_u2 c (c / 256) c1 e1.symm (by omega), d2, wrap_u2 c1 (c1 / 65536) c2 e2.symm (by omega), d3, wrap_u2 c2 (c2 / 4294967296) c3 e3.symm (by omega), and127 c3 p2, p1]

/-- The bits of the first k words. -/
def onek (W : List Nat) (k : Nat) : Nat := ((W.take k).map (pop 64)).sum
theorem onek_succ (W : List Nat) (k : Nat) (hk : k < W.length) : onek W (k + 1) = onek W k + pop 64 (W.getD k 0) := by
  unfold onek
  rw [List.take_succ_eq_append_getElem hk, List.map_append, List.sum_append, List.getD_eq_getElem?_getD, List.getElem?_eq_getElem hk]
  simp
theorem onek_le (W : List Nat) : ∀ k, onek W k ≤ 64 * k
  | 0 => by simp [onek]
  | k + 1 => by
    have ih := onek_le W k
    rcases Nat.lt_or_ge k W.length with h | h
    · rw [onek_succ W k h]
      have := pop_le 64 (W.getD k 0)
      omega
    · have e : onek W (k + 1) = onek W k := by
        unfold onek
        rw [List.take_of_length_le h, List.take_of_length_le (by omega)]
      omega

theorem count_words {W : List Nat} (hl : B.length = 64 * m) (hw : W.length = m) (hb : ∀ p, p < 64 * m → (W.getD (p / 64) 0).testBit (p % 64) = B.getD p false) : ∀ k, k ≤ m → (B.take (64 * k)).count true = onek W k
  | 0, _ => by simp [onek]
  | k + 1, hk => by
    have ih := count_words hl hw hb k (by omega)
    have e : B.take (64 * (k + 1)) = B.take (64 * k) ++ (List.range 64).map (fun i => (W.getD k 0).testBit i) := by
      rw [show 64 * (k + 1) = 64 * k + 64 by omega, List.take_add]
      congr 1
      apply List.ext_getElem
      · simp; omega
      · intro i h1 h2
        simp only [List.length_map, List.length_range] at h2
        have := hb (64 * k + i) (by omega)
        rw [show (64 * k + i) / 64 = k by omega, show (64 * k + i) % 64 = i by omega] at this
        simp only [List.getElem_take, List.getElem_drop, List.getElem_map, List.getElem_range]
        rw [this, List.getD_eq_getElem?_getD, List.getElem?_eq_getElem (by omega)]
        rfl
    rw [e, List.count_append, ih, onek_succ W k (by omega)]
    congr 1
    unfold pop
    rw [List.count, List.countP_map]
    apply List.countP_congr
    intro i _
    simp

theorem ones_dq (h : Dq w b c m B) : Calls Try.prog 21 #[.pointer (some ⟨b, 0, none⟩)] w fun e w' => e = .returned (.int .i64 ((B.count true : Nat) : Int)) ∧ w = w' := by
  obtain ⟨W, h, hl, hb⟩ := h
  have m1 := h.m1
  have m2 := h.m2
  have hc := count_words hl h.len hb m (Nat.le_refl _)
  rw [List.take_of_length_le (by omega)] at hc
  have HC := Lib.hid hc
  obtain ⟨c0, fr⟩ := cells1 h.obj
  have H := Lib.hid h
  have HL := Lib.hid h.len
  clear h hb hc hl
  go_enter Try.func21, Try.ntmps21
  go_wp2_with fail
  go_loop [3, 13] (fun v3 v13 => ∃ k : Nat, k ≤ m ∧ v13 = .int .i64 k ∧ v3 = .int .i64 (onek W k)) (fun v3 v13 => m - (intOf v13).toNat)
  case atStart => exact ⟨0, by omega, rfl, rfl⟩
  case round =>
    obtain ⟨k, hk, rfl, rfl⟩ := hrel
    have hle := onek_le W k
    by_cases hlt : k < m
    · have d := H.out.cell k hlt
      have hx := H.out.lt k
      have HS := Lib.hid (onek_succ W k (by rw [HL.out]; exact hlt))
      have O := fun w => ones_any (W.getD k 0) hx w
      have hp := pop_le 64 (W.getD k 0)
      generalize W.getD k 0 = x at *
      generalize pop 64 x = y at *
      have HO := Lib.hid O
      clear O hx
      go_wp2_with (go_at_call 43; refine (HO.out _).mono ?_; rintro e w2 ⟨rfl, rfl⟩)
      go_round
      case rel => exact ⟨k + 1, by omega, by go_num, by rw [HS.out]; go_num⟩
      case measure => simp [intOf]; omega
    · obtain rfl : k = m := by omega
      go_wp2_with fail
      go_ret
      exact ⟨ret_int (by rw [HC.out]), rfl⟩

theorem info56 : (Try.prog.info? 56).map (fun i => (i.zero, i.size, i.bytes)) = some (some (.int .u64 0), 1, 8) := by kernel_rfl
theorem zero56 (w : World) : (zeroValue 56).run Try.prog w = .ok (.int .u64 0) w := by kernel_rfl

theorem dq_zero (h : w.heap[b]? = some (.cells #[.slice (some ⟨c, 0, none⟩) m m] 55 (0, 0))) (hr : w.heap[c]? = some (.cells (words (List.replicate m 0)).toArray 56 (0, 0))) (h1 : 1 ≤ m) (h2 : m ≤ 128) :
    Dq w b c m (List.replicate (64 * m) false) := by
  refine ⟨List.replicate m 0, ⟨h, hr, by simp, fun x hx => ?_, h1, h2⟩, by simp, fun p hp => ?_⟩
  · rw [(List.mem_replicate.1 hx).2]; decide
  · have e1 : (List.replicate m 0).getD (p / 64) 0 = 0 := by
      rw [List.getD_eq_getElem?_getD, List.getElem?_replicate]; split <;> rfl
    have e2 : (List.replicate (64 * m) false).getD p false = false := by
      rw [List.getD_eq_getElem?_getD, List.getElem?_replicate]; split <;> rfl
    rw [e1, e2, Nat.zero_testBit]

theorem set_whole (g : Nat) (T : TypeId) : ∀ (vs : List Value) (o : Nat) (cs : Array Value) (w : World), w.heap[g]? = some (.cells cs T (0, 0)) → o + vs.length ≤ cs.size →
    (w.setCells g o vs).heap[g]? = some (.cells (cs.toList.take o ++ vs ++ cs.toList.drop (o + vs.length)).toArray T (0, 0))
  | [], o, cs, w, h, _ => by simpa [World.setCells] using h
  | v :: r, o, cs, w, h, hle => by
    simp only [List.length_cons] at hle
    have h1 := block_setCell (o := o) (v := v) h
    have h2 := set_whole g T r (o + 1) _ _ h1 (by simp; omega)
    rw [World.setCells, h2]
    congr 2
    apply Array.ext'
    simp only [Array.toList_setIfInBounds]
    have e1 : (cs.toList.set o v).take (o + 1) = cs.toList.take o ++ [v] := by
      rw [List.take_add_one, List.take_set_of_le (Nat.le_refl _), List.getElem?_set_self (by simp; omega)]; rfl
    have e2 : (cs.toList.set o v).drop (o + 1 + r.length) = cs.toList.drop (o + (r.length + 1)) := by
      rw [List.drop_set_of_lt (by omega)]; congr 1; omega
    rw [e1, e2]
    simp

theorem clear_dq (h : Dq w b c m B) : Calls Try.prog 24 #[.pointer (some ⟨b, 0, none⟩)] w fun e w' => e = .returned (.tuple #[]) ∧ Dq w' b c m (List.replicate (64 * m) false) ∧ Upd (· = c) w w' := by
  obtain ⟨W, h, hl, hb⟩ := h
  have m1 := h.m1
  have m2 := h.m2
  obtain ⟨c0, fr⟩ := cells1 h.obj
  have H := Lib.hid h
  have hclr := Lib.run_clear_slice (P := Try.prog) w 53 56 0 (.int .u64 0) Try.underlying53 zero56 rfl rfl c 0 m m (by omega)
    (fun j hj => by rw [Nat.zero_add, h.cell j hj]; rfl) (fun j hj => free_of h.row _)
  clear h hb hl
  go_enter Try.func24, Try.ntmps24
  go_wp2_with fail
  go_end0
  have hu : Upd (· = c) w (w.setCells c 0 (List.replicate m (.int .u64 0))) := upd_setCells _ _ _ (Upd.refl _ _) (.inl rfl)
  refine ⟨rfl, dq_zero (hu.get H.out.obj H.out.ne) ?_ m1 m2, hu⟩
  have hlen : (words W).toArray.size = m := by have := H.out.len; simp [words, this]
  rw [set_whole c 56 _ 0 _ w H.out.row (by simp [hlen])]
  congr 2
  apply Array.ext'
  have := H.out.len
  simp [words, this]

end Go.Proofs.Ytlencmliaephjaa.Do
