/- The walks of package sketch. -/
import Derived.Test.YtkeicfajlmhajaaGreatInt
import Derived.Test.YtkeicfajlmhajaaGreatProg
import Derived.Lib.Hide
import Derived.StillTailTactics
import Derived.BigRegion
import Derived.Laws.BitsLemmas
import Derived.Laws.BitsAllLaws
import Derived.Test.YtkeicfajlmhajaaGreatHa
import Derived.Deep.RegionHeld3
import Derived.IntWalk
import Derived.OwnWalk
import Derived.Deep.Cut
import Derived.Deep.DeepCutAuto
namespace Go.Proofs.YtkeicfajlmhajaaGreat.Sk
open Go Go.RowKit Go.Proofs.YtkeicfajlmhajaaGreat.K

def bytes (B : List Nat) : List Value := B.map fun x : Nat => Value.int .u8 (x : Int)
def cell (B : List Nat) (i : Nat) : Nat := B.getD (i / 2) 0 / 2 ^ (i % 2 * 4) % 16
def put (B : List Nat) (i v : Nat) : List Nat := B.set (i / 2) (if i % 2 = 0 then B.getD (i / 2) 0 / 16 * 16 + v else B.getD (i / 2) 0 % 16 + v * 16)

structure Sk (w : World) (b c n : Nat) (B : List Nat) (sum : Int) : Prop where
  obj : w.heap[b]? = some (.cells #[.int .i64 (n : Int), .slice (some ⟨c, 0, none⟩) B.length B.length, .int .i64 sum] 87 (0, 0))
  row : w.heap[c]? = some (.cells (bytes B).toArray 5 (0, 0))
  len : B.length = 2 * n
  small : ∀ x ∈ B, x < 256
  n1 : 8 ≤ n
  n2 : n ≤ 1024

theorem at_eq (x i : Nat) (hx : x < 256) : Go.bits .and .i64 (wrap64 ((x : Int) / 2 ^ (i % 2 * 4))) 15 = ((x / 2 ^ (i % 2 * 4) % 16 : Nat) : Int) := by
  have e : ((x : Int) / 2 ^ (i % 2 * 4)) = ((x / 2 ^ (i % 2 * 4) : Nat) : Int) := by simp
  have l : x / 2 ^ (i % 2 * 4) ≤ x := Nat.div_le_self _ _
  rw [e]
  generalize x / 2 ^ (i % 2 * 4) = y at *
  have e2 : wrap64 (y : Int) = y := by unfold wrap64; omega
  rw [e2]
  have := bits_mask .i64 63 (by decide) (fun n h0 h1 => by simp only [IntKind.wrap_i64]; omega) 4 (by decide) (y : Int) (by omega) (by omega)
  simpa using this

theorem at_calls (b c n i : Nat) (B : List Nat) (sum : Int) (w : World) (h : Sk w b c n B sum) (hi : i < 4 * n) :
    Calls Tryz.prog 103 #[.pointer (some ⟨b, 0, none⟩), .int .i64 (i : Int)] w fun e w' => e = .returned (.int .i64 (cell B i : Int)) ∧ w' = w := by
  obtain ⟨c0, c1, c2, fr⟩ := cells3 h.obj
  have hl := h.len
  have h2 := h.n2
  have hs := h.small
  have e1 : wrap64 (((i : Int)).tdiv 2) = ((i / 2 : Nat) : Int) := by
    rw [Int.tdiv_eq_ediv_of_nonneg (by omega)]; unfold wrap64; omega
  have hx : w.cell? ⟨c, i / 2, none⟩ = some (.int .u8 (B.getD (i / 2) 0 : Nat)) := by
    rw [cell_of h.row]
    simp [bytes, List.getD_eq_getElem?_getD, List.getElem?_eq_getElem (show i / 2 < B.length by omega)]
  have t1 : decide (i / 2 < B.length) = true := by simp; omega
  clear h
  go_enter Tryz.func103, Tryz.ntmps103
  go_wp2_with fail
  go_ret
  have hb : B.getD (i / 2) 0 < 256 := by
    rw [List.getD_eq_getElem?_getD, List.getElem?_eq_getElem (show i / 2 < B.length by omega)]
    exact hs _ (List.getElem_mem _)
  exact ⟨ret_int (at_eq _ _ hb), rfl⟩

def mixed (x i v : Nat) : Nat := if i % 2 = 0 then x / 16 * 16 + v else x % 16 + v * 16

theorem mixed_lo : ∀ x : Fin 256, ∀ v : Fin 16, (x.val &&& (255 - 15)) ||| v.val = x.val / 16 * 16 + v.val := by decide +kernel
theorem mixed_hi : ∀ x : Fin 256, ∀ v : Fin 16, (x.val &&& (255 - 240)) ||| (v.val * 16) = x.val % 16 + v.val * 16 := by decide +kernel

theorem put_eq (x i v : Nat) (hx : x < 256) (hv : v < 16) :
    Go.bits .or .u8 (Go.bits .andNot .u8 (x : Int) (15 * 2 ^ (i % 2 * 4) % 256)) ((v : Int) * 2 ^ (i % 2 * 4) % 256) = ((if i % 2 = 0 then x / 16 * 16 + v else x % 16 + v * 16 : Nat) : Int) := by
  rcases Nat.mod_two_eq_zero_or_one i with h | h
  · rw [h, if_pos rfl]
    have e1 : (15 * 2 ^ (0 * 4) % 256 : Int) = ((15 : Nat) : Int) := by decide
    have e2 : ((v : Int) * 2 ^ (0 * 4) % 256) = (v : Nat) := by simp; omega
    have hl := mixed_lo ⟨x, hx⟩ ⟨v, hv⟩
    simp only at hl
    rw [e1, e2, u8_andNot_nat x 15 hx (by omega), u8_or_nat _ v (Nat.lt_of_le_of_lt Nat.and_le_left hx) (by omega), hl]
  · rw [h, if_neg (by omega)]
    have e1 : (15 * 2 ^ (1 * 4) % 256 : Int) = ((240 : Nat) : Int) := by decide
    have e2 : ((v : Int) * 2 ^ (1 * 4) % 256) = ((v * 16 : Nat) : Int) := by simp; omega
    have hl := mixed_hi ⟨x, hx⟩ ⟨v, hv⟩
    simp only at hl
    rw [e1, e2, u8_andNot_nat x 240 hx (by omega), u8_or_nat _ (v * 16) (Nat.lt_of_le_of_lt Nat.and_le_left hx) (by omega), hl]

theorem set_sk {b c n i v : Nat} {B : List Nat} {sum : Int} {w : World} (h : Sk w b c n B sum) (hv : v < 16) (hb : B.getD (i / 2) 0 < 256) :
    Sk (w.setCell ⟨c, i / 2, none⟩ (.int .u8 ((if i % 2 = 0 then B.getD (i / 2) 0 / 16 * 16 + v else B.getD (i / 2) 0 % 16 + v * 16 : Nat) : Int))).drew b c n (put B i v) sum := by
  have hne : b ≠ c := by
    rintro rfl
    have := h.obj.symm.trans h.row
    simp at this
  have hl : (put B i v).length = B.length := by simp [put]
  refine ⟨?_, ?_, by rw [hl]; exact h.len, ?_, h.n1, h.n2⟩
  · rw [hl]; exact block_other hne h.obj
  · refine (block_setCell h.row).trans ?_
    congr 2
    apply Array.ext'
    simp [put, bytes, List.map_set]
  · intro x hx
    unfold put at hx
    rcases List.mem_or_eq_of_mem_set hx with hx | rfl
    · exact h.small x hx
    · split <;> omega

theorem set_calls (b c n i v : Nat) (B : List Nat) (sum : Int) (w : World) (h : Sk w b c n B sum) (hi : i < 4 * n) (hv : v < 16) :
    Calls Tryz.prog 104 #[.pointer (some ⟨b, 0, none⟩), .int .i64 (i : Int), .int .i64 (v : Int)] w fun e w' => e = .returned (.tuple #[]) ∧ Sk w' b c n (put B i v) sum ∧ Upd (· = c) w w' := by
  obtain ⟨c0, c1, c2, fr⟩ := cells3 h.obj
  have hl := h.len
  have h2 := h.n2
  have hs := h.small
  have e1 : wrap64 (((i : Int)).tdiv 2) = ((i / 2 : Nat) : Int) := by
    rw [Int.tdiv_eq_ediv_of_nonneg (by omega)]; unfold wrap64; omega
  have hx : w.cell? ⟨c, i / 2, none⟩ = some (.int .u8 (B.getD (i / 2) 0 : Nat)) := by
    rw [cell_of h.row]
    simp [bytes, List.getD_eq_getElem?_getD, List.getElem?_eq_getElem (show i / 2 < B.length by omega)]
  have fc := free_of h.row
  have t1 : decide (i / 2 < B.length) = true := by simp; omega
  go_enter Tryz.func104, Tryz.ntmps104
  go_wp2_with fail
  go_region
  go_wp2
  go_end0
  have hb : B.getD (i / 2) 0 < 256 := by
    rw [List.getD_eq_getElem?_getD, List.getElem?_eq_getElem (show i / 2 < B.length by omega)]
    exact hs _ (List.getElem_mem _)
  have hp := put_eq (B.getD (i / 2) 0) i v hb hv
  rw [List.getD_eq_getElem?_getD] at hp
  rw [hp]
  exact ⟨rfl, set_sk h hv hb, ((Upd.refl _ w).setB).drew⟩

end Go.Proofs.YtkeicfajlmhajaaGreat.Sk

/- The walks of package sketch over a list of cells. -/
namespace Go.Proofs.YtkeicfajlmhajaaGreat.Sk
open Go Go.RowKit Go.Proofs.YtkeicfajlmhajaaGreat.K Go.Proofs.YtkeicfajlmhajaaGreat.Ha

theorem put_eq' (B : List Nat) (i v : Nat) : put B i v = B.set (i / 2) (mixed (B.getD (i / 2) 0) i v) := rfl

theorem cell_put (B : List Nat) (i j v : Nat) (hv : v < 16) (hi : i / 2 < B.length) (hb : ∀ x ∈ B, x < 256) :
    cell (put B i v) j = if i = j then v else cell B j := by
  have hB : B.getD (i / 2) 0 < 256 := by
    rw [List.getD_eq_getElem?_getD, List.getElem?_eq_getElem hi]; exact hb _ (List.getElem_mem _)
  unfold cell
  by_cases h : i / 2 = j / 2
  · have hg : (put B i v).getD (j / 2) 0 = mixed (B.getD (i / 2) 0) i v := by
      rw [put_eq', ← h, List.getD_eq_getElem?_getD, List.getElem?_set_self hi]; rfl
    rw [hg, ← h]
    generalize B.getD (i / 2) 0 = x at *
    unfold mixed
    rcases Nat.mod_two_eq_zero_or_one i with e | e <;> rcases Nat.mod_two_eq_zero_or_one j with e' | e' <;> rw [e, e']
    · rw [if_pos rfl, if_pos (by omega)]; simp; try omega
    · rw [if_pos rfl, if_neg (by omega)]; simp; omega
    · rw [if_neg (by decide), if_neg (by omega)]; simp; try omega
    · rw [if_neg (by decide), if_pos (by omega)]; simp; try omega
  · rw [if_neg (by rintro rfl; exact h rfl)]
    rw [put_eq', List.getD_eq_getElem?_getD, List.getElem?_set_ne h, ← List.getD_eq_getElem?_getD]

theorem cell_lt (B : List Nat) (i : Nat) : cell B i < 16 := by unfold cell; omega

/-- The sketch at b, its bytes at c: its cells. -/
def Sq (w : World) (b c n : Nat) (C : List Nat) (sum : Int) : Prop := ∃ B, Sk w b c n B sum ∧ C.length = 4 * n ∧ ∀ i, i < 4 * n → cell B i = C.getD i 0

theorem Sq.small {w : World} {b c n : Nat} {C : List Nat} {sum : Int} (h : Sq w b c n C sum) : ∀ i, i < 4 * n → C.getD i 0 < 16 := by
  obtain ⟨B, _, _, h⟩ := h
  intro i hi
  rw [← h i hi]; exact cell_lt B i
theorem Sq.obj {w : World} {b c n : Nat} {C : List Nat} {sum : Int} (h : Sq w b c n C sum) :
    ∃ l, w.heap[b]? = some (.cells #[.int .i64 (n : Int), .slice (some ⟨c, 0, none⟩) l l, .int .i64 sum] 87 (0, 0)) := by
  obtain ⟨B, h, _⟩ := h; exact ⟨_, h.obj⟩
theorem Sq.n1 {w : World} {b c n : Nat} {C : List Nat} {sum : Int} (h : Sq w b c n C sum) : 8 ≤ n := by obtain ⟨B, h, _⟩ := h; exact h.n1
theorem Sq.n2 {w : World} {b c n : Nat} {C : List Nat} {sum : Int} (h : Sq w b c n C sum) : n ≤ 1024 := by obtain ⟨B, h, _⟩ := h; exact h.n2
theorem Sq.len {w : World} {b c n : Nat} {C : List Nat} {sum : Int} (h : Sq w b c n C sum) : C.length = 4 * n := by obtain ⟨B, _, h, _⟩ := h; exact h
theorem Sq.drewN {w : World} {b c n : Nat} {C : List Nat} {sum : Int} (h : Sq w b c n C sum) (k : Nat) : Sq (w.drewN k) b c n C sum := by
  obtain ⟨B, h, h1⟩ := h; exact ⟨B, ⟨h.obj, h.row, h.len, h.small, h.n1, h.n2⟩, h1⟩
theorem Sq.upd {w w' : World} {b c n : Nat} {C : List Nat} {sum : Int} {F : Nat → Prop} (h : Sq w b c n C sum) (hu : Upd F w w') (h1 : ¬ F b) (h2 : ¬ F c) : Sq w' b c n C sum := by
  obtain ⟨B, h, h'⟩ := h; exact ⟨B, ⟨hu.get h.obj h1, hu.get h.row h2, h.len, h.small, h.n1, h.n2⟩, h'⟩
theorem Sq.below {w w' : World} {b c n : Nat} {C : List Nat} {sum : Int} (h : Sq w b c n C sum) (hu : Below w.heap.size w w') : Sq w' b c n C sum := by
  obtain ⟨B, h, h'⟩ := h
  exact ⟨B, ⟨(hu.block _ (lt_of_block h.obj)).trans h.obj, (hu.block _ (lt_of_block h.row)).trans h.row, h.len, h.small, h.n1, h.n2⟩, h'⟩
/-- The sum is written. -/
theorem Sq.put_sum {w : World} {b c n : Nat} {C : List Nat} {sum : Int} (h : Sq w b c n C sum) (s : Int) : Sq (w.setCell ⟨b, 2, none⟩ (.int .i64 s)) b c n C s := by
  obtain ⟨B, h, h'⟩ := h
  have hne : c ≠ b := by
    rintro rfl
    have := h.obj.symm.trans h.row
    simp at this
  exact ⟨B, ⟨block_setCell h.obj, block_other hne h.row, h.len, h.small, h.n1, h.n2⟩, h'⟩

theorem at_sq (b c n i : Nat) (C : List Nat) (sum : Int) (w : World) (h : Sq w b c n C sum) (hi : i < 4 * n) :
    Calls Tryz.prog 103 #[.pointer (some ⟨b, 0, none⟩), .int .i64 (i : Int)] w fun e w' => e = .returned (.int .i64 (C.getD i 0 : Nat)) ∧ w' = w := by
  obtain ⟨B, h, _, h'⟩ := h
  rw [← h' i hi]
  exact at_calls b c n i B sum w h hi

theorem set_sq (b c n i v : Nat) (C : List Nat) (sum : Int) (w : World) (h : Sq w b c n C sum) (hi : i < 4 * n) (hv : v < 16) :
    Calls Tryz.prog 104 #[.pointer (some ⟨b, 0, none⟩), .int .i64 (i : Int), .int .i64 (v : Int)] w fun e w' => e = .returned (.tuple #[]) ∧ Sq w' b c n (C.set i v) sum ∧ Upd (· = c) w w' := by
  obtain ⟨B, h, hl, h'⟩ := h
  refine (set_calls b c n i v B sum w h hi hv).mono ?_
  rintro e w' ⟨rfl, hs, hu⟩
  refine ⟨rfl, ⟨_, hs, by simpa using hl, fun j hj => ?_⟩, hu⟩
  rw [cell_put B i j v hv (by have := h.len; omega) h.small, h' j hj]
  by_cases e : i = j
  · subst e; rw [if_pos rfl, List.getD_eq_getElem?_getD, List.getElem?_set_self (by omega)]; rfl
  · rw [if_neg e, List.getD_eq_getElem?_getD, List.getD_eq_getElem?_getD, List.getElem?_set_ne e]

theorem sum_sq (b c n : Nat) (C : List Nat) (sum : Int) (w : World) (h : Sq w b c n C sum) :
    Calls Tryz.prog 81 #[.pointer (some ⟨b, 0, none⟩)] w fun e w' => e = .returned (.int .i64 sum) ∧ w' = w := by
  obtain ⟨l, ho⟩ := h.obj
  obtain ⟨c0, c1, c2, fr⟩ := cells3 ho
  clear h ho
  go_enter Tryz.func81, Tryz.ntmps81
  go_wp2
  go_ret
  exact ⟨rfl, rfl⟩

/-- k rounds of a halving. -/
def hv (C : List Nat) (k : Nat) : List Nat := (C.take k).map (· / 2) ++ C.drop k

theorem hv_succ (C : List Nat) (k : Nat) (hk : k < C.length) : hv C (k + 1) = (hv C k).set k ((hv C k).getD k 0 / 2) := by
  unfold hv
  have hl : ((C.take k).map (· / 2)).length = k := by simp; omega
  have hg : (((C.take k).map (· / 2)) ++ C.drop k).getD k 0 = C[k] := by
    rw [List.getD_eq_getElem?_getD, List.getElem?_append_right (by omega), hl]; simp [hk]
  rw [hg, List.set_append_right _ _ (by omega), hl, Nat.sub_self, List.take_succ_eq_append_getElem hk, List.drop_eq_getElem_cons hk, List.set_cons_zero, List.map_append]
  simp

theorem halve_sq (b c n : Nat) (C : List Nat) (sum : Int) (w : World) (h : Sq w b c n C sum) (h0 : 0 ≤ sum) (h1 : sum ≤ 4611686018427387904) :
    Calls Tryz.prog 106 #[.pointer (some ⟨b, 0, none⟩)] w fun e w' => e = .returned (.tuple #[]) ∧ Sq w' b c n (C.map (· / 2)) (sum / 2) ∧ Upd (fun k => k = b ∨ k = c) w w' := by
  obtain ⟨l, ho⟩ := h.obj
  obtain ⟨c0, c1, c2, fr⟩ := cells3 ho
  have h2 := h.n2
  have hl := h.len
  have H := Lib.hid h
  clear h ho
  go_enter Tryz.func106, Tryz.ntmps106
  go_wp2_with fail
  go_loopw [10] (fun v10 wr => ∃ k : Nat, k ≤ 4 * n ∧ v10 = .int .i64 k ∧ Sq wr b c n (hv C k) sum ∧ Upd (fun k => k = b ∨ k = c) w wr) (fun v10 wr => 4 * n - (intOf v10).toNat)
  case atStart => exact ⟨0, by omega, rfl, by have := H.out; unfold hv; simpa using this, Upd.refl _ _⟩
  case round =>
    obtain ⟨k, hk, rfl, hs, hu⟩ := hrel
    have HS := Lib.hid hs
    have HU := Lib.hid hu
    clear hs hu
    by_cases hlt : k < 4 * n
    · have A := at_sq b c n k (hv C k) sum wr HS.out hlt
      have hx := HS.out.small k hlt
      generalize hxe : (hv C k).getD k 0 = x at *
      have HX := Lib.hid hxe
      clear hxe
      have e1 : wrap64 (((x : Int)).tdiv 2) = ((x / 2 : Nat) : Int) := by
        rw [Int.tdiv_eq_ediv_of_nonneg (by omega)]; unfold wrap64; omega
      have S := set_sq b c n k (x / 2) (hv C k) sum wr HS.out hlt (by omega)
      have HA := Lib.hid A
      clear A
      go_wp2_with (first | (go_at_call 103; refine HA.out.mono ?_; rintro e w' ⟨rfl, rfl⟩) | (go_at_call 104; refine S.mono ?_; rintro e w2 ⟨rfl, hs2, hu2⟩))
      go_roundw
      case rel =>
        refine ⟨k + 1, by omega, by go_num, ?_, HU.out.trans (hu2.mono (fun _ _ h => .inr h))⟩
        rw [hv_succ C k (by omega), HX.out]; exact hs2
      case measure => simp [intOf]; omega
    · obtain rfl : k = 4 * n := by omega
      obtain ⟨l2, ho2⟩ := HS.out.obj
      obtain ⟨d0, d1, d2, fr2⟩ := cells3 ho2
      clear ho2
      have e1 : wrap64 (sum.tdiv 2) = sum / 2 := by rw [Int.tdiv_eq_ediv_of_nonneg h0]; unfold wrap64; omega
      go_wp2_with fail
      go_end0
      have hh : hv C (4 * n) = C.map (· / 2) := by
        unfold hv
        rw [List.take_of_length_le (by omega), List.drop_of_length_le (by omega), List.append_nil]
      have hs3 := HS.out
      rw [hh] at hs3
      exact ⟨rfl, hs3.put_sum _, HU.out.setCell (p := ⟨b, 2, none⟩) (.inl (.inl rfl)) _⟩

/-- A key's cells. -/
def plc (n : Nat) (key : ByteArray) (i : Nat) : Nat := i * n + pl ((i : Int) + 1) key n
def plv (n : Nat) (key : ByteArray) : List Value := (List.range 4).map fun i => Value.int .i64 (plc n key i : Int)

end Go.Proofs.YtkeicfajlmhajaaGreat.Sk

/- The walk of places. -/
namespace Go.Proofs.YtkeicfajlmhajaaGreat.Sk
open Go Go.RowKit Go.Proofs.YtkeicfajlmhajaaGreat.K Go.Proofs.YtkeicfajlmhajaaGreat.Ha

def pvk (n : Nat) (key : ByteArray) (k : Nat) : List Value := (List.range 4).map fun i => if i < k then Value.int .i64 (plc n key i : Int) else .int .i64 0
theorem pvk_four (n : Nat) (key : ByteArray) : pvk n key 4 = plv n key := rfl
theorem pvk_succ (n : Nat) (key : ByteArray) : ∀ k, k < 4 → pvk n key (k + 1) = (pvk n key k).set k (.int .i64 (plc n key k : Int))
  | 0, _ => rfl
  | 1, _ => rfl
  | 2, _ => rfl
  | 3, _ => rfl
  | k + 4, h => by omega

theorem keep_far {w : World} {b g k o n : Nat} {u v : Value} (hne : b ≠ g) (h : w.cell? ⟨b, o, none⟩ = some v) : ((w.drewN n).setCell ⟨g, k, none⟩ u).cell? ⟨b, o, none⟩ = some v := by
  have hb : ((w.drewN n).setCell ⟨g, k, none⟩ u).heap[b]? = w.heap[b]? := block_other (p := ⟨g, k, none⟩) hne rfl
  unfold World.cell? at h ⊢
  simp only [hb]
  exact h

theorem places_sq (b c n : Nat) (C : List Nat) (sum : Int) (key : ByteArray) (w : World) (h : Sq w b c n C sum) (hn : key.size ≤ 140737488351232) :
    Calls Tryz.prog 102 #[.pointer (some ⟨b, 0, none⟩), .string key] w fun e w' => e = .returned (.agg (plv n key).toArray) ∧ Below w.heap.size w w' := by
  have n1 := h.n1
  have n2 := h.n2
  obtain ⟨l, ho⟩ := h.obj
  go_enter Tryz.func102, Tryz.ntmps102
  go_wp2_with fail
  go_loopw [7] (fun v7 wr => ∃ k : Nat, k ≤ 4 ∧ v7 = .int .i64 k ∧ wr.heap[w.heap.size + 1]? = some (.cells (pvk n key k).toArray 128 (0, 0)) ∧ wr.heap[w.heap.size]? = some (.cells #[.int .i64 0, .int .i64 0, .int .i64 0, .int .i64 0] 128 (0, 0)) ∧ Below w.heap.size w wr) (fun v7 wr => 4 - (intOf v7).toNat)
  case atStart => 
    refine ⟨0, by omega, rfl, block_new' (by simp) _, block_alloc (block_new w _), ?_⟩
    exact ((Below.refl _ _).alloc (Nat.le_refl _) _).alloc (by simp) _
  case round =>
    obtain ⟨k, hk, rfl, h5, h4, hb⟩ := hrel
    by_cases hlt : k < 4
    · have ho2 := (hb.block _ (lt_of_block ho)).trans ho
      obtain ⟨c0, c1, c2, fr⟩ := cells3 ho2
      have f5 := free_of h5
      have i4 : (k : Int) < 4 := by omega
      obtain ⟨v5, hv5⟩ : ∃ v, wr.cell? ⟨w.heap.size + 1, k, none⟩ = some v := by
        rw [cell_of h5]
        exact ⟨_, Array.getElem?_eq_getElem (show k < (pvk n key k).toArray.size by simp [pvk]; omega)⟩
      have H5 := Lib.hid h5
      have H4 := Lib.hid h4
      have HB := Lib.hid hb
      have HO := Lib.hid ho
      have HH := Lib.hid h
      clear ho2 h5 h4 hb ho h
      obtain ⟨hh, -, g0, g1⟩ := HF_spec key ((k : Int) + 1) hn
      have HHA := fun w => hash_any hh w
      have HPL := fun w => place_any (HF ((k : Int) + 1) key) n ⟨g0, g1⟩ (by omega) (by omega) w
      generalize hq : HF ((k : Int) + 1) key = q at *
      have HQ := Lib.hid hq
      clear hq hh
      have p1 : (k : Int) * (n : Int) ≤ 4 * 1024 := Int.mul_le_mul (by omega) (by omega) (by omega) (by omega)
      have p2 : 0 ≤ (k : Int) * (n : Int) := Int.mul_nonneg (by omega) (by omega)
      have p3 := Nat.mod_lt q.toNat (show n > 0 by omega)
      have e1 : IntKind.i64.wrap ((k : Int) * (n : Int)) = (k : Int) * (n : Int) := IntWalk.i64_in _ (by omega)
      have e2 : IntKind.i64.wrap ((k : Int) + 1) = (k : Int) + 1 := IntWalk.i64_in _ (by omega)
      have e3 : IntKind.u64.wrap ((k : Int) + 1) = (k : Int) + 1 := by simp only [IntKind.wrap_u64]; omega
      have e4 : IntKind.i64.wrap ((k : Int) * (n : Int) + ((q.toNat % n : Nat) : Int)) = (k : Int) * (n : Int) + ((q.toNat % n : Nat) : Int) := IntWalk.i64_in _ (by omega)
      have E4 := Lib.hid e4
      clear p1 p2 p3 e4
      have hne : b ≠ w.heap.size + 1 := by have := lt_of_block HO.out; omega
      go_wp2_with fail
      go_region_held3 (fun w' => w'.cell? ⟨b, 0, none⟩ = some (.int .i64 (n : Int)))
        (first | go_keep | exact keep_far hne c0)
        (first | (go_at_call 113; refine (HHA _).mono ?_; rintro e w' ⟨rfl, m, rfl⟩) | (go_at_call 112; refine (HPL _).mono ?_; rintro e w' ⟨rfl, m, rfl⟩))
      go_wp2_with fail
      go_roundw
      case rel =>
        have hv : wrap64 ((k : Int) * (n : Int) + max q 0 % (n : Int)) = (plc n key k : Int) := by
          have e4 := E4.out
          unfold plc pl
          rw [HQ.out]
          clear HHA HPL
          obtain ⟨m, rfl⟩ := Int.eq_ofNat_of_zero_le g0
          rw [Int.max_eq_left g0]
          refine Eq.trans ?_ (e4.trans ?_)
          · simp [IntKind.wrap_i64, wrap64]
          · simp
        refine ⟨k + 1, by omega, by go_num, ?_, ?_, ?_⟩
        · rw [pvk_succ n key k hlt, hv]
          refine (block_setCell (w := wr.drewN _) H5.out).trans ?_
          simp
        · refine block_other (w := wr.drewN _) (by simp) H4.out
        · exact (below_drewN HB.out _).setCell (by simp) _
      case measure => simp [intOf]; omega
    · obtain rfl : k = 4 := by omega
      have d0 : wr.cell? ⟨w.heap.size + 1, 0, none⟩ = some (.int .i64 (plc n key 0 : Int)) := (cell_of h5 0).trans rfl
      have d1 : wr.cell? ⟨w.heap.size + 1, 1, none⟩ = some (.int .i64 (plc n key 1 : Int)) := (cell_of h5 1).trans rfl
      have d2 : wr.cell? ⟨w.heap.size + 1, 2, none⟩ = some (.int .i64 (plc n key 2 : Int)) := (cell_of h5 2).trans rfl
      have d3 : wr.cell? ⟨w.heap.size + 1, 3, none⟩ = some (.int .i64 (plc n key 3 : Int)) := (cell_of h5 3).trans rfl
      have z0 := cell_of h4 0
      have z1 := cell_of h4 1
      have z2 := cell_of h4 2
      have z3 := cell_of h4 3
      have f4 := free_of h4
      have f5 := free_of h5
      have H5 := Lib.hid h5
      have H4 := Lib.hid h4
      have HB := Lib.hid hb
      clear h4 h5 hb ho h
      go_wp2_with fail
      (try simp only [Exit.inBlock, Exit.then])
      refine bodyPost_ret (results_cell_row rfl _ _ w.heap.size 128 (plv n key).toArray (0, 0) _ rfl ?_ Tryz.underlying128 rfl (by kernel_rfl)) rfl ?_
      · exact (block_setCell (block_setCell (block_setCell (block_setCell H4.out)))).trans rfl
      · exact ⟨rfl, (((HB.out.setCell (p := ⟨w.heap.size, 0, none⟩) (Nat.le_refl _) _).setCell (p := ⟨w.heap.size, 1, none⟩) (Nat.le_refl _) _).setCell (p := ⟨w.heap.size, 2, none⟩) (Nat.le_refl _) _).setCell (p := ⟨w.heap.size, 3, none⟩) (Nat.le_refl _) _⟩

end Go.Proofs.YtkeicfajlmhajaaGreat.Sk

/- The walks of Count and Add. -/
namespace Go.Proofs.YtkeicfajlmhajaaGreat.Sk
open Go Go.RowKit Go.Proofs.YtkeicfajlmhajaaGreat.K Go.Proofs.YtkeicfajlmhajaaGreat.Ha

theorem plc_lt (n : Nat) (key : ByteArray) (i : Nat) (hi : i < 4) (hn : 1 ≤ n) : plc n key i < 4 * n := by
  unfold plc pl
  have := Nat.mod_lt (HF ((i : Int) + 1) key).toNat (show n > 0 by omega)
  have h2 : i * n ≤ 3 * n := Nat.mul_le_mul_right _ (by omega)
  omega

/-- The least of the first k cells of a key, from 15. -/
def cntk (n : Nat) (C : List Nat) (key : ByteArray) (k : Nat) : Nat := (List.range k).foldl (fun m i => min m (C.getD (plc n key i) 0)) 15
def cnt (n : Nat) (C : List Nat) (key : ByteArray) : Nat := cntk n C key 4
theorem cntk_succ (n : Nat) (C : List Nat) (key : ByteArray) (k : Nat) : cntk n C key (k + 1) = min (cntk n C key k) (C.getD (plc n key k) 0) := by
  simp [cntk, List.range_succ]

theorem plv_eq (n : Nat) (key : ByteArray) : (plv n key).toArray = #[.int .i64 (plc n key 0 : Int), .int .i64 (plc n key 1 : Int), .int .i64 (plc n key 2 : Int), .int .i64 (plc n key 3 : Int)] := rfl

theorem idx0 (a b c d : Value) (w : World) : (Instr.index 128 (.agg #[a, b, c, d]) (.int .i64 0)).run Tryz.prog w = .ok a w := by kernel_rfl
theorem idx1 (a b c d : Value) (w : World) : (Instr.index 128 (.agg #[a, b, c, d]) (.int .i64 1)).run Tryz.prog w = .ok b w := by kernel_rfl
theorem idx2 (a b c d : Value) (w : World) : (Instr.index 128 (.agg #[a, b, c, d]) (.int .i64 2)).run Tryz.prog w = .ok c w := by kernel_rfl
theorem idx3 (a b c d : Value) (w : World) : (Instr.index 128 (.agg #[a, b, c, d]) (.int .i64 3)).run Tryz.prog w = .ok d w := by kernel_rfl

theorem count_sq (b c n : Nat) (C : List Nat) (sum : Int) (key : ByteArray) (w : World) (h : Sq w b c n C sum) (hn : key.size ≤ 140737488351232) :
    Calls Tryz.prog 101 #[.pointer (some ⟨b, 0, none⟩), .string key] w fun e w' => e = .returned (.int .i64 (cnt n C key : Nat)) ∧ Below w.heap.size w w' := by
  have n1 := h.n1
  have H := Lib.hid h
  clear h
  go_enter Tryz.func101, Tryz.ntmps101
  go_wp2_with (go_at_call 102; refine (places_sq b c n C sum key w H.out hn).mono ?_; rintro e w1 ⟨rfl, hb⟩)
  rw [plv_eq]
  have HB := Lib.hid hb
  clear hb
  go_loop [5, 13] (fun v5 v13 => ∃ k : Nat, k ≤ 4 ∧ v13 = .int .i64 k ∧ v5 = .int .i64 (cntk n C key k : Nat)) (fun v5 v13 => 4 - (intOf v13).toNat)
  case atStart => exact ⟨0, by omega, rfl, rfl⟩
  case round =>
    obtain ⟨k, hk, rfl, rfl⟩ := hrel
    by_cases hlt : k < 4
    · have A := at_sq b c n (plc n key k) C sum w1 (H.out.below HB.out) (plc_lt n key k hlt (by omega))
      have S := cntk_succ n C key k
      generalize hm : C.getD (plc n key k) 0 = m at *
      have hS := Lib.hid S
      clear S hm
      generalize cntk n C key k = x at *
      have hc : k = 0 ∨ k = 1 ∨ k = 2 ∨ k = 3 := by omega
      rcases hc with rfl | rfl | rfl | rfl
      all_goals
        have hA := Lib.hid A
        clear A
        have i0 := idx0
        have i1 := idx1
        have i2 := idx2
        have i3 := idx3
        go_wp2_with (go_at_call 103; refine hA.out.mono ?_; rintro e w2 ⟨rfl, rfl⟩)
        have hs := hS.out
        simp only [Nat.zero_add, Nat.reduceAdd] at hs
        have hm : (if m < x then (m : Int) else (x : Int)) = ((min x m : Nat) : Int) := by split <;> omega
        first
          | (refine ⟨⟨1, by omega, rfl, ?_⟩, by simp [intOf]⟩; rw [hs, hm])
          | (refine ⟨⟨2, by omega, rfl, ?_⟩, by simp [intOf]⟩; rw [hs, hm])
          | (refine ⟨⟨3, by omega, rfl, ?_⟩, by simp [intOf]⟩; rw [hs, hm])
          | (refine ⟨⟨4, by omega, rfl, ?_⟩, by simp [intOf]⟩; rw [hs, hm])
    · obtain rfl : k = 4 := by omega
      go_wp2_with fail
      go_ret
      exact ⟨rfl, HB.out⟩

end Go.Proofs.YtkeicfajlmhajaaGreat.Sk

/- The walk of Add. -/
namespace Go.Proofs.YtkeicfajlmhajaaGreat.Sk
open Go Go.RowKit Go.Proofs.YtkeicfajlmhajaaGreat.K Go.Proofs.YtkeicfajlmhajaaGreat.Ha

theorem inc_any (v : Nat) (hv : v < 15) (w : World) :
    Calls Tryz.prog 105 #[.int .i64 (v : Int), .int .i64 15] w fun e w' => e = .returned (.int .i64 ((v + 1 : Nat) : Int)) ∧ ∃ k, w' = w.drewN k := by
  have h1 : ¬ (15 : Int) ≤ (v : Int) := by omega
  go_enter Tryz.func105, Tryz.ntmps105
  go_wp2_with fail
  go_ret
  exact ⟨rfl, 0, rfl⟩

/-- k rounds of an Add. -/
def addk (n : Nat) (C : List Nat) (key : ByteArray) (low : Nat) : Nat → List Nat
  | 0 => C
  | k + 1 => let D := addk n C key low k; if D.getD (plc n key k) 0 ≤ low then D.set (plc n key k) (D.getD (plc n key k) 0 + 1) else D

theorem idxk (n : Nat) (key : ByteArray) : ∀ k : Nat, k < 4 → ∀ w : World,
    (Instr.index 128 (.agg #[.int .i64 (plc n key 0 : Int), .int .i64 (plc n key 1 : Int), .int .i64 (plc n key 2 : Int), .int .i64 (plc n key 3 : Int)]) (.int .i64 (k : Int))).run Tryz.prog w = .ok (.int .i64 (plc n key k : Int)) w
  | 0, _, w => idx0 _ _ _ _ w
  | 1, _, w => idx1 _ _ _ _ w
  | 2, _, w => idx2 _ _ _ _ w
  | 3, _, w => idx3 _ _ _ _ w
  | k + 4, h, _ => by omega

/-- What an Add does. -/
def addS (n : Nat) (key : ByteArray) (s : List Nat × Int) : List Nat × Int :=
  if cnt n s.1 key = 15 then s
  else
    let D := addk n s.1 key (cnt n s.1 key) 4
    if s.2 + 1 = 10 * (n : Int) then (D.map (· / 2), (s.2 + 1) / 2) else (D, s.2 + 1)

def BC (b c : Nat) : Nat → Prop := fun k => k = b ∨ k = c

theorem cnt_le (n : Nat) (C : List Nat) (key : ByteArray) : cnt n C key ≤ 15 := by
  have h : ∀ k, cntk n C key k ≤ 15 := by
    intro k
    induction k with
    | zero => exact Nat.le_refl _
    | succ k ih => rw [cntk_succ]; omega
  exact h 4

def AddPost (b c n : Nat) (C : List Nat) (sum : Int) (key : ByteArray) (w : World) (e : Ending) (w' : World) : Prop :=
  e = .returned (.tuple #[]) ∧ Sq w' b c n (addS n key (C, sum)).1 (addS n key (C, sum)).2 ∧ Upd (BC b c) w w'

theorem add_full (b c n : Nat) (C : List Nat) (sum : Int) (key : ByteArray) (w : World) (h : Sq w b c n C sum) (hn : key.size ≤ 140737488351232) (hl : cnt n C key = 15) :
    Calls Tryz.prog 82 #[.pointer (some ⟨b, 0, none⟩), .string key] w (AddPost b c n C sum key w) := by
  have H := Lib.hid h
  have A := count_sq b c n C sum key w H.out hn
  have HL := Lib.hid hl
  rw [hl] at A
  have HA := Lib.hid A
  clear h A hl
  go_enter Tryz.func82, Tryz.ntmps82
  go_wp2_with (go_at_call 101; refine HA.out.mono ?_; rintro e w1 ⟨rfl, hb⟩)
  (try simp only [Exit.inBlock, Exit.then])
  refine bodyPost_ret (results_none rfl _ _ _) rfl ?_
  unfold AddPost addS
  rw [if_pos HL.out]
  exact ⟨rfl, H.out.below hb, Upd.of_below hb (fun i h1 h2 => by omega)⟩

theorem add_less (b c n : Nat) (C : List Nat) (sum : Int) (key : ByteArray) (w : World) (h : Sq w b c n C sum) (hn : key.size ≤ 140737488351232) (hl : cnt n C key ≠ 15)
    (h0 : 0 ≤ sum) (h1 : sum < 10 * (n : Int)) :
    Calls Tryz.prog 82 #[.pointer (some ⟨b, 0, none⟩), .string key] w (AddPost b c n C sum key w) := by
  have H := Lib.hid h
  have A := count_sq b c n C sum key w H.out hn
  have n1 := h.n1
  have n2 := h.n2
  have hle := cnt_le n C key
  have HL := Lib.hid hl
  generalize hlow : cnt n C key = low at *
  have hl15 : low < 15 := by omega
  have HLow := Lib.hid hlow
  have HA := Lib.hid A
  clear h A hl hlow hle
  have t1 : ((low : Int) == 15) = false := by simp; omega
  go_enter Tryz.func82, Tryz.ntmps82
  go_wp2_with (first | (go_at_call 101; refine HA.out.mono ?_; rintro e w1 ⟨rfl, hb⟩) | (go_at_call 102; refine (places_sq b c n C sum key w1 (H.out.below hb) hn).mono ?_; rintro e w2 ⟨rfl, hb2⟩))
  rw [plv_eq]
  have hs2 : Hid (Sq w2 b c n C sum) := Lib.hid ((H.out.below hb).below hb2)
  have hu2 : Hid (Upd (BC b c) w w2) := Lib.hid ((Upd.of_below hb (fun i h1 h2 => by omega)).trans (Upd.of_below hb2 (fun i h1 h2 => by omega)))
  clear hb hb2
  go_loopw [18] (fun v18 wr => ∃ k : Nat, k ≤ 4 ∧ v18 = .int .i64 k ∧ Sq wr b c n (addk n C key low k) sum ∧ Upd (BC b c) w wr) (fun v18 wr => 4 - (intOf v18).toNat)
  case atStart => exact ⟨0, by omega, rfl, hs2.out, hu2.out⟩
  case round =>
    obtain ⟨k, hk, rfl, hs, hu⟩ := hrel
    have HS := Lib.hid hs
    have HU := Lib.hid hu
    clear hs hu
    by_cases hlt : k < 4
    · have i0 := idxk n key k hlt
      have hp := plc_lt n key k hlt (by omega)
      have A := at_sq b c n (plc n key k) (addk n C key low k) sum wr HS.out hp
      have hadd : addk n C key low (k + 1) = if (addk n C key low k).getD (plc n key k) 0 ≤ low then (addk n C key low k).set (plc n key k) ((addk n C key low k).getD (plc n key k) 0 + 1) else addk n C key low k := rfl
      generalize hx : (addk n C key low k).getD (plc n key k) 0 = x at *
      have HD := Lib.hid hadd
      have HA := Lib.hid A
      clear A hadd hx
      by_cases hxl : x ≤ low
      · have I := fun w => inc_any x (by omega) w
        have S : ∀ m, Calls Tryz.prog 104 _ (wr.drewN m) _ := fun m => set_sq b c n (plc n key k) (x + 1) (addk n C key low k) sum (wr.drewN m) (HS.out.drewN m) hp (by omega)
        go_wp2_with (first | (go_at_call 103; refine HA.out.mono ?_; rintro e w3 ⟨rfl, rfl⟩) | (go_at_call 105; refine (I _).mono ?_; rintro e w4 ⟨rfl, m, rfl⟩) | (go_at_call 104; refine (S _).mono ?_; rintro e w5 ⟨rfl, hs5, hu5⟩))
        go_roundw
        case rel =>
          refine ⟨k + 1, by omega, by go_num, ?_, HU.out.trans (Upd.mono (hu5.of_drewN) (fun _ _ h => .inr h))⟩
          rw [HD.out, if_pos hxl]; exact hs5
        case measure => simp [intOf]; omega
      · go_wp2_with (first | (go_at_call 103; refine HA.out.mono ?_; rintro e w3 ⟨rfl, rfl⟩))
        go_roundw
        case rel =>
          refine ⟨k + 1, by omega, by go_num, ?_, HU.out⟩
          rw [HD.out, if_neg hxl]; exact HS.out
        case measure => simp [intOf]; omega
    · obtain rfl : k = 4 := by omega
      obtain ⟨l2, ho2⟩ := HS.out.obj
      obtain ⟨d0, d1, d2, fr2⟩ := cells3 ho2
      clear ho2
      have e1 : wrap64 (sum + 1) = sum + 1 := by unfold wrap64; omega
      have e2 : wrap64 (10 * (n : Int)) = 10 * (n : Int) := by unfold wrap64; omega
      have hfin : Hid (addS n key (C, sum) = if sum + 1 = 10 * (n : Int) then ((addk n C key low 4).map (· / 2), (sum + 1) / 2) else (addk n C key low 4, sum + 1)) := Lib.hid (by
        unfold addS
        rw [HLow.out, if_neg HL.out])
      by_cases ht : sum + 1 = 10 * (n : Int)
      · have t2 : (sum + 1 == 10 * (n : Int)) = true := by simpa using ht
        go_wp2_with fail
        go_quiet (fail)
        go_wp2_with fail
        refine (halve_sq b c n (addk n C key low 4) (10 * (n : Int)) _ ((HS.out.put_sum _).drewN _) (by omega) (by omega)).mono ?_
        rintro e w6 ⟨rfl, hs6, hu6⟩
        go_wp2_with fail
        go_end0
        unfold AddPost
        rw [hfin.out, if_pos ht, ht]
        exact ⟨rfl, hs6, (HU.out.setCell (p := ⟨b, 2, none⟩) (.inl (.inl rfl)) _).trans (hu6.of_drewN)⟩
      · have t2 : (sum + 1 == 10 * (n : Int)) = false := by simpa using ht
        go_wp2_with fail
        go_quiet (fail)
        go_wp2_with fail
        go_end0
        unfold AddPost
        rw [hfin.out, if_neg ht]
        exact ⟨rfl, (HS.out.put_sum _).drewN _, (HU.out.setCell (p := ⟨b, 2, none⟩) (.inl (.inl rfl)) _).drewN _⟩

theorem add_sq (b c n : Nat) (C : List Nat) (sum : Int) (key : ByteArray) (w : World) (h : Sq w b c n C sum) (hn : key.size ≤ 140737488351232)
    (h0 : 0 ≤ sum) (h1 : sum < 10 * (n : Int)) :
    Calls Tryz.prog 82 #[.pointer (some ⟨b, 0, none⟩), .string key] w (AddPost b c n C sum key w) := by
  by_cases hl : cnt n C key = 15
  · exact add_full b c n C sum key w h hn hl
  · exact add_less b c n C sum key w h hn hl h0 h1

end Go.Proofs.YtkeicfajlmhajaaGreat.Sk

/- The walk of New. -/
namespace Go.Proofs.YtkeicfajlmhajaaGreat.Sk
open Go Go.RowKit Go.Proofs.YtkeicfajlmhajaaGreat.K Go.Proofs.YtkeicfajlmhajaaGreat.Ha

def clamp (n lo hi : Int) : Int := min (max n lo) hi
theorem clamp_any (n lo hi : Int) (w : World) :
    Calls Tryz.prog 58 #[.int .i64 n, .int .i64 lo, .int .i64 hi] w fun e w' => e = .returned (.int .i64 (clamp n lo hi)) ∧ ∃ k, w' = w.drewN k := by
  go_enter Tryz.func58, Tryz.ntmps58
  go_wp2
  all_goals
    go_ret
    refine ⟨ret_int ?_, 0, rfl⟩
    simp only [clamp, Int.min_def, Int.max_def] at *
    omega

/-- How many cells a row has, of a clamped room. -/
def pw (c : Int) : Nat := if c ≤ 8 then 8 else if c ≤ 16 then 16 else if c ≤ 32 then 32 else if c ≤ 64 then 64 else if c ≤ 128 then 128 else if c ≤ 256 then 256 else if c ≤ 512 then 512 else 1024

def Pow (n : Nat) : Prop := n = 8 ∨ n = 16 ∨ n = 32 ∨ n = 64 ∨ n = 128 ∨ n = 256 ∨ n = 512 ∨ n = 1024
theorem pow_next {n : Nat} {c : Int} (h : Pow n) (hc : (n : Int) < c) (h2 : c ≤ 1024) : Pow (2 * n) ∧ 2 * n ≤ 1024 := by unfold Pow at *; omega
theorem pow_range {n : Nat} (h : Pow n) : 8 ≤ n ∧ n ≤ 1024 := by unfold Pow at *; omega
theorem pow_end {n : Nat} {c : Int} (h : Pow n) (hb : n = 8 ∨ (n : Int) < 2 * c) (hc : ¬ (n : Int) < c) (h2 : c ≤ 1024) : n = pw c := by
  unfold Pow at h
  unfold pw
  (repeat' split) <;> omega

theorem info5 : (Tryz.prog.info? 5).map (fun i => (i.zero, i.size, i.bytes)) = some (some (.int .u8 0), 1, 1) := by kernel_rfl

theorem own_full {w : World} {base g n : Nat} {e : TypeId} {xs : List Value} (h : w.ownsRow base e 1 (.slice (some ⟨g, 0, none⟩) n n) n xs) : w.heap[g]? = some (.cells xs.toArray e (0, 0)) := by
  rcases h.2 with ⟨hh, _⟩ | ⟨g', cap', cur, hv, hB, hg, hnc, hcm, hcs, htake⟩
  · cases hh
  · injection hv with h1 _ h3
    injection h1 with h1
    injection h1 with h1
    subst h1 h3
    rw [hg, ← htake, List.take_of_length_le (by rw [Array.length_toList, hcs]; exact Nat.le_refl _)]

theorem made_one (z : Value) (n : Nat) : (madeCells #[z] n).toList = List.replicate n z := by
  apply List.ext_getElem
  · simp [madeCells]
  · intro i h1 h2
    simp [madeCells, Nat.mod_one]
theorem made_bytes (n : Nat) : (madeCells (Value.int .u8 0).cells (n * 1)).toList = bytes (List.replicate n 0) := by
  rw [Nat.mul_one]
  refine (made_one (.int .u8 0) n).trans ?_
  simp [bytes]
theorem below_of_grown {w w' : World} {m : Nat} (h : (w.drewN m).grownBy w' none) : Below w.heap.size w w' :=
  ⟨h.os, h.tape, h.output, h.size, fun k hk => h.block k hk (by simp)⟩

set_option maxRecDepth 100000 in
theorem new_sq (room : Int) (w : World) :
    Calls Tryz.prog 36 #[.int .i64 room] w fun e w' => ∃ b c, e = .returned (.pointer (some ⟨b, 0, none⟩)) ∧ w.heap.size ≤ b ∧ w.heap.size ≤ c ∧
      Sq w' b c (pw (clamp room 1 1024)) (List.replicate (4 * pw (clamp room 1 1024)) 0) 0 ∧ Below w.heap.size w w' := by
  have hc2 : clamp room 1 1024 ≤ 1024 := by unfold clamp; omega
  have hc1 : 1 ≤ clamp room 1 1024 := by unfold clamp; omega
  have hC := fun w => clamp_any room 1 1024 w
  generalize clamp room 1 1024 = c at *
  go_enter Tryz.func36, Tryz.ntmps36
  go_wp2_with fail
  go_loopw [3] (fun v3 wr => ∃ n : Nat, v3 = .int .i64 n ∧ Pow n ∧ (n = 8 ∨ (n : Int) < 2 * c) ∧ ∃ m, wr = w.drewN m) (fun v3 wr => 1024 - (intOf v3).toNat)
  case atStart => exact ⟨8, rfl, .inl rfl, .inl rfl, 0, rfl⟩
  case round =>
    obtain ⟨n, rfl, hp, hb, m, rfl⟩ := hrel
    have hr := pow_range hp
    by_cases hlt : (n : Int) < c
    · obtain ⟨hp2, hr2⟩ := pow_next hp hlt hc2
      have HP := Lib.hid hp2
      clear hp hp2
      go_wp2_with (go_at_call 58; refine (hC _).mono ?_; rintro e w' ⟨rfl, k, rfl⟩)
      go_roundw
      case rel => exact ⟨2 * n, by go_num, HP.out, .inr (by omega), _, rfl⟩
      case measure => simp [intOf]; omega
    · have hpe := Lib.hid (pow_end hp hb hlt hc2)
      clear hp hb
      obtain ⟨i5, hi5, hz5, hs5, hb5⟩ : ∃ i, Tryz.prog.info? 5 = some i ∧ i.zero = some (.int .u8 0) ∧ i.size = 1 ∧ i.bytes = 1 := by
        have h := info5
        cases hh : Tryz.prog.info? 5 with
        | none => rw [hh] at h; cases h
        | some i =>
          rw [hh] at h
          simp only [Option.map_some, Option.some.injEq, Prod.mk.injEq] at h
          exact ⟨i, rfl, h.1, h.2.1, h.2.2⟩
      go_wp2_with (first | (go_at_call 58; refine (hC _).mono ?_; rintro e w' ⟨rfl, k, rfl⟩) | (refine wpList_make_full _ rfl _ _ 85 rfl w.heap.size 5 i5 _ 1 Tryz.underlying85 hi5 hz5 hs5 .i64 .i64 _ _ (2 * n) rfl rfl (by omega) (by omega) (by rw [hb5]; omega) (by unfold maxLen; omega) (Nat.le_refl _) ?_; intro w5 hown hgr))
      go_ret
      have hB : w.heap.size ≤ w5.heap.size := hgr.size
      have hrow := own_full hown
      rw [made_bytes] at hrow
      have hne := hpe.out
      rw [← hne]
      refine ⟨_, _, rfl, hB, Nat.le_refl _, ⟨List.replicate (2 * n) 0, ⟨?_, block_alloc hrow, by simp, ?_, hr.1, hr.2⟩, by simp, ?_⟩, ?_⟩
      · rw [List.length_replicate]; exact block_new w5 _
      · intro x hx; rw [(List.mem_replicate.1 hx).2]; omega
      · intro i hi
        unfold cell
        rw [List.getD_eq_getElem?_getD, List.getD_eq_getElem?_getD, List.getElem?_replicate, List.getElem?_replicate, if_pos (by omega), if_pos (by omega)]
        simp
      · exact (Below.alloc (below_of_grown hgr) hB _)

end Go.Proofs.YtkeicfajlmhajaaGreat.Sk

namespace Go.Proofs.YtkeicfajlmhajaaGreat.Sr
open Go Go.RowKit Go.Proofs.YtkeicfajlmhajaaGreat.K Go.Proofs.YtkeicfajlmhajaaGreat.Sk

/-- The powers, from one. -/
def Pow1 (n : Nat) : Prop := n = 1 ∨ n = 2 ∨ n = 4 ∨ Sk.Pow n
theorem pow1_next {n : Nat} {c : Int} (h : Pow1 n) (hc : (n : Int) < c ∨ n < 8) (h2 : c ≤ 1024) : Pow1 (2 * n) ∧ 2 * n ≤ 1024 ∧ (2 * n ≤ 8 ∨ ((2 * n : Nat) : Int) < 2 * c) := by unfold Pow1 Sk.Pow at *; omega
theorem pow1_end {n : Nat} {c : Int} (h : Pow1 n) (hb : n ≤ 8 ∨ (n : Int) < 2 * c) (h8 : 8 ≤ n) (hc : ¬ (n : Int) < c) (h2 : c ≤ 1024) : n = pw c := by
  unfold Pow1 Sk.Pow at h
  unfold pw
  (repeat' split) <;> omega

end Go.Proofs.YtkeicfajlmhajaaGreat.Sr

/- Plain facts of a sketch: what an Add leaves in the cells. -/
namespace Go.Proofs.YtkeicfajlmhajaaGreat.Sk
open Go Go.RowKit Go.Proofs.YtkeicfajlmhajaaGreat.K Go.Proofs.YtkeicfajlmhajaaGreat.Ha

theorem getD_set (D : List Nat) (i j v : Nat) : (D.set i v).getD j 0 = if i = j ∧ j < D.length then v else D.getD j 0 := by
  rw [List.getD_eq_getElem?_getD, List.getD_eq_getElem?_getD, List.getElem?_set]
  by_cases h : i = j
  · subst h
    by_cases h2 : i < D.length
    · rw [if_pos rfl, if_pos h2, if_pos ⟨rfl, h2⟩]; rfl
    · rw [if_pos rfl, if_neg h2, if_neg (fun h => h2 h.2), List.getElem?_eq_none (by omega)]
  · rw [if_neg h, if_neg (fun h' => h h'.1)]

theorem addk_length (n : Nat) (C : List Nat) (key : ByteArray) (low : Nat) : ∀ k, (addk n C key low k).length = C.length
  | 0 => rfl
  | k + 1 => by
    have ih := addk_length n C key low k
    simp only [addk]
    split
    · rw [List.length_set]; exact ih
    · exact ih

theorem addk_mono (n : Nat) (C : List Nat) (key : ByteArray) (low : Nat) (i : Nat) : ∀ k m, k ≤ m → (addk n C key low k).getD i 0 ≤ (addk n C key low m).getD i 0 := by
  have step : ∀ k, (addk n C key low k).getD i 0 ≤ (addk n C key low (k + 1)).getD i 0 := by
    intro k
    simp only [addk]
    split
    · rw [getD_set]
      split
      · rename_i h; rw [h.1]; omega
      · exact Nat.le_refl _
    · exact Nat.le_refl _
  intro k m h
  induction m with
  | zero => have : k = 0 := by omega
            subst this; exact Nat.le_refl _
  | succ m ih =>
    rcases Nat.lt_or_ge k (m + 1) with h' | h'
    · exact Nat.le_trans (ih (by omega)) (step m)
    · have : k = m + 1 := by omega
      subst this; exact Nat.le_refl _

theorem cnt_le_cell (n : Nat) (C : List Nat) (key : ByteArray) (k : Nat) (hk : k < 4) : cnt n C key ≤ C.getD (plc n key k) 0 := by
  have hc : k = 0 ∨ k = 1 ∨ k = 2 ∨ k = 3 := by omega
  unfold cnt
  simp only [cntk_succ]
  rcases hc with rfl | rfl | rfl | rfl <;> omega

theorem cnt_ge (n m : Nat) (C : List Nat) (key : ByteArray) (hm : m ≤ 15) (h : ∀ k, k < 4 → m ≤ C.getD (plc n key k) 0) : m ≤ cnt n C key := by
  have e : cntk n C key 0 = 15 := rfl
  unfold cnt
  simp only [cntk_succ, e]
  have h0 := h 0 (by omega)
  have h1 := h 1 (by omega)
  have h2 := h 2 (by omega)
  have h3 := h 3 (by omega)
  omega

theorem addk_low (n : Nat) (C : List Nat) (key : ByteArray) (hl : C.length = 4 * n) (hn : 1 ≤ n) (k : Nat) (hk : k < 4) : cnt n C key + 1 ≤ (addk n C key (cnt n C key) 4).getD (plc n key k) 0 := by
  refine Nat.le_trans ?_ (addk_mono n C key _ _ (k + 1) 4 (by omega))
  have h1 := cnt_le_cell n C key k hk
  have h2 := addk_mono n C key (cnt n C key) (plc n key k) 0 k (by omega)
  have h3 : (addk n C key (cnt n C key) 0).getD (plc n key k) 0 = C.getD (plc n key k) 0 := rfl
  have hp := plc_lt n key k hk hn
  simp only [addk]
  split
  · rw [getD_set, if_pos ⟨rfl, by rw [addk_length]; omega⟩]; omega
  · omega

theorem cnt_mono (n : Nat) (C D : List Nat) (key : ByteArray) (h : ∀ i, C.getD i 0 ≤ D.getD i 0) : cnt n C key ≤ cnt n D key :=
  cnt_ge n _ D key (cnt_le n C key) (fun k hk => Nat.le_trans (cnt_le_cell n C key k hk) (h _))

end Go.Proofs.YtkeicfajlmhajaaGreat.Sk
