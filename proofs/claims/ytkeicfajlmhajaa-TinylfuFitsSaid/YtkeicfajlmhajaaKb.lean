/- The walks of package sketch over a list of cells. -/
import Derived.Test.YtkeicfajlmhajaaKa
import Derived.Test.YtkeicfajlmhajaaHa
import Derived.Lib.Hide
import Derived.Deep.RegionHeld3
namespace Go.Proofs.Ytkeicfajlmhajaa.Sk
open Go Go.RowKit Go.Proofs.Ytkeicfajlmhajaa.K Go.Proofs.Ytkeicfajlmhajaa.Ha

theorem put_eq' (B : List Nat) (i v : Nat) : put B i v = B.set (i / 2) (mixed (B.getD (i / 2) 0) i v) := rfl

theorem cell_put (B : List Nat) (i j v : Nat) (hv : v < 16) (hi : i / 2 < B.length) (hb : ∀ x ∈ B, x < 256) :
    cell (put B i v) j = if i = j then v else cell B j := by
  have hB : B.getD (i / 2) 0 < 256 := by
    rw [List.getD_eq_getElem?_getD, List.getElem?_eq_getElem hi]; exact hb _ (List.getElem_mem _)
  unfold cell
  by_cases h : i / 2 = j / 2
  · have hg : (put B i v).getD (j / 2) 0 = mixed (B.getD (i / 2) 0) i v := by
      rw [put_eq', ← h, List.getD_eq_getElem?_getD, List.getElem?_set_self hi]; rfl
    rw [hg, ← h]
    generalize B.getD (i / 2) 0 = x at *
    unfold mixed
    rcases Nat.mod_two_eq_zero_or_one i with e | e <;> rcases Nat.mod_two_eq_zero_or_one j with e' | e' <;> rw [e, e']
    · rw [if_pos rfl, if_pos (by omega)]; simp; try omega
    · rw [if_pos rfl, if_neg (by omega)]; simp; omega
    · rw [if_neg (by decide), if_neg (by omega)]; simp; try omega
    · rw [if_neg (by decide), if_pos (by omega)]; simp; try omega
  · rw [if_neg (by rintro rfl; exact h rfl)]
    rw [put_eq', List.getD_eq_getElem?_getD, List.getElem?_set_ne h, ← List.getD_eq_getElem?_getD]

theorem cell_lt (B : List Nat) (i : Nat) : cell B i < 16 := by unfold cell; omega

/-- The sketch at b, its bytes at c: its cells. -/
def Sq (w : World) (b c n : Nat) (C : List Nat) (sum : Int) : Prop := ∃ B, Sk w b c n B sum ∧ C.length = 4 * n ∧ ∀ i, i < 4 * n → cell B i = C.getD i 0

theorem Sq.small {w : World} {b c n : Nat} {C : List Nat} {sum : Int} (h : Sq w b c n C sum) : ∀ i, i < 4 * n → C.getD i 0 < 16 := by
  obtain ⟨B, _, _, h⟩ := h
  intro i hi
  rw [← h i hi]; exact cell_lt B i
theorem Sq.obj {w : World} {b c n : Nat} {C : List Nat} {sum : Int} (h : Sq w b c n C sum) :
    ∃ l, w.heap[b]? = some (.cells #[.int .i64 (n : Int), .slice (some ⟨c, 0, none⟩) l l, .int .i64 sum] 69 (0, 0)) := by
  obtain ⟨B, h, _⟩ := h; exact ⟨_, h.obj⟩
theorem Sq.n1 {w : World} {b c n : Nat} {C : List Nat} {sum : Int} (h : Sq w b c n C sum) : 8 ≤ n := by obtain ⟨B, h, _⟩ := h; exact h.n1
theorem Sq.n2 {w : World} {b c n : Nat} {C : List Nat} {sum : Int} (h : Sq w b c n C sum) : n ≤ 1024 := by obtain ⟨B, h, _⟩ := h; exact h.n2
theorem Sq.len {w : World} {b c n : Nat} {C : List Nat} {sum : Int} (h : Sq w b c n C sum) : C.length = 4 * n := by obtain ⟨B, _, h, _⟩ := h; exact h
theorem Sq.drewN {w : World} {b c n : Nat} {C : List Nat} {sum : Int} (h : Sq w b c n C sum) (k : Nat) : Sq (w.drewN k) b c n C sum := by
  obtain ⟨B, h, h1⟩ := h; exact ⟨B, ⟨h.obj, h.row, h.len, h.small, h.n1, h.n2⟩, h1⟩
theorem Sq.upd {w w' : World} {b c n : Nat} {C : List Nat} {sum : Int} {F : Nat → Prop} (h : Sq w b c n C sum) (hu : Upd F w w') (h1 : ¬ F b) (h2 : ¬ F c) : Sq w' b c n C sum := by
  obtain ⟨B, h, h'⟩ := h; exact ⟨B, ⟨hu.get h.obj h1, hu.get h.row h2, h.len, h.small, h.n1, h.n2⟩, h'⟩
theorem Sq.below {w w' : World} {b c n : Nat} {C : List Nat} {sum : Int} (h : Sq w b c n C sum) (hu : Below w.heap.size w w') : Sq w' b c n C sum := by
  obtain ⟨B, h, h'⟩ := h
  exact ⟨B, ⟨(hu.block _ (lt_of_block h.obj)).trans h.obj, (hu.block _ (lt_of_block h.row)).trans h.row, h.len, h.small, h.n1, h.n2⟩, h'⟩
/-- The sum is written. -/
theorem Sq.put_sum {w : World} {b c n : Nat} {C : List Nat} {sum : Int} (h : Sq w b c n C sum) (s : Int) : Sq (w.setCell ⟨b, 2, none⟩ (.int .i64 s)) b c n C s := by
  obtain ⟨B, h, h'⟩ := h
  have hne : c ≠ b := by
    rintro rfl
    have := h.obj.symm.trans h.row
    simp at this
  exact ⟨B, ⟨block_setCell h.obj, block_other hne h.row, h.len, h.small, h.n1, h.n2⟩, h'⟩

theorem at_sq (b c n i : Nat) (C : List Nat) (sum : Int) (w : World) (h : Sq w b c n C sum) (hi : i < 4 * n) :
    Calls Try.prog 62 #[.pointer (some ⟨b, 0, none⟩), .int .i64 (i : Int)] w fun e w' => e = .returned (.int .i64 (C.getD i 0 : Nat)) ∧ w' = w := by
  obtain ⟨B, h, _, h'⟩ := h
  rw [← h' i hi]
  exact at_calls b c n i B sum w h hi

theorem set_sq (b c n i v : Nat) (C : List Nat) (sum : Int) (w : World) (h : Sq w b c n C sum) (hi : i < 4 * n) (hv : v < 16) :
    Calls Try.prog 63 #[.pointer (some ⟨b, 0, none⟩), .int .i64 (i : Int), .int .i64 (v : Int)] w fun e w' => e = .returned (.tuple #[]) ∧ Sq w' b c n (C.set i v) sum ∧ Upd (· = c) w w' := by
  obtain ⟨B, h, hl, h'⟩ := h
  refine (set_calls b c n i v B sum w h hi hv).mono ?_
  rintro e w' ⟨rfl, hs, hu⟩
  refine ⟨rfl, ⟨_, hs, by simpa using hl, fun j hj => ?_⟩, hu⟩
  rw [cell_put B i j v hv (by have := h.len; omega) h.small, h' j hj]
  by_cases e : i = j
  · subst e; rw [if_pos rfl, List.getD_eq_getElem?_getD, List.getElem?_set_self (by omega)]; rfl
  · rw [if_neg e, List.getD_eq_getElem?_getD, List.getD_eq_getElem?_getD, List.getElem?_set_ne e]

theorem sum_sq (b c n : Nat) (C : List Nat) (sum : Int) (w : World) (h : Sq w b c n C sum) :
    Calls Try.prog 42 #[.pointer (some ⟨b, 0, none⟩)] w fun e w' => e = .returned (.int .i64 sum) ∧ w' = w := by
  obtain ⟨l, ho⟩ := h.obj
  obtain ⟨c0, c1, c2, fr⟩ := cells3 ho
  clear h ho
  go_enter Try.func42, Try.ntmps42
  go_wp2
  go_ret
  exact ⟨rfl, rfl⟩

/-- k rounds of a halving. -/
def hv (C : List Nat) (k : Nat) : List Nat := (C.take k).map (· / 2) ++ C.drop k

theorem hv_succ (C : List Nat) (k : Nat) (hk : k < C.length) : hv C (k + 1) = (hv C k).set k ((hv C k).getD k 0 / 2) := by
  unfold hv
  have hl : ((C.take k).map (· / 2)).length = k := by simp; omega
  have hg : (((C.take k).map (· / 2)) ++ C.drop k).getD k 0 = C[k] := by
    rw [List.getD_eq_getElem?_getD, List.getElem?_append_right (by omega), hl]; simp [hk]
  rw [hg, List.set_append_right _ _ (by omega), hl, Nat.sub_self, List.take_succ_eq_append_getElem hk, List.drop_eq_getElem_cons hk, List.set_cons_zero, List.map_append]
  simp

theorem halve_sq (b c n : Nat) (C : List Nat) (sum : Int) (w : World) (h : Sq w b c n C sum) (h0 : 0 ≤ sum) (h1 : sum ≤ 4611686018427387904) :
    Calls Try.prog 65 #[.pointer (some ⟨b, 0, none⟩)] w fun e w' => e = .returned (.tuple #[]) ∧ Sq w' b c n (C.map (· / 2)) (sum / 2) ∧ Upd (fun k => k = b ∨ k = c) w w' := by
  obtain ⟨l, ho⟩ := h.obj
  obtain ⟨c0, c1, c2, fr⟩ := cells3 ho
  have h2 := h.n2
  have hl := h.len
  have H := Lib.hid h
  clear h ho
  go_enter Try.func65, Try.ntmps65
  go_wp2_with fail
  go_loopw [10] (fun v10 wr => ∃ k : Nat, k ≤ 4 * n ∧ v10 = .int .i64 k ∧ Sq wr b c n (hv C k) sum ∧ Upd (fun k => k = b ∨ k = c) w wr) (fun v10 wr => 4 * n - (intOf v10).toNat)
  case atStart => exact ⟨0, by omega, rfl, by have := H.out; unfold hv; simpa using this, Upd.refl _ _⟩
  case round =>
    obtain ⟨k, hk, rfl, hs, hu⟩ := hrel
    have HS := Lib.hid hs
    have HU := Lib.hid hu
    clear hs hu
    by_cases hlt : k < 4 * n
    · have A := at_sq b c n k (hv C k) sum wr HS.out hlt
      have hx := HS.out.small k hlt
      generalize hxe : (hv C k).getD k 0 = x at *
      have HX := Lib.hid hxe
      clear hxe
      have e1 : wrap64 (((x : Int)).tdiv 2) = ((x / 2 : Nat) : Int) := by
        rw [Int.tdiv_eq_ediv_of_nonneg (by omega)]; unfold wrap64; omega
      have S := set_sq b c n k (x / 2) (hv C k) sum wr HS.out hlt (by omega)
      have HA := Lib.hid A
      clear A
      go_wp2_with (first | (go_at_call 62; refine HA.out.mono ?_; rintro e w' ⟨rfl, rfl⟩) | (go_at_call 63; refine S.mono ?_; rintro e w2 ⟨rfl, hs2, hu2⟩))
      go_roundw
      case rel =>
        refine ⟨k + 1, by omega, by go_num, ?_, HU.out.trans (hu2.mono (fun _ _ h => .inr h))⟩
        rw [hv_succ C k (by omega), HX.out]; exact hs2
      case measure => simp [intOf]; omega
    · obtain rfl : k = 4 * n := by omega
      obtain ⟨l2, ho2⟩ := HS.out.obj
      obtain ⟨d0, d1, d2, fr2⟩ := cells3 ho2
      clear ho2
      have e1 : wrap64 (sum.tdiv 2) = sum / 2 := by rw [Int.tdiv_eq_ediv_of_nonneg h0]; unfold wrap64; omega
      go_wp2_with fail
      go_end0
      have hh : hv C (4 * n) = C.map (· / 2) := by
        unfold hv
        rw [List.take_of_length_le (by omega), List.drop_of_length_le (by omega), List.append_nil]
      have hs3 := HS.out
      rw [hh] at hs3
      exact ⟨rfl, hs3.put_sum _, HU.out.setCell (p := ⟨b, 2, none⟩) (.inl (.inl rfl)) _⟩

/-- A key's cells. -/
def plc (n : Nat) (key : ByteArray) (i : Nat) : Nat := i * n + pl ((i : Int) + 1) key n
def plv (n : Nat) (key : ByteArray) : List Value := (List.range 4).map fun i => Value.int .i64 (plc n key i : Int)

end Go.Proofs.Ytkeicfajlmhajaa.Sk
