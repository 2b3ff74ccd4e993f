/- The walks of package sketch. -/
import Derived.Test.YtkeicfajlmhajaaInt
import Derived.Test.YtkeicfajlmhajaaProg
import Derived.Lib.Hide
import Derived.StillTailTactics
import Derived.BigRegion
import Derived.Laws.BitsLemmas
import Derived.Laws.BitsAllLaws
namespace Go.Proofs.Ytkeicfajlmhajaa.Sk
open Go Go.RowKit Go.Proofs.Ytkeicfajlmhajaa.K

def bytes (B : List Nat) : List Value := B.map fun x : Nat => Value.int .u8 (x : Int)
def cell (B : List Nat) (i : Nat) : Nat := B.getD (i / 2) 0 / 2 ^ (i % 2 * 4) % 16
def put (B : List Nat) (i v : Nat) : List Nat := B.set (i / 2) (if i % 2 = 0 then B.getD (i / 2) 0 / 16 * 16 + v else B.getD (i / 2) 0 % 16 + v * 16)

structure Sk (w : World) (b c n : Nat) (B : List Nat) (sum : Int) : Prop where
  obj : w.heap[b]? = some (.cells #[.int .i64 (n : Int), .slice (some ⟨c, 0, none⟩) B.length B.length, .int .i64 sum] 69 (0, 0))
  row : w.heap[c]? = some (.cells (bytes B).toArray 5 (0, 0))
  len : B.length = 2 * n
  small : ∀ x ∈ B, x < 256
  n1 : 8 ≤ n
  n2 : n ≤ 1024

theorem at_eq (x i : Nat) (hx : x < 256) : Go.bits .and .i64 (wrap64 ((x : Int) / 2 ^ (i % 2 * 4))) 15 = ((x / 2 ^ (i % 2 * 4) % 16 : Nat) : Int) := by
  have e : ((x : Int) / 2 ^ (i % 2 * 4)) = ((x / 2 ^ (i % 2 * 4) : Nat) : Int) := by simp
  have l : x / 2 ^ (i % 2 * 4) ≤ x := Nat.div_le_self _ _
  rw [e]
  generalize x / 2 ^ (i % 2 * 4) = y at *
  have e2 : wrap64 (y : Int) = y := by unfold wrap64; omega
  rw [e2]
  have := bits_mask .i64 63 (by decide) (fun n h0 h1 => by simp only [IntKind.wrap_i64]; omega) 4 (by decide) (y : Int) (by omega) (by omega)
  simpa using this

theorem at_calls (b c n i : Nat) (B : List Nat) (sum : Int) (w : World) (h : Sk w b c n B sum) (hi : i < 4 * n) :
    Calls Try.prog 62 #[.pointer (some ⟨b, 0, none⟩), .int .i64 (i : Int)] w fun e w' => e = .returned (.int .i64 (cell B i : Int)) ∧ w' = w := by
  obtain ⟨c0, c1, c2, fr⟩ := cells3 h.obj
  have hl := h.len
  have h2 := h.n2
  have hs := h.small
  have e1 : wrap64 (((i : Int)).tdiv 2) = ((i / 2 : Nat) : Int) := by
    rw [Int.tdiv_eq_ediv_of_nonneg (by omega)]; unfold wrap64; omega
  have hx : w.cell? ⟨c, i / 2, none⟩ = some (.int .u8 (B.getD (i / 2) 0 : Nat)) := by
    rw [cell_of h.row]
    simp [bytes, List.getD_eq_getElem?_getD, List.getElem?_eq_getElem (show i / 2 < B.length by omega)]
  have t1 : decide (i / 2 < B.length) = true := by simp; omega
  clear h
  go_enter Try.func62, Try.ntmps62
  go_wp2_with fail
  go_ret
  have hb : B.getD (i / 2) 0 < 256 := by
    rw [List.getD_eq_getElem?_getD, List.getElem?_eq_getElem (show i / 2 < B.length by omega)]
    exact hs _ (List.getElem_mem _)
  exact ⟨ret_int (at_eq _ _ hb), rfl⟩

def mixed (x i v : Nat) : Nat := if i % 2 = 0 then x / 16 * 16 + v else x % 16 + v * 16

theorem mixed_lo : ∀ x : Fin 256, ∀ v : Fin 16, (x.val &&& (255 - 15)) ||| v.val = x.val / 16 * 16 + v.val := by decide +kernel
theorem mixed_hi : ∀ x : Fin 256, ∀ v : Fin 16, (x.val &&& (255 - 240)) ||| (v.val * 16) = x.val % 16 + v.val * 16 := by decide +kernel

theorem put_eq (x i v : Nat) (hx : x < 256) (hv : v < 16) :
    Go.bits .or .u8 (Go.bits .andNot .u8 (x : Int) (15 * 2 ^ (i % 2 * 4) % 256)) ((v : Int) * 2 ^ (i % 2 * 4) % 256) = ((if i % 2 = 0 then x / 16 * 16 + v else x % 16 + v * 16 : Nat) : Int) := by
  rcases Nat.mod_two_eq_zero_or_one i with h | h
  · rw [h, if_pos rfl]
    have e1 : (15 * 2 ^ (0 * 4) % 256 : Int) = ((15 : Nat) : Int) := by decide
    have e2 : ((v : Int) * 2 ^ (0 * 4) % 256) = (v : Nat) := by simp; omega
    have hl := mixed_lo ⟨x, hx⟩ ⟨v, hv⟩
    simp only at hl
    rw [e1, e2, u8_andNot_nat x 15 hx (by omega), u8_or_nat _ v (Nat.lt_of_le_of_lt Nat.and_le_left hx) (by omega), hl]
  · rw [h, if_neg (by omega)]
    have e1 : (15 * 2 ^ (1 * 4) % 256 : Int) = ((240 : Nat) : Int) := by decide
    have e2 : ((v : Int) * 2 ^ (1 * 4) % 256) = ((v * 16 : Nat) : Int) := by simp; omega
    have hl := mixed_hi ⟨x, hx⟩ ⟨v, hv⟩
    simp only at hl
    rw [e1, e2, u8_andNot_nat x 240 hx (by omega), u8_or_nat _ (v * 16) (Nat.lt_of_le_of_lt Nat.and_le_left hx) (by omega), hl]

theorem set_sk {b c n i v : Nat} {B : List Nat} {sum : Int} {w : World} (h : Sk w b c n B sum) (hv : v < 16) (hb : B.getD (i / 2) 0 < 256) :
    Sk (w.setCell ⟨c, i / 2, none⟩ (.int .u8 ((if i % 2 = 0 then B.getD (i / 2) 0 / 16 * 16 + v else B.getD (i / 2) 0 % 16 + v * 16 : Nat) : Int))).drew b c n (put B i v) sum := by
  have hne : b ≠ c := by
    rintro rfl
    have := h.obj.symm.trans h.row
    simp at this
  have hl : (put B i v).length = B.length := by simp [put]
  refine ⟨?_, ?_, by rw [hl]; exact h.len, ?_, h.n1, h.n2⟩
  · rw [hl]; exact block_other hne h.obj
  · refine (block_setCell h.row).trans ?_
    congr 2
    apply Array.ext'
    simp [put, bytes, List.map_set]
  · intro x hx
    unfold put at hx
    rcases List.mem_or_eq_of_mem_set hx with hx | rfl
    · exact h.small x hx
    · split <;> omega

theorem set_calls (b c n i v : Nat) (B : List Nat) (sum : Int) (w : World) (h : Sk w b c n B sum) (hi : i < 4 * n) (hv : v < 16) :
    Calls Try.prog 63 #[.pointer (some ⟨b, 0, none⟩), .int .i64 (i : Int), .int .i64 (v : Int)] w fun e w' => e = .returned (.tuple #[]) ∧ Sk w' b c n (put B i v) sum ∧ Upd (· = c) w w' := by
  obtain ⟨c0, c1, c2, fr⟩ := cells3 h.obj
  have hl := h.len
  have h2 := h.n2
  have hs := h.small
  have e1 : wrap64 (((i : Int)).tdiv 2) = ((i / 2 : Nat) : Int) := by
    rw [Int.tdiv_eq_ediv_of_nonneg (by omega)]; unfold wrap64; omega
  have hx : w.cell? ⟨c, i / 2, none⟩ = some (.int .u8 (B.getD (i / 2) 0 : Nat)) := by
    rw [cell_of h.row]
    simp [bytes, List.getD_eq_getElem?_getD, List.getElem?_eq_getElem (show i / 2 < B.length by omega)]
  have fc := free_of h.row
  have t1 : decide (i / 2 < B.length) = true := by simp; omega
  go_enter Try.func63, Try.ntmps63
  go_wp2_with fail
  go_region
  go_wp2
  go_end0
  have hb : B.getD (i / 2) 0 < 256 := by
    rw [List.getD_eq_getElem?_getD, List.getElem?_eq_getElem (show i / 2 < B.length by omega)]
    exact hs _ (List.getElem_mem _)
  have hp := put_eq (B.getD (i / 2) 0) i v hb hv
  rw [List.getD_eq_getElem?_getD] at hp
  rw [hp]
  exact ⟨rfl, set_sk h hv hb, ((Upd.refl _ w).setB).drew⟩

end Go.Proofs.Ytkeicfajlmhajaa.Sk
