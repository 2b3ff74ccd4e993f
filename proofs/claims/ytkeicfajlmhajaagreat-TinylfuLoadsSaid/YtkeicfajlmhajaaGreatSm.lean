/- Rows of strings: where a key stands, a row without a key. -/
import Derived.Test.YtkeicfajlmhajaaGreatSl
import Derived.Deep.LoopGhost
import Derived.OwnWalk
namespace Go.Proofs.YtkeicfajlmhajaaGreat.Sl
open Go Go.RowKit Go.Proofs.YtkeicfajlmhajaaGreat.K
open Go.Proofs.YtkeicfajlmhajaaGreat.Li (more more_lt infoS own_form')

theorem ne_list {a b : ByteArray} (h : a ≠ b) : (a.toList == b.toList) = false := by
  rw [beq_eq_false_iff_ne]
  intro e
  rw [ByteArray.toList_eq, ByteArray.toList_eq] at e
  exact h (ByteArray.ext (Array.toList_inj.1 e))

/-- A row without a key. -/
def without (xs : List ByteArray) (key : ByteArray) : List ByteArray := xs.filter (fun k => decide (k ≠ key))
theorem without_take {xs : List ByteArray} {j : Nat} {s : ByteArray} (hs : xs[j]? = some s) (key : ByteArray) : without (xs.take (j + 1)) key = if s = key then without (xs.take j) key else without (xs.take j) key ++ [s] := by
  have hj := lt_of_getElem? hs
  have e : xs[j] = s := by rw [List.getElem?_eq_getElem hj] at hs; exact Option.some.inj hs
  unfold without
  rw [← List.take_append_getElem hj, List.filter_append, e]
  by_cases h : s = key
  · rw [if_pos h, List.filter_cons_of_neg (by simpa using h)]; simp
  · rw [if_neg h, List.filter_cons_of_pos (by simpa using h)]; simp
theorem without_le (xs : List ByteArray) (key : ByteArray) (j : Nat) : (without (xs.take j) key).length ≤ xs.length :=
  Nat.le_trans (List.length_filter_le _ _) (List.length_take_le' _ _)

def CutPost (xs : List ByteArray) (key : ByteArray) (w : World) (e : Ending) (w' : World) : Prop :=
  ∃ v, e = .returned v ∧ w'.ownsRow w.heap.size 9 1 v (without xs key).length ((without xs key).map .string) ∧ Below w.heap.size w w' ∧ (without xs key = [] → v = .slice none 0 0)
def CutRel (w : World) (xs : List ByteArray) (key : ByteArray) (N k : Nat) (v5 v6 : Value) (wr : World) : Prop :=
  ∃ j : Nat, j ≤ N ∧ k = N - j ∧ v6 = .int .i64 (j : Int) ∧ wr.ownsRow w.heap.size 9 1 v5 (without (xs.take j) key).length ((without (xs.take j) key).map .string) ∧ Below w.heap.size w wr ∧ (without (xs.take j) key = [] → v5 = .slice none 0 0)
def Some (N : Nat) (w : World) (e : Ending) (w' : World) : Prop := (∃ i : Nat, e = .returned (.int .i64 (i : Int)) ∧ i ≤ N) ∧ w = w'

end Go.Proofs.YtkeicfajlmhajaaGreat.Sl
