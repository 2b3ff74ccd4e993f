/- The rows of an engine: lists and one index over their keys. -/
import Derived.Test.YtkeicfajlmhajaaIt
import Derived.Test.YtkeicfajlmhajaaLl
namespace Go.Proofs.Ytkeicfajlmhajaa.Rw
open Go Go.RowKit Go.Proofs.Ytkeicfajlmhajaa.K
open Go.Proofs.Ytkeicfajlmhajaa.Li (Lst more more_lt hdl)
open Go.Proofs.Ytkeicfajlmhajaa.In (Idx V)

abbrev Row := List (Nat × ByteArray)

/-- R rows: the slice of lists at s, the index at bx. -/
structure Rws (R : Nat) (w : World) (s cap bx n : Nat) (l : Nat → Nat) (X : Nat → Row) (Fx : Nat → Prop) (Fr : Nat → Nat → Prop) (M : ByteArray → V → Prop) : Prop where
  row : w.ownsRow 0 64 1 (.slice (some ⟨s, 0, none⟩) R cap) R ((List.range R).map fun r => Value.pointer (some ⟨l r, 0, none⟩))
  lst : ∀ r, r < R → Lst w (l r) (Fr r) (X r)
  idx : Idx w bx Fx M n
  mem : ∀ k v, M k v ↔ v.1 < R ∧ (v.2, k) ∈ X v.1
  sep : ∀ r q, r < R → q < R → r ≠ q → ∀ k, Fr r k → ¬ Fr q k
  sepx : ∀ r, r < R → ∀ k, Fr r k → ¬ Fx k
  sx : ¬ Fx s
  sr : ∀ r, r < R → ¬ Fr r s
  n_ : n = ((List.range R).map fun r => (X r).length).sum

/-- The rows' value. -/
def rv (s R cap bx : Nat) : Value := .agg #[.slice (some ⟨s, 0, none⟩) R cap, .pointer (some ⟨bx, 0, none⟩)]

section
variable {R : Nat} {w : World} {s cap bx n : Nat} {l : Nat → Nat} {X : Nat → Row} {Fx : Nat → Prop} {Fr : Nat → Nat → Prop} {M : ByteArray → V → Prop}

theorem Rws.cell (h : Rws R w s cap bx n l X Fx Fr M) {r : Nat} (hr : r < R) : w.cell? ⟨s, r, none⟩ = some (.pointer (some ⟨l r, 0, none⟩)) := by
  obtain ⟨h1, (⟨h2, -⟩ | ⟨g, c, cur, h2, h3, h4, h5, h6, h7, h8⟩)⟩ := h.row
  · cases h2
  · cases h2
    rw [cell_of h4]
    have e : cur.toList[r]? = (cur.toList.take (R * 1))[r]? := by rw [List.getElem?_take, if_pos (by omega)]
    rw [← Array.getElem?_toList, e, h8]
    simp [hr]

theorem Rws.slt (h : Rws R w s cap bx n l X Fx Fr M) (hR : 0 < R) : s < w.heap.size := by
  have := h.cell hR
  refine Nat.lt_of_not_le fun hh => ?_
  simp [World.cell?, Array.getElem?_eq_none hh] at this

theorem Rws.below {w' : World} (h : Rws R w s cap bx n l X Fx Fr M) (hR : 0 < R) (hb : Below w.heap.size w w') : Rws R w' s cap bx n l X Fx Fr M := by
  have hs := h.slt hR
  refine ⟨?_, fun r hr => (h.lst r hr).below hb, h.idx.below hb, h.mem, h.sep, h.sepx, h.sx, h.sr, h.n_⟩
  obtain ⟨h1, (⟨h2, -⟩ | ⟨g, c, cur, h2, h3, h4, h5⟩)⟩ := h.row
  · cases h2
  · cases h2
    exact ⟨h1, .inr ⟨_, _, cur, rfl, h3, (hb.block _ hs).trans h4, h5⟩⟩

theorem where_yes (h : Rws R w s cap bx n l X Fx Fr M) {key : ByteArray} {r i : Nat} (hm : M key (r, i)) :
    Calls Try.prog 28 #[rv s R cap bx, .string key] w fun e w' => e = .returned (.int .i64 (r : Int)) ∧ Below w.heap.size w w' := by
  have hb2 : Below w.heap.size w (w.alloc (.cells #[.slice (some ⟨s, 0, none⟩) R cap, .pointer (some ⟨bx, 0, none⟩)] 42)) := (Below.refl _ _).alloc (Nat.le_refl _) _
  have G := Lib.hid (In.idx_get_yes (h.idx.below hb2) hm)
  have HB2 := Lib.hid hb2
  clear h hb2 hm
  unfold rv
  go_enter Try.func28, Try.ntmps28
  go_wp2_with fail
  generalize w.alloc (.cells #[.slice (some ⟨s, 0, none⟩) R cap, .pointer (some ⟨bx, 0, none⟩)] 42) = w2 at *
  refine G.out.mono ?_
  rintro e w3 ⟨rfl, hb3⟩
  have HB3 := Lib.hid hb3
  clear hb3 G
  go_wp2_with fail
  go_ret
  have h1 := HB2.out.size
  have h2 := HB3.out.size
  exact ⟨rfl, (HB2.out.trans (HB3.out.mono h1)).alloc (by omega) _⟩

theorem where_no (h : Rws R w s cap bx n l X Fx Fr M) {key : ByteArray} (hk : key.size ≤ 140737488351232) (hm : ∀ v, ¬ M key v) :
    Calls Try.prog 28 #[rv s R cap bx, .string key] w fun e w' => e = .returned (.int .i64 (-1)) ∧ Below w.heap.size w w' := by
  have hb2 : Below w.heap.size w (w.alloc (.cells #[.slice (some ⟨s, 0, none⟩) R cap, .pointer (some ⟨bx, 0, none⟩)] 42)) := (Below.refl _ _).alloc (Nat.le_refl _) _
  have G := Lib.hid (In.idx_get_no (h.idx.below hb2) hk hm)
  have HB2 := Lib.hid hb2
  clear h hb2 hm
  unfold rv
  go_enter Try.func28, Try.ntmps28
  go_wp2_with fail
  generalize w.alloc (.cells #[.slice (some ⟨s, 0, none⟩) R cap, .pointer (some ⟨bx, 0, none⟩)] 42) = w2 at *
  refine G.out.mono ?_
  rintro e w3 ⟨rfl, hb3⟩
  have HB3 := Lib.hid hb3
  clear hb3 G
  go_wp2_with fail
  go_ret
  have h1 := HB2.out.size
  have h2 := HB3.out.size
  exact ⟨rfl, (HB2.out.trans (HB3.out.mono h1)).alloc (by omega) _⟩

/-- One row is another. -/
def upd {α : Type} (f : Nat → α) (r : Nat) (a : α) : Nat → α := fun q => if q = r then a else f q
theorem upd_same {α : Type} (f : Nat → α) (r : Nat) (a : α) : upd f r a r = a := if_pos rfl
theorem upd_other {α : Type} (f : Nat → α) {r q : Nat} (a : α) (h : q ≠ r) : upd f r a q = f q := if_neg h

theorem sum_upd (f : Nat → Row) (r : Nat) (a : Row) : ∀ R, r < R → ((List.range R).map fun q => (upd f r a q).length).sum + (f r).length = ((List.range R).map fun q => (f q).length).sum + a.length := by
  intro R
  induction R with
  | zero => intro h; omega
  | succ R ih =>
    intro h
    rw [List.range_succ, List.map_append, List.map_append, List.sum_append, List.sum_append]
    simp only [List.map_cons, List.map_nil, List.sum_cons, List.sum_nil]
    rcases Nat.eq_or_lt_of_le (Nat.le_of_lt_succ h) with rfl | hr
    · have e : ∀ q ∈ List.range r, (upd f r a q).length = (f q).length := by
        intro q hq
        rw [upd_other f a (by have := List.mem_range.1 hq; omega)]
      rw [List.map_congr_left e, upd_same]
      omega
    · have := ih hr
      rw [upd_other f a (by omega)]
      omega

theorem drop_mem (h : Rws R w s cap bx n l X Fx Fr M) {key : ByteArray} {r i : Nat} {p q : Row} (hr : r < R) (hX : X r = p ++ (i, key) :: q) (k : ByteArray) (v : V) :
    (k ≠ key ∧ M k v) ↔ v.1 < R ∧ (v.2, k) ∈ upd X r (p ++ q) v.1 := by
  have hm : M key (r, i) := (h.mem key (r, i)).2 ⟨hr, by show (i, key) ∈ X r; rw [hX]; simp⟩
  have hn := (h.lst r hr).nodup
  rw [hX, List.map_append, List.map_cons, List.nodup_append, List.nodup_cons] at hn
  obtain ⟨-, ⟨n1, -⟩, n2⟩ := hn
  have hni : ∀ k', (i, k') ∉ p ++ q := by
    intro k' hk'
    rcases List.mem_append.1 hk' with e | e
    · exact n2 i (List.mem_map_of_mem (f := (·.1)) e) i (List.mem_cons_self ..) rfl
    · exact n1 (List.mem_map_of_mem (f := (·.1)) e)
  obtain ⟨a, c⟩ := v
  rw [h.mem]
  show (k ≠ key ∧ a < R ∧ (c, k) ∈ X a) ↔ a < R ∧ (c, k) ∈ upd X r (p ++ q) a
  by_cases ha : a = r
  · subst ha
    rw [upd_same, hX]
    constructor
    · rintro ⟨h1, h2, h3⟩
      refine ⟨h2, ?_⟩
      simp only [List.mem_append, List.mem_cons, Prod.mk.injEq] at h3 ⊢
      rcases h3 with h3 | ⟨-, h3⟩ | h3
      · exact .inl h3
      · exact absurd h3 h1
      · exact .inr h3
    · rintro ⟨h2, h3⟩
      have h4 : (c, k) ∈ p ++ (i, key) :: q := by
        simp only [List.mem_append, List.mem_cons] at h3 ⊢
        rcases h3 with h3 | h3
        · exact .inl h3
        · exact .inr (.inr h3)
      refine ⟨?_, h2, h4⟩
      rintro rfl
      have e := h.idx.one ((h.mem k (a, c)).2 ⟨h2, by show (c, k) ∈ X a; rw [hX]; exact h4⟩) hm
      cases e
      exact hni _ h3
  · rw [upd_other X _ ha]
    constructor
    · rintro ⟨-, h2, h3⟩; exact ⟨h2, h3⟩
    · rintro ⟨h2, h3⟩
      refine ⟨?_, h2, h3⟩
      rintro rfl
      have e := h.idx.one ((h.mem k (a, c)).2 ⟨h2, h3⟩) hm
      cases e
      exact ha rfl
end

end Go.Proofs.Ytkeicfajlmhajaa.Rw
