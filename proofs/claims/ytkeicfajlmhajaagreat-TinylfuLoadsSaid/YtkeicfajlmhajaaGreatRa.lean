/- The rows of an engine: lists and one index over their keys. -/
import Derived.Test.YtkeicfajlmhajaaGreatIn
import Derived.Test.YtkeicfajlmhajaaGreatLi
import Derived.Deep.LoopGhost
import Derived.Laws.AppendOwnNone
import Derived.Deep.RegionLaw
namespace Go.Proofs.YtkeicfajlmhajaaGreat.Rw
open Go Go.RowKit Go.Proofs.YtkeicfajlmhajaaGreat.K
open Go.Proofs.YtkeicfajlmhajaaGreat.Li (Lst more more_lt hdl)
open Go.Proofs.YtkeicfajlmhajaaGreat.In (Idx V)

abbrev Row := List (Nat × ByteArray)

/-- R rows: the slice of lists at s, the index at bx. -/
structure Rws (R : Nat) (w : World) (s cap bx n : Nat) (l : Nat → Nat) (X : Nat → Row) (Fx : Nat → Prop) (Fr : Nat → Nat → Prop) (M : ByteArray → V → Prop) : Prop where
  row : w.ownsRow 0 82 1 (.slice (some ⟨s, 0, none⟩) R cap) R ((List.range R).map fun r => Value.pointer (some ⟨l r, 0, none⟩))
  lst : ∀ r, r < R → Lst w (l r) (Fr r) (X r)
  idx : Idx w bx Fx M n
  mem : ∀ k v, M k v ↔ v.1 < R ∧ (v.2, k) ∈ X v.1
  sep : ∀ r q, r < R → q < R → r ≠ q → ∀ k, Fr r k → ¬ Fr q k
  sepx : ∀ r, r < R → ∀ k, Fr r k → ¬ Fx k
  sx : ¬ Fx s
  sr : ∀ r, r < R → ¬ Fr r s
  n_ : n = ((List.range R).map fun r => (X r).length).sum

/-- The rows' value. -/
def rv (s R cap bx : Nat) : Value := .agg #[.slice (some ⟨s, 0, none⟩) R cap, .pointer (some ⟨bx, 0, none⟩)]

section
variable {R : Nat} {w : World} {s cap bx n : Nat} {l : Nat → Nat} {X : Nat → Row} {Fx : Nat → Prop} {Fr : Nat → Nat → Prop} {M : ByteArray → V → Prop}

theorem Rws.cell (h : Rws R w s cap bx n l X Fx Fr M) {r : Nat} (hr : r < R) : w.cell? ⟨s, r, none⟩ = some (.pointer (some ⟨l r, 0, none⟩)) := by
  obtain ⟨h1, (⟨h2, -⟩ | ⟨g, c, cur, h2, h3, h4, h5, h6, h7, h8⟩)⟩ := h.row
  · cases h2
  · cases h2
    rw [cell_of h4]
    have e : cur.toList[r]? = (cur.toList.take (R * 1))[r]? := by rw [List.getElem?_take, if_pos (by omega)]
    rw [← Array.getElem?_toList, e, h8]
    simp [hr]

theorem Rws.slt (h : Rws R w s cap bx n l X Fx Fr M) (hR : 0 < R) : s < w.heap.size := by
  have := h.cell hR
  refine Nat.lt_of_not_le fun hh => ?_
  simp [World.cell?, Array.getElem?_eq_none hh] at this

theorem Rws.below {w' : World} (h : Rws R w s cap bx n l X Fx Fr M) (hR : 0 < R) (hb : Below w.heap.size w w') : Rws R w' s cap bx n l X Fx Fr M := by
  have hs := h.slt hR
  refine ⟨?_, fun r hr => (h.lst r hr).below hb, h.idx.below hb, h.mem, h.sep, h.sepx, h.sx, h.sr, h.n_⟩
  obtain ⟨h1, (⟨h2, -⟩ | ⟨g, c, cur, h2, h3, h4, h5⟩)⟩ := h.row
  · cases h2
  · cases h2
    exact ⟨h1, .inr ⟨_, _, cur, rfl, h3, (hb.block _ hs).trans h4, h5⟩⟩

theorem where_yes (h : Rws R w s cap bx n l X Fx Fr M) {key : ByteArray} {r i : Nat} (hm : M key (r, i)) :
    Calls Tryz.prog 45 #[rv s R cap bx, .string key] w fun e w' => e = .returned (.int .i64 (r : Int)) ∧ Below w.heap.size w w' := by
  have hb2 : Below w.heap.size w (w.alloc (.cells #[.slice (some ⟨s, 0, none⟩) R cap, .pointer (some ⟨bx, 0, none⟩)] 51)) := (Below.refl _ _).alloc (Nat.le_refl _) _
  have G := Lib.hid (In.idx_get_yes (h.idx.below hb2) hm)
  have HB2 := Lib.hid hb2
  clear h hb2 hm
  unfold rv
  go_enter Tryz.func45, Tryz.ntmps45
  go_wp2_with fail
  generalize w.alloc (.cells #[.slice (some ⟨s, 0, none⟩) R cap, .pointer (some ⟨bx, 0, none⟩)] 51) = w2 at *
  refine G.out.mono ?_
  rintro e w3 ⟨rfl, hb3⟩
  have HB3 := Lib.hid hb3
  clear hb3 G
  go_wp2_with fail
  go_ret
  have h1 := HB2.out.size
  have h2 := HB3.out.size
  exact ⟨rfl, (HB2.out.trans (HB3.out.mono h1)).alloc (by omega) _⟩

theorem where_no (h : Rws R w s cap bx n l X Fx Fr M) {key : ByteArray} (hk : key.size ≤ 140737488351232) (hm : ∀ v, ¬ M key v) :
    Calls Tryz.prog 45 #[rv s R cap bx, .string key] w fun e w' => e = .returned (.int .i64 (-1)) ∧ Below w.heap.size w w' := by
  have hb2 : Below w.heap.size w (w.alloc (.cells #[.slice (some ⟨s, 0, none⟩) R cap, .pointer (some ⟨bx, 0, none⟩)] 51)) := (Below.refl _ _).alloc (Nat.le_refl _) _
  have G := Lib.hid (In.idx_get_no (h.idx.below hb2) hk hm)
  have HB2 := Lib.hid hb2
  clear h hb2 hm
  unfold rv
  go_enter Tryz.func45, Tryz.ntmps45
  go_wp2_with fail
  generalize w.alloc (.cells #[.slice (some ⟨s, 0, none⟩) R cap, .pointer (some ⟨bx, 0, none⟩)] 51) = w2 at *
  refine G.out.mono ?_
  rintro e w3 ⟨rfl, hb3⟩
  have HB3 := Lib.hid hb3
  clear hb3 G
  go_wp2_with fail
  go_ret
  have h1 := HB2.out.size
  have h2 := HB3.out.size
  exact ⟨rfl, (HB2.out.trans (HB3.out.mono h1)).alloc (by omega) _⟩

/-- One row is another. -/
def upd {α : Type} (f : Nat → α) (r : Nat) (a : α) : Nat → α := fun q => if q = r then a else f q
theorem upd_same {α : Type} (f : Nat → α) (r : Nat) (a : α) : upd f r a r = a := if_pos rfl
theorem upd_other {α : Type} (f : Nat → α) {r q : Nat} (a : α) (h : q ≠ r) : upd f r a q = f q := if_neg h

theorem sum_upd (f : Nat → Row) (r : Nat) (a : Row) : ∀ R, r < R → ((List.range R).map fun q => (upd f r a q).length).sum + (f r).length = ((List.range R).map fun q => (f q).length).sum + a.length := by
  intro R
  induction R with
  | zero => intro h; omega
  | succ R ih =>
    intro h
    rw [List.range_succ, List.map_append, List.map_append, List.sum_append, List.sum_append]
    simp only [List.map_cons, List.map_nil, List.sum_cons, List.sum_nil]
    rcases Nat.eq_or_lt_of_le (Nat.le_of_lt_succ h) with rfl | hr
    · have e : ∀ q ∈ List.range r, (upd f r a q).length = (f q).length := by
        intro q hq
        rw [upd_other f a (by have := List.mem_range.1 hq; omega)]
      rw [List.map_congr_left e, upd_same]
      omega
    · have := ih hr
      rw [upd_other f a (by omega)]
      omega

theorem drop_mem (h : Rws R w s cap bx n l X Fx Fr M) {key : ByteArray} {r i : Nat} {p q : Row} (hr : r < R) (hX : X r = p ++ (i, key) :: q) (k : ByteArray) (v : V) :
    (k ≠ key ∧ M k v) ↔ v.1 < R ∧ (v.2, k) ∈ upd X r (p ++ q) v.1 := by
  have hm : M key (r, i) := (h.mem key (r, i)).2 ⟨hr, by show (i, key) ∈ X r; rw [hX]; simp⟩
  have hn := (h.lst r hr).nodup
  rw [hX, List.map_append, List.map_cons, List.nodup_append, List.nodup_cons] at hn
  obtain ⟨-, ⟨n1, -⟩, n2⟩ := hn
  have hni : ∀ k', (i, k') ∉ p ++ q := by
    intro k' hk'
    rcases List.mem_append.1 hk' with e | e
    · exact n2 i (List.mem_map_of_mem (f := (·.1)) e) i (List.mem_cons_self ..) rfl
    · exact n1 (List.mem_map_of_mem (f := (·.1)) e)
  obtain ⟨a, c⟩ := v
  rw [h.mem]
  show (k ≠ key ∧ a < R ∧ (c, k) ∈ X a) ↔ a < R ∧ (c, k) ∈ upd X r (p ++ q) a
  by_cases ha : a = r
  · subst ha
    rw [upd_same, hX]
    constructor
    · rintro ⟨h1, h2, h3⟩
      refine ⟨h2, ?_⟩
      simp only [List.mem_append, List.mem_cons, Prod.mk.injEq] at h3 ⊢
      rcases h3 with h3 | ⟨-, h3⟩ | h3
      · exact .inl h3
      · exact absurd h3 h1
      · exact .inr h3
    · rintro ⟨h2, h3⟩
      have h4 : (c, k) ∈ p ++ (i, key) :: q := by
        simp only [List.mem_append, List.mem_cons] at h3 ⊢
        rcases h3 with h3 | h3
        · exact .inl h3
        · exact .inr (.inr h3)
      refine ⟨?_, h2, h4⟩
      rintro rfl
      have e := h.idx.one ((h.mem k (a, c)).2 ⟨h2, by show (c, k) ∈ X a; rw [hX]; exact h4⟩) hm
      cases e
      exact hni _ h3
  · rw [upd_other X _ ha]
    constructor
    · rintro ⟨-, h2, h3⟩; exact ⟨h2, h3⟩
    · rintro ⟨h2, h3⟩
      refine ⟨?_, h2, h3⟩
      rintro rfl
      have e := h.idx.one ((h.mem k (a, c)).2 ⟨h2, h3⟩) hm
      cases e
      exact ha rfl
end

end Go.Proofs.YtkeicfajlmhajaaGreat.Rw

/- The rows of an engine: drop, push, oldest. -/
namespace Go.Proofs.YtkeicfajlmhajaaGreat.Rw
open Go Go.RowKit Go.Proofs.YtkeicfajlmhajaaGreat.K
open Go.Proofs.YtkeicfajlmhajaaGreat.Li (Lst more more_lt hdl)
open Go.Proofs.YtkeicfajlmhajaaGreat.In (Idx V)

section
variable {R : Nat} {w : World} {s cap bx n : Nat} {l : Nat → Nat} {X : Nat → Row} {Fx : Nat → Prop} {Fr : Nat → Nat → Prop} {M : ByteArray → V → Prop}

theorem cell_upd {F : Nat → Prop} {w w' : World} (h : Upd F w w') {k o : Nat} {x : Value} (hF : ¬ F k) (hc : w.cell? ⟨k, o, none⟩ = some x) : w'.cell? ⟨k, o, none⟩ = some x := by
  have hk : k < w.heap.size := Nat.lt_of_not_le fun hh => by simp [World.cell?, Array.getElem?_eq_none hh] at hc
  rw [← hc]
  exact World.cell?_of_block (h.block k hk hF)

theorem row_upd {F : Nat → Prop} {w w' : World} {xs : List Value} (h : w.ownsRow 0 82 1 (.slice (some ⟨s, 0, none⟩) R cap) R xs) (hu : Upd F w w') (hs : s < w.heap.size) (hF : ¬ F s) :
    w'.ownsRow 0 82 1 (.slice (some ⟨s, 0, none⟩) R cap) R xs := by
  obtain ⟨h1, (⟨h2, -⟩ | ⟨g, c, cur, h2, h3, h4, h5⟩)⟩ := h
  · cases h2
  · cases h2
    exact ⟨h1, .inr ⟨_, _, cur, rfl, h3, (hu.block _ hs hF).trans h4, h5⟩⟩

/-- One row was changed in the worlds behind. -/
theorem Rws.turn {w' : World} {n' r : Nat} {Y : Row} {Fx' G : Nat → Prop} {M' : ByteArray → V → Prop} (h : Rws R w s cap bx n l X Fx Fr M) (hr : r < R)
    (hu : Upd (fun k => Fx k ∨ Fr r k) w w') (hl : Lst w' (l r) G Y) (hi : Idx w' bx Fx' M' n') (hG : ∀ k, G k → Fr r k ∨ w.heap.size ≤ k) (hX' : ∀ k, Fx' k → Fx k ∨ w.heap.size ≤ k) (hd : ∀ k, G k → ¬ Fx' k)
    (hm : ∀ k v, M' k v ↔ v.1 < R ∧ (v.2, k) ∈ upd X r Y v.1) (hn : n' = ((List.range R).map fun q => (upd X r Y q).length).sum) :
    Rws R w' s cap bx n' l (upd X r Y) Fx' (upd Fr r G) M' := by
  have hs := h.slt (by omega)
  have lt : ∀ q, q < R → ∀ k, Fr q k → k < w.heap.size := fun q hq => (h.lst q hq).lt
  refine ⟨row_upd h.row hu hs (by rintro (e | e); exact h.sx e; exact h.sr r hr e), ?_, hi, hm, ?_, ?_, ?_, ?_, hn⟩
  · intro q hq
    by_cases e : q = r
    · subst e; rw [upd_same, upd_same]; exact hl
    · rw [upd_other _ _ e, upd_other _ _ e]
      refine (h.lst q hq).upd hu ?_
      rintro k hk (h1 | h1)
      · exact h.sepx q hq k hk h1
      · exact h.sep q r hq hr e k hk h1
  · intro a c ha hc hac k hk hk'
    by_cases e : a = r
    · subst e
      rw [upd_same] at hk
      rw [upd_other _ _ (Ne.symm hac)] at hk'
      rcases hG k hk with h1 | h1
      · exact h.sep a c ha hc hac k h1 hk'
      · have := lt c hc k hk'; omega
    · rw [upd_other _ _ e] at hk
      by_cases e2 : c = r
      · subst e2
        rw [upd_same] at hk'
        rcases hG k hk' with h1 | h1
        · exact h.sep a c ha hc hac k hk h1
        · have := lt a ha k hk; omega
      · rw [upd_other _ _ e2] at hk'
        exact h.sep a c ha hc hac k hk hk'
  · intro q hq k hk hk'
    by_cases e : q = r
    · subst e; rw [upd_same] at hk; exact hd k hk hk'
    · rw [upd_other _ _ e] at hk
      rcases hX' k hk' with h1 | h1
      · exact h.sepx q hq k hk h1
      · have := lt q hq k hk; omega
  · intro hk
    rcases hX' s hk with h1 | h1
    · exact h.sx h1
    · omega
  · intro q hq hk
    by_cases e : q = r
    · subst e
      rw [upd_same] at hk
      rcases hG s hk with h1 | h1
      · exact h.sr q hq h1
      · omega
    · rw [upd_other _ _ e] at hk; exact h.sr q hq hk

theorem drop_no (h : Rws R w s cap bx n l X Fx Fr M) {key : ByteArray} (hk : key.size ≤ 140737488351232) (hm : ∀ v, ¬ M key v) :
    Calls Tryz.prog 50 #[rv s R cap bx, .string key] w fun e w' => e = .returned (.tuple #[]) ∧ Below w.heap.size w w' := by
  have hb2 : Below w.heap.size w (w.alloc (.cells #[.slice (some ⟨s, 0, none⟩) R cap, .pointer (some ⟨bx, 0, none⟩)] 51)) := (Below.refl _ _).alloc (Nat.le_refl _) _
  have G := Lib.hid (In.idx_del_no (h.idx.below hb2) hk hm)
  have HB2 := Lib.hid hb2
  clear h hb2 hm
  unfold rv
  go_enter Tryz.func50, Tryz.ntmps50
  go_wp2_with fail
  generalize w.alloc (.cells #[.slice (some ⟨s, 0, none⟩) R cap, .pointer (some ⟨bx, 0, none⟩)] 51) = w2 at *
  refine G.out.mono ?_
  rintro e w3 ⟨rfl, hb3⟩
  have HB3 := Lib.hid hb3
  clear hb3 G
  go_wp2_with fail
  go_end0
  have h1 := HB2.out.size
  have h2 := HB3.out.size
  exact ⟨rfl, (HB2.out.trans (HB3.out.mono h1)).alloc (by omega) _⟩

/-- What drop leaves. -/
def DropPost (R s cap bx m : Nat) (l : Nat → Nat) (X : Nat → Row) (Fx : Nat → Prop) (Fr : Nat → Nat → Prop) (M : ByteArray → V → Prop) (key : ByteArray) (r : Nat) (Y : Row) (w : World) (e : Ending) (w' : World) : Prop :=
  e = .returned (.tuple #[]) ∧ (∃ Fr', Rws R w' s cap bx m l (upd X r Y) Fx Fr' (fun k v => k ≠ key ∧ M k v) ∧ ∀ q k, Fr' q k → Fr q k ∨ w.heap.size ≤ k) ∧ Upd (fun k => Fx k ∨ Fr r k) w w'

set_option maxHeartbeats 800000 in
theorem drop_yes {m : Nat} (h : Rws R w s cap bx (m + 1) l X Fx Fr M) {key : ByteArray} {r i : Nat} {p q : Row} (hr : r < R) (hX : X r = p ++ (i, key) :: q) :
    Calls Tryz.prog 50 #[rv s R cap bx, .string key] w (DropPost R s cap bx m l X Fx Fr M key r (p ++ q) w) := by
  have hmem := drop_mem h hr hX
  have hsum := sum_upd X r (p ++ q) R hr
  have hm : M key (r, i) := (h.mem key (r, i)).2 ⟨hr, by show (i, key) ∈ X r; rw [hX]; simp⟩
  have hb2 : Below w.heap.size w (w.alloc (.cells #[.slice (some ⟨s, 0, none⟩) R cap, .pointer (some ⟨bx, 0, none⟩)] 51)) := (Below.refl _ _).alloc (Nat.le_refl _) _
  have h2 := h.below (by omega) hb2
  have G := Lib.hid (In.idx_del_yes h2.idx hm)
  have HB2 := Lib.hid hb2
  have HV := Lib.hid (block_new w (.cells #[.slice (some ⟨s, 0, none⟩) R cap, .pointer (some ⟨bx, 0, none⟩)] 51))
  have H2 := Lib.hid h2
  have HMEM := Lib.hid hmem
  have HSUM := Lib.hid hsum
  have HXR := Lib.hid hX
  have HFX := Lib.hid h.idx.lt
  have HN := Lib.hid h.n_
  have HFR := Lib.hid (fun q hq => (h.lst q hq).lt)
  have hsl := h.slt (by omega)
  have z0 : (0 : Int) ≤ (r : Int) := by omega
  have z1 : (r : Int) < (R : Int) := by omega
  clear h h2 hb2 hm hmem hsum hX
  unfold rv
  go_enter Tryz.func50, Tryz.ntmps50
  go_wp2_with fail
  generalize w.alloc (.cells #[.slice (some ⟨s, 0, none⟩) R cap, .pointer (some ⟨bx, 0, none⟩)] 51) = w2 at *
  refine G.out.mono ?_
  rintro e w3 ⟨rfl, hx3, hu3⟩
  have hz : ¬ Fx w.heap.size := fun hh => by have := HFX.out _ hh; omega
  have HB3 := Lib.hid (hu3.get HV.out hz)
  have HX3 := Lib.hid hx3
  have HU3 := Lib.hid hu3
  clear hx3 hu3 G
  go_wp2_with fail
  have H4 := Lib.hid (block_alloc (o := .cells #[.int .i64 (r : Int), .int .i64 (i : Int)] 80) HB3.out)
  have HA := Lib.hid (block_new w3 (.cells #[.int .i64 (r : Int), .int .i64 (i : Int)] 80))
  have hU4 : Upd Fx w (w3.alloc (.cells #[.int .i64 (r : Int), .int .i64 (i : Int)] 80)) := ((Upd.of_below (F := Fx) HB2.out (fun k h1 h2 => by omega)).trans HU3.out).alloc _
  have hc := (H2.out.cell hr)
  have hs2 := H2.out.slt (by omega)
  have hc4 : (w3.alloc (.cells #[.int .i64 (r : Int), .int .i64 (i : Int)] 80)).cell? ⟨s, r, none⟩ = some (.pointer (some ⟨l r, 0, none⟩)) := by
    have hu := HU3.out.alloc (.cells #[.int .i64 (r : Int), .int .i64 (i : Int)] 80)
    rw [← hc]
    exact World.cell?_of_block (hu.block s hs2 H2.out.sx)
  have hl4 : Lst (w3.alloc (.cells #[.int .i64 (r : Int), .int .i64 (i : Int)] 80)) (l r) (Fr r) (X r) :=
    (H2.out.lst r hr).upd (HU3.out.alloc _) (H2.out.sepx r hr)
  have HU24 := Lib.hid (HU3.out.alloc (.cells #[.int .i64 (r : Int), .int .i64 (i : Int)] 80))
  have HX4 := Lib.hid (HX3.out.below ((Below.refl _ _).alloc (Nat.le_refl _) (.cells #[.int .i64 (r : Int), .int .i64 (i : Int)] 80)))
  have HL4 := Lib.hid hl4
  have HU4 := Lib.hid hU4
  clear hU4 hc hl4
  generalize w3.alloc (.cells #[.int .i64 (r : Int), .int .i64 (i : Int)] 80) = w4 at *
  obtain ⟨b0, b1, fb⟩ := In.two_cells H4.out
  obtain ⟨a0, a1, fa⟩ := In.two_cells HA.out
  have RM : Hid (Calls Tryz.prog 73 #[.pointer (some ⟨l r, 0, none⟩), .int .i64 (i : Int)] w4.drew (Li.RemPost (l r) (Fr r) (p ++ q) key w4.drew)) := Lib.hid (by
    have hl := HL4.out
    rw [HXR.out] at hl
    exact Li.lst_remove (hl.drewN 1))
  have s4 := lt_of_block HA.out
  have s3 := HU3.out.size
  have hFr := (H2.out.lst r hr).lt
  have hFw := (HL4.out).lt
  have nw : ¬ Fr r w.heap.size := fun hh => by have := HFR.out r hr _ hh; omega
  have ns : ¬ Fr r s := H2.out.sr r hr
  have nw3 : ¬ Fr r w3.heap.size := fun hh => by have := hFr _ hh; omega
  go_region_held3 (fun w' => w'.cell? ⟨w.heap.size, 0, none⟩ = some (.slice (some ⟨s, 0, none⟩) R cap) ∧ w'.cell? ⟨s, r, none⟩ = some (.pointer (some ⟨l r, 0, none⟩)) ∧ w'.cell? ⟨w3.heap.size, 0, none⟩ = some (.int .i64 (r : Int)) ∧ w'.cell? ⟨w3.heap.size, 1, none⟩ = some (.int .i64 (i : Int)))
    (first | (go_keep; done) | exact ⟨by assumption, by assumption, by assumption, by assumption⟩)
    (first | (go_at_call 73; refine RM.out.mono ?_; rintro e w5 ⟨rfl, hl5, hu5⟩; have q0 := cell_upd hu5 nw b0; have q1 := cell_upd hu5 ns hc4; have q2 := cell_upd hu5 nw3 a0; have q3 := cell_upd hu5 nw3 a1))
  go_end0
  have hu25 : Upd (fun k => Fx k ∨ Fr r k) w2 w5 := ((HU24.out.drew).mono (fun k _ hk => .inl hk)).trans (hu5.mono (fun k _ hk => .inr hk))
  have hs5 := HU24.out.size
  have hs1 := HB2.out.size
  have hMore : ∀ k, more (Fr r) w4.drew w5 k → Fr r k ∨ w2.heap.size ≤ k := by
    rintro k (hk | hk)
    · exact .inl hk
    · have : w4.heap.size ≤ k := hk.1
      exact .inr (by omega)
  have hi5 : Idx w5 bx Fx (fun k v => k ≠ key ∧ M k v) m := (HX4.out.drewN 1).upd hu5 (fun k hk hf => H2.out.sepx r hr k hf hk)
  refine ⟨rfl, ⟨_, H2.out.turn hr hu25 hl5 hi5 hMore (fun k hk => .inl hk) ?_ HMEM.out ?_, ?_⟩, ((Upd.of_below (F := fun _ => False) HB2.out (fun k h1 h2 => by omega)).mono (fun k _ hk => hk.elim)).trans hu25⟩
  · intro k hk hf
    rcases hMore k hk with h1 | h1
    · exact H2.out.sepx r hr k h1 hf
    · have := HFX.out k hf; omega
  · have h1 := HSUM.out
    have h2 := HN.out
    have h3 := congrArg List.length HXR.out
    simp only [List.length_append, List.length_cons] at h1 h3 ⊢
    omega
  · intro a k hk
    by_cases e : a = r
    · subst e
      rw [upd_same] at hk
      rcases hMore k hk with h1 | h1
      · exact .inl h1
      · exact .inr (by omega)
    · rw [upd_other _ _ e] at hk; exact .inl hk
end

end Go.Proofs.YtkeicfajlmhajaaGreat.Rw

/- The rows of an engine as lists of keys. -/
namespace Go.Proofs.YtkeicfajlmhajaaGreat.Rw
open Go Go.RowKit Go.Proofs.YtkeicfajlmhajaaGreat.K
open Go.Proofs.YtkeicfajlmhajaaGreat.Li (Lst more more_lt hdl)
open Go.Proofs.YtkeicfajlmhajaaGreat.In (Idx V)

/-- R rows of keys, all their memory in F. -/
def Rows (R : Nat) (w : World) (v : Value) (F : Nat → Prop) (K : Nat → List ByteArray) : Prop :=
  ∃ s cap bx n l X Fx Fr M, v = rv s R cap bx ∧ Rws R w s cap bx n l X Fx Fr M ∧ (∀ r, r < R → K r = (X r).map (·.2)) ∧ F s ∧ (∀ k, Fx k → F k) ∧ (∀ r, r < R → ∀ k, Fr r k → F k) ∧ ∀ k, F k → k < w.heap.size

section
variable {R : Nat} {w : World} {v : Value} {F : Nat → Prop} {K : Nat → List ByteArray}

theorem Rows.lt (h : Rows R w v F K) : ∀ k, F k → k < w.heap.size := by obtain ⟨s, cap, bx, n, l, X, Fx, Fr, M, _, _, _, _, _, _, h⟩ := h; exact h
theorem Rows.upd {w' : World} {G : Nat → Prop} (h : Rows R w v F K) (hu : Upd G w w') (hG : ∀ k, F k → ¬ G k) : Rows R w' v F K := by
  obtain ⟨s, cap, bx, n, l, X, Fx, Fr, M, h1, h2, h3, h4, h5, h6, h7⟩ := h
  exact ⟨s, cap, bx, n, l, X, Fx, Fr, M, h1, ⟨row_upd h2.row hu (h7 s h4) (hG s h4), fun r hr => (h2.lst r hr).upd hu (fun k hk => hG k (h6 r hr k hk)), h2.idx.upd hu (fun k hk => hG k (h5 k hk)), h2.mem, h2.sep, h2.sepx, h2.sx, h2.sr, h2.n_⟩,
    h3, h4, h5, h6, fun k hk => Nat.lt_of_lt_of_le (h7 k hk) hu.size⟩
theorem Rows.below {w' : World} (h : Rows R w v F K) (hb : Below w.heap.size w w') : Rows R w' v F K :=
  h.upd (Upd.of_below (F := fun _ => False) hb (fun i h1 h2 => by omega)) (fun _ _ => id)
theorem Rows.drewN (h : Rows R w v F K) (n : Nat) : Rows R (w.drewN n) v F K := h.below (below_drewN (Below.refl _ _) n)
theorem Rows.mono {G : Nat → Prop} (h : Rows R w v F K) (hG : ∀ k, F k → G k) (hlt : ∀ k, G k → k < w.heap.size) : Rows R w v G K := by
  obtain ⟨s, cap, bx, n, l, X, Fx, Fr, M, h1, h2, h3, h4, h5, h6, h7⟩ := h
  exact ⟨s, cap, bx, n, l, X, Fx, Fr, M, h1, h2, h3, hG _ h4, fun k hk => hG k (h5 k hk), fun r hr k hk => hG k (h6 r hr k hk), hlt⟩
theorem Rows.same {K' : Nat → List ByteArray} (h : Rows R w v F K) (hK : ∀ r, r < R → K r = K' r) : Rows R w v F K' := by
  obtain ⟨s, cap, bx, n, l, X, Fx, Fr, M, h1, h2, h3, h4⟩ := h
  exact ⟨s, cap, bx, n, l, X, Fx, Fr, M, h1, h2, fun r hr => (hK r hr).symm.trans (h3 r hr), h4⟩

theorem mem_map {X : Row} {key : ByteArray} (h : key ∈ X.map (·.2)) : ∃ i, (i, key) ∈ X := by
  obtain ⟨⟨i, k⟩, h1, rfl⟩ := List.mem_map.1 h
  exact ⟨i, h1⟩

/-- A key lies in one row, once. -/
theorem Rows.once (h : Rows R w v F K) {key : ByteArray} {r q : Nat} (hr : r < R) (hq : q < R) (h1 : key ∈ K r) (h2 : key ∈ K q) : r = q := by
  obtain ⟨s, cap, bx, n, l, X, Fx, Fr, M, _, h2', h3, _⟩ := h
  rw [h3 r hr] at h1
  rw [h3 q hq] at h2
  obtain ⟨i, hi⟩ := mem_map h1
  obtain ⟨j, hj⟩ := mem_map h2
  have e := h2'.idx.one ((h2'.mem key (r, i)).2 ⟨hr, hi⟩) ((h2'.mem key (q, j)).2 ⟨hq, hj⟩)
  cases e
  rfl

theorem rows_where_yes (h : Rows R w v F K) {key : ByteArray} {r : Nat} (hr : r < R) (hk : key ∈ K r) :
    Calls Tryz.prog 45 #[v, .string key] w fun e w' => e = .returned (.int .i64 (r : Int)) ∧ Below w.heap.size w w' := by
  obtain ⟨s, cap, bx, n, l, X, Fx, Fr, M, rfl, h2, h3, _⟩ := h
  rw [h3 r hr] at hk
  obtain ⟨i, hi⟩ := mem_map hk
  exact where_yes h2 ((h2.mem key (r, i)).2 ⟨hr, hi⟩)
theorem Rows.absent {s cap bx n : Nat} {l : Nat → Nat} {X : Nat → Row} {Fx : Nat → Prop} {Fr : Nat → Nat → Prop} {M : ByteArray → V → Prop} (h2 : Rws R w s cap bx n l X Fx Fr M) (h3 : ∀ r, r < R → K r = (X r).map (·.2)) {key : ByteArray} (hno : ∀ r, r < R → key ∉ K r) (u : V) : ¬ M key u := by
  intro hu
  obtain ⟨h4, h5⟩ := (h2.mem key u).1 hu
  refine hno u.1 h4 ?_
  rw [h3 u.1 h4]
  exact List.mem_map_of_mem (f := (·.2)) h5
theorem rows_where_no (h : Rows R w v F K) {key : ByteArray} (hk : key.size ≤ 140737488351232) (hno : ∀ r, r < R → key ∉ K r) :
    Calls Tryz.prog 45 #[v, .string key] w fun e w' => e = .returned (.int .i64 (-1)) ∧ Below w.heap.size w w' := by
  obtain ⟨s, cap, bx, n, l, X, Fx, Fr, M, rfl, h2, h3, _⟩ := h
  exact where_no h2 hk (Rows.absent h2 h3 hno)

/-- Without a key. -/
def less (K : Nat → List ByteArray) (key : ByteArray) : Nat → List ByteArray := fun r => (K r).filter (fun k => decide (k ≠ key))
theorem less_not (K : Nat → List ByteArray) (key : ByteArray) (r : Nat) : key ∉ less K key r := by simp [less]
theorem less_same {K : Nat → List ByteArray} {key : ByteArray} {r : Nat} (h : key ∉ K r) : less K key r = K r := by
  unfold less
  rw [List.filter_eq_self]
  intro a ha
  refine decide_eq_true ?_
  rintro rfl
  exact h ha

def RowsPost (R : Nat) (v : Value) (F : Nat → Prop) (K : Nat → List ByteArray) (w : World) (e : Ending) (w' : World) : Prop :=
  e = .returned (.tuple #[]) ∧ Rows R w' v (more F w w') K ∧ Upd F w w'

theorem rows_drop (h : Rows R w v F K) {key : ByteArray} (hk : key.size ≤ 140737488351232) : Calls Tryz.prog 50 #[v, .string key] w (RowsPost R v F (less K key) w) := by
  have hR := h
  obtain ⟨s, cap, bx, n, l, X, Fx, Fr, M, rfl, h2, h3, h4, h5, h6, h7⟩ := h
  by_cases hx : ∃ r, r < R ∧ key ∈ K r
  · obtain ⟨r, hr, hm⟩ := hx
    have hm0 := hm
    rw [h3 r hr] at hm
    obtain ⟨i, hi⟩ := mem_map hm
    obtain ⟨p, q, hX⟩ := List.append_of_mem hi
    have hM := (h2.mem key (r, i)).2 ⟨hr, hi⟩
    obtain ⟨m, rfl⟩ : ∃ m, n = m + 1 := ⟨n - 1, by have := h2.idx.pos hM; omega⟩
    refine (drop_yes h2 hr hX).mono ?_
    rintro e w' ⟨he, ⟨Fr', hw, hf⟩, hu⟩
    have hU : Upd F w w' := hu.mono (fun k _ hk => by
      rcases hk with h | h
      · exact h5 k h
      · exact h6 r hr k h)
    refine ⟨he, ⟨s, cap, bx, m, l, _, Fx, Fr', _, rfl, hw, ?_, .inl h4, fun k hk => .inl (h5 k hk), ?_, more_lt h7 hU.size⟩, hU⟩
    · intro a ha
      by_cases e : a = r
      · subst e
        rw [Rw.upd_same]
        unfold less
        rw [h3 a ha, hX]
        have hn : ∀ y ∈ p ++ q, y.2 ≠ key := by
          rintro ⟨j, y⟩ hy rfl
          have h8 := (hw.mem y (a, j)).2 ⟨ha, by show _ ∈ Rw.upd X a (p ++ q) a; rw [Rw.upd_same]; exact hy⟩
          exact h8.1 rfl
        rw [List.map_append, List.map_cons, List.filter_append, List.filter_cons_of_neg (by simp), List.map_append]
        congr 1
        · rw [List.filter_eq_self]
          intro y hy
          obtain ⟨z, hz, rfl⟩ := List.mem_map.1 hy
          simpa using hn z (List.mem_append_left _ hz)
        · rw [List.filter_eq_self]
          intro y hy
          obtain ⟨z, hz, rfl⟩ := List.mem_map.1 hy
          simpa using hn z (List.mem_append_right _ hz)
      · rw [Rw.upd_other _ _ e, less_same (fun hh => e (hR.once ha hr hh hm0)), h3 a ha]
    · intro a ha k hk
      rcases hf a k hk with h8 | h8
      · exact .inl (h6 a ha k h8)
      · exact .inr ⟨h8, (hw.lst a ha).lt k hk⟩
  · have hno : ∀ r, r < R → key ∉ K r := fun r hr hh => hx ⟨r, hr, hh⟩
    refine (drop_no h2 hk (Rows.absent h2 h3 hno)).mono ?_
    rintro e w' ⟨he, hb⟩
    have hU : Upd F w w' := Upd.of_below hb (fun k h1 h2 => by omega)
    exact ⟨he, ((hR.below hb).same (fun r hr => (less_same (hno r hr)).symm)).mono (fun k hk => .inl hk) (more_lt h7 hU.size), hU⟩
end

end Go.Proofs.YtkeicfajlmhajaaGreat.Rw

/- The rows of an engine: push, oldest. -/
namespace Go.Proofs.YtkeicfajlmhajaaGreat.Rw
open Go Go.RowKit Go.Proofs.YtkeicfajlmhajaaGreat.K
open Go.Proofs.YtkeicfajlmhajaaGreat.Li (Lst more more_lt hdl)
open Go.Proofs.YtkeicfajlmhajaaGreat.In (Idx V)

section
variable {R : Nat} {w : World} {v : Value} {F : Nat → Prop} {K : Nat → List ByteArray}

theorem more_then {F : Nat → Prop} {a b c : World} (h1 : Upd F a b) (k : Nat) (h : more (more F a b) b c k) (hs : b.heap.size ≤ c.heap.size) : more F a c k := by
  rcases h with (h | h) | h
  · exact .inl h
  · exact .inr ⟨h.1, by omega⟩
  · exact .inr ⟨Nat.le_trans h1.size h.1, h.2⟩

theorem rv_inj {s s' R cap cap' bx bx' : Nat} (h : rv s R cap bx = rv s' R cap' bx') : s = s' ∧ cap = cap' ∧ bx = bx' := by
  unfold rv at h
  cases h
  exact ⟨rfl, rfl, rfl⟩

theorem sum_le (f g : Nat → Nat) : ∀ R, (∀ q, q < R → f q ≤ g q) → ((List.range R).map f).sum ≤ ((List.range R).map g).sum := by
  intro R
  induction R with
  | zero => intro _; simp
  | succ R ih =>
    intro h
    rw [List.range_succ, List.map_append, List.map_append, List.sum_append, List.sum_append]
    have h1 := ih (fun q hq => h q (by omega))
    have h2 := h R (by omega)
    simp only [List.map_cons, List.map_nil, List.sum_cons, List.sum_nil]
    omega
theorem less_length (K : Nat → List ByteArray) (key : ByteArray) (r : Nat) : (less K key r).length ≤ (K r).length := List.length_filter_le _ _
theorem sum_congr {f g : Nat → Nat} (R : Nat) (h : ∀ q, q < R → f q = g q) : ((List.range R).map f).sum = ((List.range R).map g).sum := by
  rw [List.map_congr_left (fun q hq => h q (List.mem_range.1 hq))]

theorem push_mem {s cap bx n : Nat} {l : Nat → Nat} {X : Nat → Row} {Fx : Nat → Prop} {Fr : Nat → Nat → Prop} {M : ByteArray → V → Prop} (h : Rws R w s cap bx n l X Fx Fr M) {key : ByteArray} {r i : Nat} (hr : r < R) (k : ByteArray) (u : V) :
    ((k = key ∧ u = (r, i)) ∨ M k u) ↔ u.1 < R ∧ (u.2, k) ∈ upd X r (X r ++ [(i, key)]) u.1 := by
  obtain ⟨a, c⟩ := u
  rw [h.mem]
  show _ ∨ (a < R ∧ (c, k) ∈ X a) ↔ a < R ∧ (c, k) ∈ upd X r (X r ++ [(i, key)]) a
  by_cases ha : a = r
  · subst ha
    rw [upd_same]
    simp only [List.mem_append, List.mem_singleton, Prod.mk.injEq, true_and]
    constructor
    · rintro (⟨rfl, rfl⟩ | ⟨h1, h2⟩)
      · exact ⟨hr, .inr ⟨rfl, rfl⟩⟩
      · exact ⟨h1, .inl h2⟩
    · rintro ⟨h1, h2 | ⟨rfl, rfl⟩⟩
      · exact .inr ⟨h1, h2⟩
      · exact .inl ⟨rfl, rfl⟩
  · rw [upd_other X _ ha]
    constructor
    · rintro (⟨-, e⟩ | e)
      · cases e; exact absurd rfl ha
      · exact e
    · exact .inr

set_option maxHeartbeats 800000 in
theorem rows_push (h : Rows R w v F K) {key : ByteArray} (hk : key.size ≤ 140737488351232) {r : Nat} (hr : r < R) (hlen : (K r).length ≤ 90000) (htot : ((List.range R).map fun q => (K q).length).sum ≤ 240000) :
    Calls Tryz.prog 52 #[v, .int .i64 (r : Int), .string key] w (RowsPost R v F (upd (less K key) r (less K key r ++ [key])) w) := by
  have hvf : ∃ s cap bx, v = rv s R cap bx := by obtain ⟨s, cap, bx, n, l, X, Fx, Fr, M, h1, _⟩ := h; exact ⟨s, cap, bx, h1⟩
  obtain ⟨s, cap, bx, rfl⟩ := hvf
  have hb2 : Below w.heap.size w (w.alloc (.cells #[.slice (some ⟨s, 0, none⟩) R cap, .pointer (some ⟨bx, 0, none⟩)] 51)) := (Below.refl _ _).alloc (Nat.le_refl _) _
  have D := Lib.hid (rows_drop (h.below hb2) hk)
  have HB2 := Lib.hid hb2
  have HV := Lib.hid (block_new w (.cells #[.slice (some ⟨s, 0, none⟩) R cap, .pointer (some ⟨bx, 0, none⟩)] 51))
  have HF := Lib.hid h.lt
  have HK := Lib.hid hk
  have HLEN := Lib.hid hlen
  have HTOT := Lib.hid htot
  have z0 : (0 : Int) ≤ (r : Int) := by omega
  have z1 : (r : Int) < (R : Int) := by omega
  clear h hb2 hk
  unfold rv at *
  go_enter Tryz.func52, Tryz.ntmps52
  go_wp2_with fail
  generalize w.alloc (.cells #[.slice (some ⟨s, 0, none⟩) R cap, .pointer (some ⟨bx, 0, none⟩)] 51) = w2 at *
  refine D.out.mono ?_
  rintro e w3 ⟨rfl, ⟨s', cap', bx', n, l, X, Fx, Fr, M, hv, h2, h3, h4, h5, h6, h7⟩, hu3⟩
  obtain ⟨rfl, rfl, rfl⟩ := rv_inj hv
  have hzb : w.heap.size < w2.heap.size := lt_of_block HV.out
  have nbx : ¬ Fx w.heap.size := by
    intro hh
    rcases h5 _ hh with e | e
    · have := HF.out _ e; omega
    · omega
  have nbr : ¬ Fr r w.heap.size := by
    intro hh
    rcases h6 r hr _ hh with e | e
    · have := HF.out _ e; omega
    · omega
  have hnF : ¬ F w.heap.size := fun hh => by have := HF.out _ hh; omega
  obtain ⟨b0, b1, -⟩ := In.two_cells (hu3.get HV.out hnF)
  have hc := h2.cell hr
  have h3r := congrArg List.length (h3 r hr)
  rw [List.length_map] at h3r
  have hl9 : (X r).length ≤ 90000 := by have := less_length K key r; omega
  have hn9 : n ≤ 240000 := by
    rw [h2.n_, sum_congr R (g := fun q => (less K key q).length) (fun q hq => by rw [h3 q hq, List.length_map])]
    exact Nat.le_trans (sum_le _ _ R (fun q _ => less_length K key q)) htot
  have hab : ∀ u, ¬ M key u := Rows.absent h2 h3 (fun q _ => less_not K key q)
  have PU := Lib.hid (Li.lst_push ((h2.lst r hr).drewN 1) key hl9)
  have PT := Lib.hid (fun (w4 : World) (i : Nat) (hu4 : Upd (Fr r) w3.drew w4) => In.idx_put (r := r) (h' := i) ((h2.idx.drewN 1).upd hu4 (fun k hk hf => h2.sepx r hr k hf hk)) HK.out hab hn9)
  have H2 := Lib.hid h2
  have H3 := Lib.hid h3
  have H5 := Lib.hid h5
  have H6 := Lib.hid h6
  have HU3 := Lib.hid hu3
  have H4 := Lib.hid h4
  have H7 := Lib.hid h7
  have nsx : ¬ Fx s := h2.sx
  have nsr : ¬ Fr r s := h2.sr r hr
  clear h2 h3 h4 h5 h6 h7 hu3 h3r hl9 hn9 hab
  have S0 : w3.drew.cell? ⟨w.heap.size, 0, none⟩ = some (.slice (some ⟨s, 0, none⟩) R cap) ∧ w3.drew.cell? ⟨w.heap.size, 1, none⟩ = some (.pointer (some ⟨bx, 0, none⟩)) ∧ w3.drew.cell? ⟨s, r, none⟩ = some (.pointer (some ⟨l r, 0, none⟩)) := ⟨b0, b1, hc⟩
  go_wp2_with fail
  go_region_held3 (fun w' => w'.cell? ⟨w.heap.size, 0, none⟩ = some (.slice (some ⟨s, 0, none⟩) R cap) ∧ w'.cell? ⟨w.heap.size, 1, none⟩ = some (.pointer (some ⟨bx, 0, none⟩)) ∧ w'.cell? ⟨s, r, none⟩ = some (.pointer (some ⟨l r, 0, none⟩)))
    (first | (go_keep; done) | exact ⟨by assumption, by assumption, by assumption⟩)
    (first | (go_at_call 76; refine PU.out.mono ?_; rintro e w4 ⟨i, rfl, hni, hl4, hu4⟩; have q0 := cell_upd hu4 nbr b0; have q1 := cell_upd hu4 nbr b1; have q2 := cell_upd hu4 nsr hc; have PTI := Lib.hid (PT.out w4 i hu4); have HL4 := Lib.hid hl4; have HU4 := Lib.hid hu4; clear hl4 hu4) | (go_at_call 75; refine PTI.out.mono ?_; rintro e w5 ⟨rfl, hi5, hu5⟩; have p0 := cell_upd hu5 nbx q0; have p1 := cell_upd hu5 nbx q1; have p2 := cell_upd hu5 nsx q2; have HI5 := Lib.hid hi5; have HU5 := Lib.hid hu5; clear hi5 hu5))
  go_end0
  have h2 := H2.out
  have h3 := H3.out
  have u34 : Upd (Fr r) w3 w4 := HU4.out.of_drew
  have s34 := u34.size
  have s45 := HU5.out.size
  have hu35 : Upd (fun k => Fx k ∨ Fr r k) w3 w5 := (u34.mono (fun k _ hk => .inr hk)).trans (HU5.out.mono (fun k _ hk => .inl hk))
  have hG : ∀ k, more (Fr r) w3.drew w4 k → Fr r k ∨ w3.heap.size ≤ k := by
    rintro k (hk | hk)
    · exact .inl hk
    · exact .inr hk.1
  have hGlt : ∀ k, more (Fr r) w3.drew w4 k → k < w4.heap.size := HL4.out.lt
  have hxlt : ∀ k, Fx k → k < w3.heap.size := fun k hk => H7.out k (H5.out k hk)
  have hGx : ∀ k, more (Fr r) w3.drew w4 k → ¬ Fx k := by
    intro k hk hf
    rcases hG k hk with e | e
    · exact h2.sepx r hr k e hf
    · have := hxlt k hf; omega
  have hX' : ∀ k, more Fx w4 w5 k → Fx k ∨ w3.heap.size ≤ k := by
    rintro k (hk | hk)
    · exact .inl hk
    · have := hk.1; exact .inr (by omega)
  have hd : ∀ k, more (Fr r) w3.drew w4 k → ¬ more Fx w4 w5 k := by
    rintro k hk (h | h)
    · exact hGx k hk h
    · have := hGlt k hk; have := h.1; omega
  have hl5 := HL4.out.upd HU5.out hGx
  have hrw := h2.turn hr hu35 hl5 HI5.out hG hX' hd (push_mem h2 hr) (by
    have e := sum_upd X r (X r ++ [(i, key)]) R hr
    have e2 := h2.n_
    simp only [List.length_append, List.length_cons, List.length_nil] at e
    omega)
  have hU2 : Upd F w w2 := Upd.of_below HB2.out (fun k h1 h2 => by omega)
  have hU3 := hU2.trans HU3.out
  have hup : ∀ k, k < w.heap.size → Fx k ∨ Fr r k → F k := by
    intro k hk h
    have hm : more F w2 w3 k := by
      rcases h with h | h
      · exact H5.out k h
      · exact H6.out r hr k h
    rcases hm with e | e
    · exact e
    · have := HB2.out.size; omega
  have hU5 : Upd F w w5 := hU3.then hu35 hup
  have hF3 : ∀ k, more F w2 w3 k → more F w w5 k := by
    rintro k (e | e)
    · exact .inl e
    · have h1 := HB2.out.size; have h2 := e.1; have h3 := e.2; exact .inr ⟨by omega, by omega⟩
  have hnew : ∀ k, w3.heap.size ≤ k → k < w5.heap.size → more F w w5 k := fun k h1 h2 => .inr ⟨by have := hU3.size; omega, h2⟩
  refine ⟨rfl, ⟨s, cap, bx, _, l, _, _, _, _, rfl, hrw, ?_, hF3 _ H4.out, ?_, ?_, more_lt HF.out hU5.size⟩, hU5⟩
  · intro a ha
    by_cases e : a = r
    · subst e
      rw [Rw.upd_same, Rw.upd_same, h3 a ha]
      simp
    · rw [Rw.upd_other _ _ e, Rw.upd_other _ _ e, h3 a ha]
  · intro k hk
    rcases hX' k hk with e | e
    · exact hF3 _ (H5.out k e)
    · exact hnew k e (HI5.out.lt k hk)
  · intro a ha k hk
    by_cases e : a = r
    · subst e
      rw [Rw.upd_same] at hk
      rcases hG k hk with e | e
      · exact hF3 _ (H6.out a ha k e)
      · exact hnew k e (by have := hGlt k hk; omega)
    · rw [Rw.upd_other _ _ e] at hk
      exact hF3 _ (H6.out a ha k hk)
end

end Go.Proofs.YtkeicfajlmhajaaGreat.Rw

/- The rows of an engine: oldest. -/
namespace Go.Proofs.YtkeicfajlmhajaaGreat.Rw
open Go Go.RowKit Go.Proofs.YtkeicfajlmhajaaGreat.K
open Go.Proofs.YtkeicfajlmhajaaGreat.Li (Lst more more_lt hdl)
open Go.Proofs.YtkeicfajlmhajaaGreat.In (Idx V)

section
variable {R : Nat} {w : World} {v : Value} {F : Nat → Prop} {K : Nat → List ByteArray}

set_option maxHeartbeats 800000 in
theorem rows_oldest (h : Rows R w v F K) {r : Nat} (hr : r < R) {key : ByteArray} {rest : List ByteArray} (hK : K r = key :: rest) :
    Calls Tryz.prog 49 #[v, .int .i64 (r : Int)] w fun e w' => e = .returned (.string key) ∧ Below w.heap.size w w' := by
  obtain ⟨s, cap, bx, n, l, X, Fx, Fr, M, rfl, h2, h3, h4, h5, h6, h7⟩ := h
  have hX : ∃ i t, X r = (i, key) :: t := by
    have e := h3 r hr
    rw [hK] at e
    cases hx : X r with
    | nil => rw [hx] at e; cases e
    | cons x t =>
      rw [hx, List.map_cons] at e
      injection e with e1 e2
      exact ⟨x.1, t, by rw [e1]⟩
  obtain ⟨i, t, hX⟩ := hX
  have hb2 : Below w.heap.size w (w.alloc (.cells #[.slice (some ⟨s, 0, none⟩) R cap, .pointer (some ⟨bx, 0, none⟩)] 51)) := (Below.refl _ _).alloc (Nat.le_refl _) _
  have hw2 := h2.below (by omega) hb2
  have HV := Lib.hid (block_new w (.cells #[.slice (some ⟨s, 0, none⟩) R cap, .pointer (some ⟨bx, 0, none⟩)] 51))
  have FR := Lib.hid (Li.lst_front ((hw2.lst r hr).drewN 1))
  have GT := Lib.hid (Li.lst_get ((hw2.lst r hr).drewN 1) (x := (i, key)) (by rw [hX]; simp))
  have hh : hdl (X r) = i := by rw [hX]; rfl
  rw [hh] at FR
  have hc := hw2.cell hr
  have z0 : (0 : Int) ≤ (r : Int) := by omega
  have z1 : (r : Int) < (R : Int) := by omega
  have HB2 := Lib.hid hb2
  clear h2 h3 h4 h5 h6 h7 hX hw2 hb2 hh hK
  unfold rv
  go_enter Tryz.func49, Tryz.ntmps49
  go_wp2_with fail
  generalize w.alloc (.cells #[.slice (some ⟨s, 0, none⟩) R cap, .pointer (some ⟨bx, 0, none⟩)] 51) = w2 at *
  obtain ⟨b0, b1, fb⟩ := In.two_cells HV.out
  go_region_held3 (fun w' => w'.cell? ⟨w.heap.size, 0, none⟩ = some (.slice (some ⟨s, 0, none⟩) R cap) ∧ w'.cell? ⟨s, r, none⟩ = some (.pointer (some ⟨l r, 0, none⟩)))
    (first | (go_keep; done) | exact ⟨by assumption, by assumption⟩)
    (first | (go_at_call 71; refine FR.out.mono ?_; rintro e w4 ⟨rfl, rfl⟩) | (go_at_call 70; refine GT.out.mono ?_; rintro e w4 ⟨rfl, rfl⟩))
  go_wp2_with fail
  go_ret
  exact ⟨rfl, below_drewN HB2.out 1⟩
end

end Go.Proofs.YtkeicfajlmhajaaGreat.Rw

/- The rows of an engine: many. -/
namespace Go.Proofs.YtkeicfajlmhajaaGreat.Rw
open Go Go.RowKit Go.Proofs.YtkeicfajlmhajaaGreat.K
open Go.Proofs.YtkeicfajlmhajaaGreat.Li (Lst more more_lt hdl)
open Go.Proofs.YtkeicfajlmhajaaGreat.In (Idx V)

section
variable {R : Nat} {w : World} {v : Value} {F : Nat → Prop} {K : Nat → List ByteArray}

/-- How many keys these rows hold. -/
def total (K : Nat → List ByteArray) (rs : List Nat) : Nat := (rs.map fun r => (K r).length).sum

theorem total_take {rs : List Nat} {j r : Nat} (h : rs[j]? = some r) : total K (rs.take (j + 1)) = total K (rs.take j) + (K r).length := by
  have hj := lt_of_getElem? h
  have e : rs[j] = r := by rw [List.getElem?_eq_getElem hj] at h; exact Option.some.inj h
  unfold total
  rw [← List.take_append_getElem hj, List.map_append, List.sum_append, e]
  simp

theorem total_le (rs : List Nat) (j : Nat) : total K (rs.take j) ≤ total K rs := by
  have e := List.take_append_drop j rs
  unfold total
  conv => rhs; rw [← e, List.map_append, List.sum_append]
  omega

set_option maxHeartbeats 800000 in
theorem rows_many (h : Rows R w v F K) {rs : List Nat} {a c : Nat} (hrs : ∀ r ∈ rs, r < R) (ha : ∀ (j r : Nat), rs[j]? = some r → w.cell? ⟨a, j, none⟩ = some (.int .i64 (r : Int))) (hl : rs.length ≤ 1000) (ht : total K rs ≤ 1000000) :
    Calls Tryz.prog 51 #[v, .slice (some ⟨a, 0, none⟩) rs.length c] w fun e w' => e = .returned (.int .i64 (total K rs : Int)) ∧ Below w.heap.size w w' := by
  obtain ⟨s, cap, bx, n, l, X, Fx, Fr, M, rfl, h2, h3, h4, h5, h6, h7⟩ := h
  have hb2 : Below w.heap.size w (w.alloc (.cells #[.slice (some ⟨s, 0, none⟩) R cap, .pointer (some ⟨bx, 0, none⟩)] 51)) := (Below.refl _ _).alloc (Nat.le_refl _) _
  have HW2 : Hid (∀ r, r < R → (w.alloc (.cells #[.slice (some ⟨s, 0, none⟩) R cap, .pointer (some ⟨bx, 0, none⟩)] 51)).cell? ⟨s, r, none⟩ = some (.pointer (some ⟨l r, 0, none⟩))) :=
    Lib.hid (fun r hr => (h2.below (by omega) hb2).cell hr)
  have LN := Lib.hid (fun r (hr : r < R) => Li.lst_len ((h2.below (by omega) hb2).lst r hr))
  have HV := Lib.hid (block_new w (.cells #[.slice (some ⟨s, 0, none⟩) R cap, .pointer (some ⟨bx, 0, none⟩)] 51))
  have HA : Hid (∀ (j r : Nat), rs[j]? = some r → (w.alloc (.cells #[.slice (some ⟨s, 0, none⟩) R cap, .pointer (some ⟨bx, 0, none⟩)] 51)).cell? ⟨a, j, none⟩ = some (.int .i64 (r : Int))) :=
    Lib.hid (fun j r hj => cell_upd (Upd.of_below (F := fun _ => False) hb2 (fun k h1 h2 => by clear h7; omega)) id (ha j r hj))
  have HRS := Lib.hid hrs
  have HX : Hid (∀ r, r < R → (X r).length = (K r).length) := Lib.hid (fun r hr => by rw [h3 r hr, List.length_map])
  have HT := Lib.hid ht
  have HB2 := Lib.hid hb2
  obtain ⟨N, hN⟩ : ∃ N, N = rs.length := ⟨_, rfl⟩
  rw [← hN] at hl ⊢
  have HN := Lib.hid hN
  clear h2 h3 h4 h5 h6 h7 hb2 hrs ha hN ht
  unfold rv
  go_enter Tryz.func51, Tryz.ntmps51
  go_wp2_with fail
  generalize w.alloc (.cells #[.slice (some ⟨s, 0, none⟩) R cap, .pointer (some ⟨bx, 0, none⟩)] 51) = w2 at *
  obtain ⟨b0, b1, fb⟩ := In.two_cells HV.out
  go_loopg [5, 10] N (fun k v5 v10 wr => w2 = wr ∧ ∃ j : Nat, j ≤ N ∧ k = N - j ∧ v10 = .int .i64 (j : Int) ∧ v5 = .int .i64 (total K (rs.take j) : Int))
  case atStart => exact ⟨rfl, 0, by omega, by omega, rfl, by simp [total]⟩
  case round =>
    obtain ⟨rfl, j, hj, hgk, rfl, rfl⟩ := hrel
    have HGK := Lib.hid hgk
    clear hgk
    rcases Nat.eq_or_lt_of_le hj with rfl | hjl
    · have e : total K (rs.take j) = total K rs := by rw [HN.out, List.take_length]
      rw [e]
      go_wp2_with fail
      go_ret
      exact ⟨rfl, HB2.out⟩
    · obtain ⟨r, hr⟩ : ∃ r, rs[j]? = some r := ⟨_, List.getElem?_eq_getElem (by rw [← HN.out]; exact hjl)⟩
      have hrR : r < R := HRS.out r (List.mem_of_getElem? hr)
      have z0 : (0 : Int) ≤ (j : Int) := by omega
      have z1 : (j : Int) < (N : Int) := by omega
      have y0 : (0 : Int) ≤ (r : Int) := by omega
      have y1 : (r : Int) < (R : Int) := by omega
      have ca := HA.out j r hr
      have cs := HW2.out r hrR
      have L := Lib.hid (LN.out r hrR)
      have hx := HX.out r hrR
      rw [hx] at L
      have hn := total_take (K := K) hr
      have hle := total_le (K := K) rs (j + 1)
      have hall := HT.out
      have HNX := Lib.hid hn
      have b3 : total K (rs.take j) ≤ 1000000 := by omega
      have b4 : (K r).length ≤ 1000000 := by omega
      generalize total K (rs.take j) = T at *
      generalize (K r).length = U at *
      clear hn hle hall hr hx
      go_wp2_with (go_at_call 74; refine L.out.mono ?_; rintro e w4 ⟨rfl, rfl⟩)
      go_roundg (N - (j + 1))
      case measure => rw [HGK.out]; omega
      case rel => exact ⟨rfl, j + 1, hjl, rfl, rfl, by rw [HNX.out]; rfl⟩
end

end Go.Proofs.YtkeicfajlmhajaaGreat.Rw

/- The rows of an engine: keys. -/
namespace Go.Proofs.YtkeicfajlmhajaaGreat.Rw
open Go Go.RowKit Go.Proofs.YtkeicfajlmhajaaGreat.K
open Go.Proofs.YtkeicfajlmhajaaGreat.Li (Lst more more_lt hdl own_form' infoS)
open Go.Proofs.YtkeicfajlmhajaaGreat.In (Idx V)

section
variable {R : Nat} {w : World} {v : Value} {F : Nat → Prop} {K : Nat → List ByteArray}

/-- The keys of these rows. -/
def cat (K : Nat → List ByteArray) (rs : List Nat) : List ByteArray := rs.flatMap K
theorem cat_take {rs : List Nat} {j r : Nat} (h : rs[j]? = some r) : cat K (rs.take (j + 1)) = cat K (rs.take j) ++ K r := by
  have hj := lt_of_getElem? h
  have e : rs[j] = r := by rw [List.getElem?_eq_getElem hj] at h; exact Option.some.inj h
  unfold cat
  rw [← List.take_append_getElem hj, List.flatMap_append, e]
  simp

theorem own_below {w w' : World} {B e n : Nat} {v : Value} {xs : List Value} (h : w.ownsRow B e 1 v n xs) (hb : Below w.heap.size w w') : w'.ownsRow B e 1 v n xs := by
  obtain ⟨h1, (h2 | ⟨g, c, cur, h2, h3, h4, h5⟩)⟩ := h
  · exact ⟨h1, .inl h2⟩
  · exact ⟨h1, .inr ⟨g, c, cur, h2, h3, (hb.block _ (lt_of_block h4)).trans h4, h5⟩⟩

theorem own_mono {w : World} {B B' e n : Nat} {v : Value} {xs : List Value} (h : w.ownsRow B e 1 v n xs) (hB : B' ≤ B) : w.ownsRow B' e 1 v n xs := by
  obtain ⟨h1, (h2 | ⟨g, c, cur, h2, h3, h4, h5⟩)⟩ := h
  · exact ⟨h1, .inl h2⟩
  · exact ⟨h1, .inr ⟨g, c, cur, h2, Nat.le_trans hB h3, h4, h5⟩⟩

theorem cat_le (rs : List Nat) (j : Nat) : (cat K (rs.take j)).length ≤ (cat K rs).length := by
  have e := List.take_append_drop j rs
  unfold cat
  conv => rhs; rw [← e, List.flatMap_append, List.length_append]
  omega

theorem cell_below {w w' : World} (h : Below w.heap.size w w') {k o : Nat} {x : Value} (hc : w.cell? ⟨k, o, none⟩ = some x) : w'.cell? ⟨k, o, none⟩ = some x :=
  cell_upd (Upd.of_below (F := fun _ => False) h (fun k h1 h2 => by omega)) id hc

def KeysPost (K : Nat → List ByteArray) (rs : List Nat) (w : World) (e : Ending) (w' : World) : Prop :=
  ∃ v, e = .returned v ∧ w'.ownsRow w.heap.size 9 1 v (cat K rs).length ((cat K rs).map .string) ∧ Below w.heap.size w w'

set_option maxHeartbeats 800000 in
theorem rows_keys (h : Rows R w v F K) {rs : List Nat} {a c : Nat} (hrs : ∀ r ∈ rs, r < R) (ha : ∀ (j r : Nat), rs[j]? = some r → w.cell? ⟨a, j, none⟩ = some (.int .i64 (r : Int))) (hl : rs.length ≤ 1000) (ht : (cat K rs).length ≤ 1000000) :
    Calls Tryz.prog 47 #[v, .slice (some ⟨a, 0, none⟩) rs.length c] w (KeysPost K rs w) := by
  obtain ⟨s, cap, bx, n, l, X, Fx, Fr, M, rfl, h2, h3, h4, h5, h6, h7⟩ := h
  have hb2 : Below w.heap.size w (w.alloc (.cells #[.slice (some ⟨s, 0, none⟩) R cap, .pointer (some ⟨bx, 0, none⟩)] 51)) := (Below.refl _ _).alloc (Nat.le_refl _) _
  have H2 := Lib.hid h2
  have HA := Lib.hid ha
  have HV := Lib.hid (block_new w (.cells #[.slice (some ⟨s, 0, none⟩) R cap, .pointer (some ⟨bx, 0, none⟩)] 51))
  have HRS := Lib.hid hrs
  have HX : Hid (∀ r, r < R → (X r).map (fun x => Value.string x.2) = (K r).map .string ∧ (X r).length = (K r).length) := Lib.hid (fun r hr => by rw [h3 r hr, List.map_map, List.length_map]; exact ⟨rfl, rfl⟩)
  have HT := Lib.hid ht
  have HB2 := Lib.hid hb2
  have HZ : Hid (w.heap.size < (w.alloc (.cells #[.slice (some ⟨s, 0, none⟩) R cap, .pointer (some ⟨bx, 0, none⟩)] 51)).heap.size) := Lib.hid (by simp)
  obtain ⟨N, hN⟩ : ∃ N, N = rs.length := ⟨_, rfl⟩
  rw [← hN] at hl ⊢
  have HN := Lib.hid hN
  clear h2 h3 h4 h5 h6 h7 hb2 hrs ha hN ht
  obtain ⟨i0, hi0, hz0, hz1, hz2⟩ := info_parts infoS
  unfold rv
  go_enter Tryz.func47, Tryz.ntmps47
  go_wp2_with fail
  generalize w.alloc (.cells #[.slice (some ⟨s, 0, none⟩) R cap, .pointer (some ⟨bx, 0, none⟩)] 51) = w2 at *
  go_loopg [5, 10] N (fun k v5 v10 wr => ∃ j : Nat, j ≤ N ∧ k = N - j ∧ v10 = .int .i64 (j : Int) ∧ wr.ownsRow w2.heap.size 9 1 v5 (cat K (rs.take j)).length ((cat K (rs.take j)).map .string) ∧ Below w2.heap.size w2 wr)
  case atStart => exact ⟨0, by omega, by omega, rfl, World.ownsRow_nil _ _ _ _, Below.refl _ _⟩
  case round =>
    obtain ⟨j, hj, hgk, rfl, ho, hb⟩ := hrel
    obtain ⟨gA, gc, rfl⟩ := own_form' ho
    have HGK := Lib.hid hgk
    have HO := Lib.hid ho
    have HB := Lib.hid hb
    clear hgk ho hb
    rcases Nat.eq_or_lt_of_le hj with rfl | hjl
    · go_wp2_with fail
      go_ret
      have e : rs.take j = rs := by rw [HN.out, List.take_length]
      have h1 := HO.out
      have e2 : cat K (rs.take j) = cat K rs := by rw [e]
      refine ⟨.slice gA (cat K (rs.take j)).length gc, rfl, ?_, HB2.out.trans (HB.out.mono (Nat.le_of_lt HZ.out))⟩
      rw [← e2]
      exact own_mono h1 (Nat.le_of_lt HZ.out)
    · obtain ⟨r, hr⟩ : ∃ r, rs[j]? = some r := ⟨_, List.getElem?_eq_getElem (by rw [← HN.out]; exact hjl)⟩
      have hrR : r < R := HRS.out r (List.mem_of_getElem? hr)
      have z0 : (0 : Int) ≤ (j : Int) := by omega
      have z1 : (j : Int) < (N : Int) := by omega
      have y0 : (0 : Int) ≤ (r : Int) := by omega
      have y1 : (r : Int) < (R : Int) := by omega
      have hbw : Below w.heap.size w wr := HB2.out.trans (HB.out.mono (Nat.le_of_lt HZ.out))
      have hrw := H2.out.below (by omega) hbw
      have ca := cell_below hbw (HA.out j r hr)
      have cs := hrw.cell hrR
      obtain ⟨b0, b1, fb⟩ := In.two_cells ((HB.out.block _ HZ.out).trans HV.out)
      have L := Lib.hid (Li.lst_all (hrw.lst r hrR))
      have hn := cat_take (K := K) hr
      have hle := cat_le (K := K) rs (j + 1)
      have hall := HT.out
      have hnl := congrArg List.length hn
      rw [List.length_append] at hnl
      have HNX := Lib.hid hn
      have b3 : (cat K (rs.take j)).length ≤ 1000000 := by omega
      have b4 : (cat K (rs.take j)).length + (K r).length ≤ 1000000 := by omega
      have hws := hbw.size
      clear hn hle hall hr hrw hnl
      have HBW := Lib.hid hbw
      clear hbw
      go_wp2_with fail
      refine L.out.mono ?_
      rintro e w3 ⟨v3, rfl, ho3, hb3, hnil⟩
      rw [(HX.out r hrR).1, (HX.out r hrR).2] at ho3
      have HO1 := Lib.hid (own_below HO.out hb3)
      have HB3 := Lib.hid (HBW.out.trans (hb3.mono hws))
      have HB23 := Lib.hid (HB.out.trans (hb3.mono HB.out.size))
      have hws3 := HB3.out.size
      have HXX := Lib.hid (HX.out r hrR).2
      clear hb3
      generalize hP : cat K (rs.take j) = P at *
      generalize hU : K r = U at *
      have HPU : Hid (cat K (rs.take (j + 1)) = P ++ U) := Lib.hid HNX.out
      clear HNX
      cases U with
      | nil =>
        have hv3 := hnil (List.length_eq_zero_iff.1 HXX.out)
        subst hv3
        clear ho3 hnil
        go_wp2_with (at_builtin; refine wpList_append_own_none rfl _ _ 22 rfl w2.heap.size 9 i0 1 Tryz.underlying22 hi0 (.slice gA P.length gc) P.length _ rfl HO1.out rfl ?_)
        go_roundg (N - (j + 1))
        case measure => rw [HGK.out]; omega
        case rel => exact ⟨j + 1, hjl, rfl, rfl, by rw [HPU.out, List.append_nil]; exact HO1.out, HB23.out⟩
      | cons u us =>
        obtain ⟨o1, (⟨o2, o3⟩ | ⟨g3, c3, cur, o2, o3, o4, o5, o6, o7, o8⟩)⟩ := ho3
        · simp at o3
        · subst o2
          clear hnil
          have hnews : ∀ (k : Nat) (x : Value), ((u :: us).map Value.string)[k]? = some x → w3.cell? ((⟨g3, 0, none⟩ : Addr).add k) = some x := by
            intro k x hx
            have hk := lt_of_getElem? hx
            have ea : (⟨g3, 0, none⟩ : Addr).add k = ⟨g3, k, none⟩ := by simp [Addr.add]; intro h; exact h.symm
            rw [ea, cell_of o4, ← Array.getElem?_toList]
            have e : cur.toList[k]? = (cur.toList.take ((u :: us).length * 1))[k]? := by rw [List.getElem?_take, if_pos (by simpa using hk)]
            rw [e, o8]
            exact hx
          have HNEWS := Lib.hid hnews
          have h1c : ∀ x ∈ (u :: us).map Value.string, x.oneCell' = true := by
            intro x hx
            obtain ⟨y, -, rfl⟩ := List.mem_map.1 hx
            rfl
          have H1C := Lib.hid h1c
          clear o4 o5 o6 o7 o8 o1 hnews h1c
          obtain ⟨m, hm⟩ : ∃ m, m = (u :: us).length := ⟨_, rfl⟩
          rw [← hm] at b4 ⊢
          have hm0 : 0 < m := by rw [hm]; simp
          have HM := Lib.hid hm
          clear hm
          obtain ⟨q, hq⟩ : ∃ q, q = P.length := ⟨_, rfl⟩
          rw [← hq] at b3 b4 HO HO1 ⊢
          have HQ := Lib.hid hq
          clear hq
          go_wp2_with (at_builtin; refine wpList_append_lies _ rfl _ _ 22 rfl w2.heap.size 9 i0 (.string ByteArray.empty) 1 16 Tryz.underlying22 hi0 hz0 hz1 hz2 rfl (by decide) (.slice gA q gc) q _ rfl HO1.out ⟨g3, 0, none⟩ m c3 ((u :: us).map Value.string) rfl (by rw [HM.out]; simp) HNEWS.out H1C.out hm0 (by unfold maxLen; omega) (by omega) HB23.out.size w3.heap.size rfl ?_; intro f' cf' w4 hown hgr hat hlt3; have HO4 := Lib.hid hown; have HGR := Lib.hid hgr; clear hown hgr hat hlt3)
          go_roundg (N - (j + 1))
          case measure => rw [HGK.out]; omega
          case rel =>
            refine ⟨j + 1, hjl, rfl, rfl, ?_, HB23.out.grown HGR.out HB23.out.size (fun g hg => (HO1.out.lt g hg).1)⟩
            rw [HPU.out, List.length_append, ← HM.out, ← HQ.out, List.map_append]
            exact HO4.out
end

end Go.Proofs.YtkeicfajlmhajaaGreat.Rw

/- The rows of an engine: newRows. -/
namespace Go.Proofs.YtkeicfajlmhajaaGreat.Rw
open Go Go.RowKit Go.Proofs.YtkeicfajlmhajaaGreat.K
open Go.Proofs.YtkeicfajlmhajaaGreat.Li (Lst more more_lt hdl own_form')
open Go.Proofs.YtkeicfajlmhajaaGreat.In (Idx V)

theorem infoL : (Tryz.prog.info? 82).map (fun i => (i.zero, i.size, i.bytes)) = some (some (.pointer none), 1, 8) := by kernel_rfl

def NewRowsPost (R : Nat) (w : World) (e : Ending) (w' : World) : Prop :=
  ∃ v, e = .returned v ∧ Rows R w' v (fun k => w.heap.size ≤ k ∧ k < w'.heap.size) (fun _ => []) ∧ Below w.heap.size w w'

def NRel (R : Nat) (w3 : World) (bx k : Nat) (v7 : Value) (wr : World) : Prop :=
  ∃ (j : Nat) (l : Nat → Nat) (Fr : Nat → Nat → Prop) (gv : Value), k = R - j ∧ j ≤ R ∧ v7 = .int .i64 (j : Int) ∧
    wr.heap[w3.heap.size]? = some (.cells #[gv, .pointer (some ⟨bx, 0, none⟩)] 51 (0, 0)) ∧
    wr.ownsRow (w3.heap.size + 1) 82 1 gv j ((List.range j).map fun r => Value.pointer (some ⟨l r, 0, none⟩)) ∧
    (∀ r, r < j → Lst wr (l r) (Fr r) []) ∧ (∀ r, r < j → ∀ k, Fr r k → w3.heap.size < k ∧ gv.ownBlock ≠ some k) ∧
    (∀ r q, r < j → q < j → r ≠ q → ∀ k, Fr r k → ¬ Fr q k) ∧ Below w3.heap.size w3 wr

theorem sum_zero (R : Nat) : ((List.range R).map fun _ => ([] : Row).length).sum = 0 := by
  induction R with
  | zero => rfl
  | succ R ih => rw [List.range_succ, List.map_append, List.sum_append, ih]; rfl

/-- One more list. -/
theorem nrel_step {R : Nat} {w3 wr w5 w6 : World} {bx j f' cf' : Nat} {l : Nat → Nat} {Fr : Nat → Nat → Prop} {gv : Value} {o : Obj}
    (hj : j < R) (hc : wr.heap[w3.heap.size]? = some (.cells #[gv, .pointer (some ⟨bx, 0, none⟩)] 51 (0, 0)))
    (ho : wr.ownsRow (w3.heap.size + 1) 82 1 gv j ((List.range j).map fun r => Value.pointer (some ⟨l r, 0, none⟩)))
    (hl : ∀ r, r < j → Lst wr (l r) (Fr r) []) (hf : ∀ r, r < j → ∀ k, Fr r k → w3.heap.size < k ∧ gv.ownBlock ≠ some k)
    (hsep : ∀ r q, r < j → q < j → r ≠ q → ∀ k, Fr r k → ¬ Fr q k) (hb : Below w3.heap.size w3 wr)
    (h5 : Lst w5 (wr.heap.size + 1) (fun k => wr.heap.size ≤ k ∧ k < w5.heap.size) []) (hb5 : Below wr.heap.size wr.drew w5)
    (h6 : w6.ownsRow (w3.heap.size + 1) 82 1 (.slice (some ⟨f', 0, none⟩) (j + 1) cf') (j + 1) (((List.range j).map fun r => Value.pointer (some ⟨l r, 0, none⟩)) ++ [.pointer (some ⟨wr.heap.size + 1, 0, none⟩)]))
    (hg : (w5.alloc o).grownBy w6 gv.ownBlock) (hat : gv.ownBlock = some f' ∨ f' = w5.heap.size + 1) (k : Nat) (hk : k = R - (j + 1)) :
    NRel R w3 bx k (.int .i64 ((j + 1 : Nat) : Int)) (w6.setCell ⟨w3.heap.size, 0, none⟩ (.slice (some ⟨f', 0, none⟩) (j + 1) cf')) := by
  have h3 := lt_of_block hc
  have s5 : wr.heap.size ≤ w5.heap.size := hb5.size
  have hne : ∀ b, b ≤ w3.heap.size → some b ≠ gv.ownBlock := by intro b hb h; have := (ho.lt b h.symm).1; omega
  have hgl : ∀ b, gv.ownBlock = some b → b < wr.heap.size := fun b h => (ho.lt b h).2
  have hG : Upd (fun k => gv.ownBlock = some k) w5 w6 := by
    have h0 : Upd (fun k => gv.ownBlock = some k) w5 (w5.alloc o) := (Upd.refl _ _).alloc o
    exact h0.trans (Upd.of_grown hg)
  have h56 := hG.size
  have h5b : w5.heap[w3.heap.size]? = some (.cells #[gv, .pointer (some ⟨bx, 0, none⟩)] 51 (0, 0)) := (hb5.block _ h3).trans hc
  have h6b := hG.get h5b (fun h => hne _ (Nat.le_refl _) h.symm)
  have hU : Upd (fun k => gv.ownBlock = some k ∨ k = w3.heap.size) w5 (w6.setCell ⟨w3.heap.size, 0, none⟩ (.slice (some ⟨f', 0, none⟩) (j + 1) cf')) :=
    (hG.mono (fun k _ h => .inl h)).setCell (p := ⟨w3.heap.size, 0, none⟩) (.inl (.inr rfl)) _
  have hb5' : Upd (fun _ => False) wr w5 := Upd.of_drew (a := wr) (Upd.of_below (F := fun _ => False) hb5 (fun k h1 h2 => by have : k < wr.heap.size := h2; omega))
  have hs : (w6.setCell ⟨w3.heap.size, 0, none⟩ (.slice (some ⟨f', 0, none⟩) (j + 1) cf')).heap.size = w6.heap.size := by simp [World.setCell]
  have hflt : ∀ r, r < j → ∀ k, Fr r k → k < wr.heap.size := fun r hr => (hl r hr).lt
  refine ⟨j + 1, Rw.upd l j (wr.heap.size + 1), Rw.upd Fr j (fun k => wr.heap.size ≤ k ∧ k < w5.heap.size), .slice (some ⟨f', 0, none⟩) (j + 1) cf', hk, hj, rfl, ?_, ?_, ?_, ?_, ?_, ?_⟩
  · have := block_setCell (o := 0) (v := .slice (some ⟨f', 0, none⟩) (j + 1) cf') h6b
    simpa using this
  · have e : (List.range (j + 1)).map (fun r => Value.pointer (some ⟨Rw.upd l j (wr.heap.size + 1) r, 0, none⟩)) = ((List.range j).map fun r => Value.pointer (some ⟨l r, 0, none⟩)) ++ [.pointer (some ⟨wr.heap.size + 1, 0, none⟩)] := by
      rw [List.range_succ, List.map_append, List.map_cons, List.map_nil, Rw.upd_same]
      congr 1
      refine List.map_congr_left (fun r hr => ?_)
      rw [Rw.upd_other _ _ (by have := List.mem_range.1 hr; omega)]
    rw [e]
    have hf6 := (h6.lt f' rfl).1
    exact own_upd h6 ((Upd.refl (fun k => k = w3.heap.size) w6).setCell (p := ⟨w3.heap.size, 0, none⟩) (.inl rfl) _) (fun k hk h => by
      have : f' = k := by simpa [Value.ownBlock] using hk
      omega)
  · intro r hr
    by_cases e : r = j
    · subst e
      rw [Rw.upd_same, Rw.upd_same]
      refine h5.upd hU ?_
      rintro k ⟨k1, k2⟩ (h | h)
      · have := hgl k h; omega
      · omega
    · have hr' : r < j := by omega
      rw [Rw.upd_other _ _ e, Rw.upd_other _ _ e]
      refine ((hl r hr').upd hb5' (fun _ _ => id)).upd hU ?_
      rintro k h1 (h | h)
      · exact (hf r hr' k h1).2 h
      · have := (hf r hr' k h1).1; omega
  · intro r hr k hk
    have hno : ∀ k, (k < w5.heap.size) → gv.ownBlock ≠ some k → (Value.slice (some ⟨f', 0, none⟩) (j + 1) cf').ownBlock ≠ some k := by
      intro k h1 h2 h
      have : f' = k := by simpa [Value.ownBlock] using h
      subst this
      rcases hat with h3 | h3
      · exact h2 h3
      · omega
    by_cases e : r = j
    · subst e
      rw [Rw.upd_same] at hk
      exact ⟨by have := hk.1; omega, hno k hk.2 (fun h => by have := hgl k h; have := hk.1; omega)⟩
    · have hr' : r < j := by omega
      rw [Rw.upd_other _ _ e] at hk
      exact ⟨(hf r hr' k hk).1, hno k (by have := hflt r hr' k hk; omega) (hf r hr' k hk).2⟩
  · intro r q hr hq hne' k hk
    by_cases e : r = j
    · subst e
      rw [Rw.upd_same] at hk
      rw [Rw.upd_other _ _ (Ne.symm hne')]
      intro h
      have := hflt q (by omega) k h
      have := hk.1
      omega
    · rw [Rw.upd_other _ _ e] at hk
      by_cases e2 : q = j
      · rw [e2, Rw.upd_same]
        intro h
        have := hflt r (by omega) k hk
        have := h.1
        omega
      · rw [Rw.upd_other _ _ e2]
        exact hsep r q (by omega) (by omega) hne' k hk
  · have h0 : Below w3.heap.size w3 w5 := hb.trans ⟨hb5.os, hb5.tape, hb5.output, hb5.size, fun k hk => hb5.block k (by omega)⟩
    have h1 : Below w3.heap.size w5 w6 := hG.below (by omega) (fun i h => by have := (ho.lt i h).1; omega)
    exact (h0.trans h1).setCell (Nat.le_refl _) _

/-- All of them. -/
theorem nrel_end {R : Nat} {w w2 w3 wr : World} {bx : Nat} {l : Nat → Nat} {Fr : Nat → Nat → Prop} {gA : Option Addr} {gc : Nat}
    (h0 : 0 < R) (hX : Idx w3 bx (fun k => w2.heap.size ≤ k ∧ k < w3.heap.size) (fun _ _ => False) 0)
    (hB2 : Below w.heap.size w w2) (hB3 : Below w2.heap.size w2 w3) (hz : w.heap.size < w2.heap.size)
    (ho : wr.ownsRow (w3.heap.size + 1) 82 1 (.slice gA R gc) R ((List.range R).map fun r => Value.pointer (some ⟨l r, 0, none⟩)))
    (hl : ∀ r, r < R → Lst wr (l r) (Fr r) []) (hf : ∀ r, r < R → ∀ k, Fr r k → w3.heap.size < k ∧ (Value.slice gA R gc).ownBlock ≠ some k)
    (hsep : ∀ r q, r < R → q < R → r ≠ q → ∀ k, Fr r k → ¬ Fr q k) (hb : Below w3.heap.size w3 wr) (u v : Value) :
    Rows R ((wr.setCell ⟨w.heap.size, 0, none⟩ u).setCell ⟨w.heap.size, 1, none⟩ v) (.agg #[.slice gA R gc, .pointer (some ⟨bx, 0, none⟩)]) (fun k => w.heap.size ≤ k ∧ k < wr.heap.size) (fun _ => []) ∧
      Below w.heap.size w ((wr.setCell ⟨w.heap.size, 0, none⟩ u).setCell ⟨w.heap.size, 1, none⟩ v) := by
  obtain ⟨o1, (⟨o2, -⟩ | ⟨g, c, cur, o2, o3, o4, o5⟩)⟩ := id ho
  · cases o2; omega
  cases o2
  have s23 := hB3.size
  have s3 := hb.size
  have hU : Upd (fun k => k = w.heap.size) wr ((wr.setCell ⟨w.heap.size, 0, none⟩ u).setCell ⟨w.heap.size, 1, none⟩ v) :=
    ((Upd.refl (fun k => k = w.heap.size) wr).setCell (p := ⟨w.heap.size, 0, none⟩) (.inl rfl) _).setCell (p := ⟨w.heap.size, 1, none⟩) (.inl rfl) _
  have hs : ((wr.setCell ⟨w.heap.size, 0, none⟩ u).setCell ⟨w.heap.size, 1, none⟩ v).heap.size = wr.heap.size := by simp [World.setCell]
  have hg1 := (ho.lt g rfl)
  have hu3 : Upd (fun _ => False) w3 wr := Upd.of_below hb (fun k h1 h2 => by omega)
  refine ⟨⟨g, gc, bx, 0, l, fun _ => [], (fun k => w2.heap.size ≤ k ∧ k < w3.heap.size), Fr, fun _ _ => False, rfl, ⟨?_, ?_, ?_, ?_, hsep, ?_, ?_, ?_, ?_⟩, fun r hr => rfl, ⟨by omega, hg1.2⟩, ?_, ?_, ?_⟩, ?_⟩
  · exact own_mono (own_upd ho hU (fun k hk h => by
      have : g = k := by simpa [Value.ownBlock] using hk
      omega)) (Nat.zero_le _)
  · exact fun r hr => (hl r hr).upd hU (fun k hk h => by have := (hf r hr k hk).1; omega)
  · exact (hX.upd hu3 (fun _ _ => id)).upd hU (fun k hk h => by have := hk.1; omega)
  · intro k v
    exact ⟨False.elim, fun h => by simp at h⟩
  · intro r hr k hk h
    have := (hf r hr k hk).1
    have := h.2
    omega
  · intro h; have := h.2; omega
  · intro r hr h
    exact (hf r hr _ h).2 rfl
  · exact (sum_zero R).symm
  · intro k hk; exact ⟨by have := hk.1; omega, by have := hk.2; omega⟩
  · intro r hr k hk; exact ⟨by have := (hf r hr k hk).1; omega, (hl r hr).lt k hk⟩
  · intro k hk; rw [hs]; exact hk.2
  · exact ((hB2.trans (hB3.mono (by omega))).trans (hb.mono (by omega))).setCell (Nat.le_refl _) _ |>.setCell (Nat.le_refl _) _

/-- A block beside the appended row. -/
theorem far6 {w w5 : World} {b j : Nat} {gv p : Value} {xs : List Value} {T : TypeId} (hb : Below w.heap.size w.drew w5) (hc : w.heap[b]? = some (.cells #[gv, p] T (0, 0))) (ho : w.ownsRow (b + 1) 82 1 gv j xs) (o : Obj) (w6 : World) (hg : (w5.alloc o).grownBy w6 gv.ownBlock) :
    w6.cell? ⟨b, 0, none⟩ = some gv ∧ w6.frozen? ⟨b, 0, none⟩ = false := by
  have hlt := lt_of_block hc
  have hne : some b ≠ gv.ownBlock := by intro h; have := (ho.lt b h.symm).1; omega
  have h5 : w5.heap[b]? = some (.cells #[gv, p] T (0, 0)) := (hb.block b hlt).trans hc
  have h6 := (hg.block b (by simp; have := lt_of_block h5; omega) hne).trans (block_alloc (o := o) h5)
  exact ⟨cell_of h6 0, free_of h6 0⟩

set_option maxRecDepth 6000 in
theorem new_rows (w : World) (R : Nat) (hj0 : 0 < R) (hR : R ≤ 100) : Calls Tryz.prog 35 #[.int .i64 (R : Int)] w (NewRowsPost R w) := by
  have HI := Lib.hid (In.idx_new (w.alloc (.cells #[.slice none 0 0, .pointer none] 51)))
  have HV := Lib.hid (block_new w (.cells #[.slice none 0 0, .pointer none] 51))
  have HB2 : Hid (Below w.heap.size w (w.alloc (.cells #[.slice none 0 0, .pointer none] 51))) := Lib.hid ((Below.refl _ _).alloc (Nat.le_refl _) _)
  obtain ⟨i0, hi0, hz0, hz1, hz2⟩ := info_parts infoL
  go_enter Tryz.func35, Tryz.ntmps35
  go_wp2_with fail
  generalize w.alloc (.cells #[.slice none 0 0, .pointer none] 51) = w2 at *
  refine HI.out.mono ?_
  rintro e w3 ⟨rfl, hx3, hb3⟩
  obtain ⟨bx, hbx⟩ : ∃ bx, bx = w2.heap.size + 1 := ⟨_, rfl⟩
  rw [← hbx] at hx3 ⊢
  have HBX := Lib.hid hbx
  clear hbx
  have HX3 := Lib.hid hx3
  have HB3 := Lib.hid hb3
  clear hx3 hb3 HI
  go_wp2_with fail
  have HB4 : Hid (Below w3.heap.size w3 (w3.alloc (.cells #[.slice none 0 0, .pointer (some ⟨bx, 0, none⟩)] 51))) := Lib.hid ((Below.refl _ _).alloc (Nat.le_refl _) _)
  have HC := Lib.hid (block_new w3 (.cells #[.slice none 0 0, .pointer (some ⟨bx, 0, none⟩)] 51))
  have HS4 : Hid ((w3.alloc (.cells #[.slice none 0 0, .pointer (some ⟨bx, 0, none⟩)] 51)).heap.size = w3.heap.size + 1) := Lib.hid (by simp)
  generalize w3.alloc (.cells #[.slice none 0 0, .pointer (some ⟨bx, 0, none⟩)] 51) = w4 at *
  go_loopg [7] R (fun k v7 wr => NRel R w3 bx k v7 wr)
  case atStart => exact ⟨0, fun _ => 0, fun _ _ => False, .slice none 0 0, by omega, by omega, rfl, HC.out, World.ownsRow_nil _ _ _ _, fun r hr => by omega, fun r hr => by omega, fun r q hr => by omega, HB4.out⟩
  case round =>
    obtain ⟨j, l, Fr, gv, hgk, hj, rfl, hc, ho, hl, hf, hsep, hb⟩ := hrel
    obtain ⟨gA, gc, rfl⟩ := own_form' ho
    obtain ⟨c0, c1, fc⟩ := In.two_cells hc
    have hR' := Lib.hid hR
    clear hR
    have HGK := Lib.hid hgk
    have HO := Lib.hid ho
    have HL := Lib.hid hl
    have HF := Lib.hid hf
    have HSEP := Lib.hid hsep
    have HB := Lib.hid hb
    have HCC := Lib.hid hc
    clear hgk ho hl hf hsep hb hc
    rcases Nat.eq_or_lt_of_le hj with rfl | hjl
    · have hz : w.heap.size < w2.heap.size := lt_of_block HV.out
      have hz3 : w.heap.size < w3.heap.size := Nat.lt_of_lt_of_le hz HB3.out.size
      have hv := (HB.out.block _ hz3).trans ((HB3.out.block _ hz).trans HV.out)
      obtain ⟨t0, t1, ft⟩ := In.two_cells hv
      have HVV := Lib.hid hv
      have ne1 : w.heap.size ≠ w3.heap.size := by omega
      clear hv
      go_wp2_with fail
      have hE := nrel_end hj0 HX3.out HB2.out HB3.out hz HO.out HL.out HF.out HSEP.out HB.out (.slice gA j gc) (.pointer (some ⟨bx, 0, none⟩))
      have g1 := block_setCell (o := 0) (v := .slice gA j gc) HVV.out
      have g2 := block_setCell (o := 1) (v := .pointer (some ⟨bx, 0, none⟩)) g1
      have f0 : (wr.setCell ⟨w.heap.size, 0, none⟩ (.slice gA j gc)).cell? ⟨w.heap.size, 0, none⟩ = some (.slice gA j gc) := cell_of g1 0
      have f1 : ((wr.setCell ⟨w.heap.size, 0, none⟩ (.slice gA j gc)).setCell ⟨w.heap.size, 1, none⟩ (.pointer (some ⟨bx, 0, none⟩))).cell? ⟨w.heap.size, 1, none⟩ = some (.pointer (some ⟨bx, 0, none⟩)) := cell_of g2 1
      exact bodyPost_ret (v := .agg #[.slice gA j gc, .pointer (some ⟨bx, 0, none⟩)]) (by simp [results, Tryz.results35, go_sem, f0, f1]) rfl ⟨_, rfl, by simpa [World.setCell] using hE.1, hE.2⟩
    · have z1 : (j : Int) < (R : Int) := by omega
      have hj9 : j + 1 ≤ 100 := by have := hR'.out; omega
      have z0 : (0 : Int) ≤ (j : Int) := by omega
      have NW := Lib.hid (Li.lst_new wr.drew)
      go_wp2_with fail
      go_region_law (first | (go_simp; go_at_call 57; refine NW.out.mono ?_; rintro e w5 ⟨rfl, hl5, hb5⟩; have q0 := cell_below (w := wr.drew) hb5 c0; have q1 : ∀ o, (w5.alloc o).cell? ⟨w3.heap.size, 0, none⟩ = some (.slice gA j gc) := (fun o => cell_below ((Below.refl _ _).alloc (Nat.le_refl _) o) q0); have HO5 := Lib.hid (own_below (w := wr.drew) HO.out hb5); have hs5 : w3.heap.size + 1 ≤ w5.heap.size := Nat.le_trans (lt_of_block HCC.out) hb5.size; have HL5 := Lib.hid hl5; have HB5 := Lib.hid hb5; have HK6 := Lib.hid (far6 (w := wr) (gv := .slice gA j gc) hb5 HCC.out HO.out); clear hl5 hb5) | (refine step_append_lies _ (by rfl) (.tmp 10) (.tmp 12) 48 (by rfl) (w3.heap.size + 1) 82 i0 (.pointer none) 1 8 Tryz.underlying48 hi0 hz0 hz1 hz2 rfl (by omega) (.slice gA j gc) j ((List.range j).map fun r => Value.pointer (some ⟨l r, 0, none⟩)) (by rfl) (HO5.out.alloc _) ⟨w5.heap.size, 0, none⟩ 1 1 [.pointer (some ⟨wr.heap.size + 1, 0, none⟩)] (by rfl) (by rfl) (World.news_of_block (cs := #[.pointer (some ⟨wr.heap.size + 1, 0, none⟩)]) (t := 82) (fr := (0, 0)) (heap_alloc_new w5 _)) (by simp [Value.oneCell']) (by omega) (by unfold maxLen; omega) (by omega) (by simp; omega) (w5.heap.size + 1) (by simp) ?_; intro f' cf' w6 hown hgr hat hlt3; have q6 := HK6.out _ _ hgr; have p6 := q6.1; have p7 := q6.2; have HO6 := Lib.hid hown; have HG6 := Lib.hid hgr; have HA6 := Lib.hid hat; have HL6 := Lib.hid hlt3; clear q6 hown hgr hat hlt3))
      all_goals
        go_wp2
        go_roundg (R - (j + 1))
        case measure => rw [HGK.out]; omega
        case rel => exact nrel_step hjl HCC.out HO.out HL.out HF.out HSEP.out HB.out HL5.out HB5.out HO6.out HG6.out HA6.out _ rfl

end Go.Proofs.YtkeicfajlmhajaaGreat.Rw
