/- Slices of structs that came in: what of them is read. Plain lemmas over any program. -/
import Derived.Test.YtkeicfajlmhajaaGreatStr
import Derived.Deep.Slices
import Derived.Deep.Fields
import Derived.ChangeSame
namespace Go.Proofs.YtkeicfajlmhajaaGreat.K
open Go Go.RowKit Go.ChangeShapes Go.WideShapes Go.Deep

theorem list_of {α : Type} {Q : Nat → α → Prop} : ∀ (n : Nat), (∀ i, i < n → ∃ a, Q i a) → ∃ xs : List α, xs.length = n ∧ ∀ i a, xs[i]? = some a → Q i a
  | 0, _ => ⟨[], rfl, by simp⟩
  | n + 1, h => by
    obtain ⟨xs, hl, hx⟩ := list_of n (fun i hi => h i (by omega))
    obtain ⟨a, ha⟩ := h n (by omega)
    refine ⟨xs ++ [a], by simp [hl], fun i b hb => ?_⟩
    rw [List.getElem?_append] at hb
    split at hb
    · exact hx i b hb
    · rename_i hi
      have : i = n := by
        by_cases e : i - xs.length = 0
        · omega
        · rw [List.getElem?_eq_none (by simp; omega)] at hb; cases hb
      subst this
      rw [hl, Nat.sub_self] at hb
      cases hb
      exact ha

/-- An operation, plain. -/
structure COp where
  kind : Int
  key : ByteArray
  val : ByteArray
  n : Int
def COp.cells (o : COp) : List Value := [.int .i64 o.kind, .string o.key, .string o.val, .int .i64 o.n]

/-- An act, plain. -/
structure Act2 where
  kind : Int
  key : ByteArray
def Act2.cells (o : Act2) : List Value := [.int .i64 o.kind, .string o.key]

/-- The slice at A holds the operations xs. -/
structure ROp (w : World) (A : Option Addr) (xs : List COp) : Prop where
  len : xs.length ≤ 2932031007402
  get : ∀ i x, xs[i]? = some x → ∃ b o, A = some ⟨b, o, none⟩ ∧ (∀ j v, x.cells[j]? = some v → w.cell? ⟨b, o + (i * 4 + j), none⟩ = some v) ∧
    (Lit.int .i64 x.kind).wf = true ∧ (Lit.int .i64 x.n).wf = true ∧ x.key.size ≤ maxLen ∧ x.val.size ≤ maxLen

/-- The slice at A holds the acts xs. -/
structure RAct (w : World) (A : Option Addr) (xs : List Act2) : Prop where
  len : xs.length ≤ 5864062014805
  get : ∀ i x, xs[i]? = some x → ∃ b o, A = some ⟨b, o, none⟩ ∧ (∀ j v, x.cells[j]? = some v → w.cell? ⟨b, o + (i * 2 + j), none⟩ = some v) ∧
    (Lit.int .i64 x.kind).wf = true ∧ x.key.size ≤ maxLen

theorem ROp.below {w w' : World} {A : Option Addr} {xs : List COp} (h : ROp w A xs) (hb : Below w.heap.size w w') : ROp w' A xs :=
  ⟨h.len, fun i s hs => by
    obtain ⟨b, o, rfl, hc, hr⟩ := h.get i s hs
    exact ⟨b, o, rfl, fun j v hv => by rw [hb.cell (p := ⟨b, o + (i * 4 + j), none⟩) (World.block_lt_of_cell? w _ (hc j v hv))]; exact hc j v hv, hr⟩⟩
theorem RAct.below {w w' : World} {A : Option Addr} {xs : List Act2} (h : RAct w A xs) (hb : Below w.heap.size w w') : RAct w' A xs :=
  ⟨h.len, fun i s hs => by
    obtain ⟨b, o, rfl, hc, hr⟩ := h.get i s hs
    exact ⟨b, o, rfl, fun j v hv => by rw [hb.cell (p := ⟨b, o + (i * 2 + j), none⟩) (World.block_lt_of_cell? w _ (hc j v hv))]; exact hc j v hv, hr⟩⟩

section
variable {H : Type} {enc : TypeId × Value → H} {P : Program} {w : World} {base : Nat} {spare : Nat → Bool} {held : Bool}
/-- A slice of structs whose fields are one cell each: each element's cells. -/
theorem open_slice_fields' {t e : TypeId} {fs : Array Field} {fuel : Nat} {cs : List Value} {x : DataW H × List MemPlace} (ht : P.underlying t = some (.slice e)) (he : P.underlying e = some (.struct fs))
    (hone : oneCellFields P fs = true) (hC : P.cellsOf e = fs.size) (h : DataW.trod enc P w base spare held fuel t cs = some x) :
    (cs = [.slice none 0 0] ∧ x = (.nil, [])) ∨
    ∃ (a : Addr) (len cap m : Nat) (D : Nat → DataW H) (pl : List MemPlace), cs = [.slice (some a) len cap] ∧ len ≤ cap ∧ cap ≤ maxLen ∧ len ≤ m ∧
      x = (.slice ((List.range len).map D) ((List.range (m - len)).map fun j => D (len + j)), pl) ∧
      ∀ i, i < m → ∀ (j : Nat) (f : Field), fs[j]? = some f → ∃ (v : Value) (n : Nat) (y : DataW H × List MemPlace), w.cell? (a.add (i * fs.size + j)) = some v ∧ DataW.trod enc P w base spare held n f.type [v] = some y := by
  rcases open_slice ht h with h0 | ⟨a, len, cap, m, n, D, Pl, hcs, hb, hl, hm, hmm, hx, hi⟩
  · exact .inl h0
  · refine .inr ⟨a, len, cap, m, D, _, hcs, hl, hm, by rw [hmm]; split <;> omega, hx, fun i him j f hj => ?_⟩
    obtain ⟨cs', hc, ht'⟩ := hi i him
    rw [hC] at hc
    obtain ⟨ys, n', hn', hy, hlen, hyl, hf⟩ := DataW.trod_struct he ht'
    obtain ⟨_, hcl, hat⟩ := World.cells?_some hc
    obtain ⟨ho, hk⟩ := hone_of hone j f hj
    have hjl : j < fs.size := (Array.getElem?_eq_some_iff.1 hj).1
    have hcell := hat j hjl
    have hv : cs'[j]? = some (cs'[j]'(by omega)) := List.getElem?_eq_getElem (by omega)
    have h1 := hf j f hj
    rw [ho, hk] at h1
    have hone' : (cs'.drop j).take 1 = [cs'[j]'(by omega)] := by
      rw [List.drop_eq_getElem_cons (by omega)]
      rfl
    rw [hone'] at h1
    have hys : ys[j]? = some (ys[j]'(by omega)) := List.getElem?_eq_getElem (by omega)
    refine ⟨_, n', _, ?_, h1.trans hys⟩
    rw [← Go.Deep.add_add, hcell, hv]

end
section
variable {H : Type} {enc : TypeId × Value → H} {P : Program} {W : World} {base : Nat} {spare : Nat → Bool} {held : Bool} {t e : TypeId} {A : Option Addr} {len cap : Nat} {d : DataW H} {ps : List MemPlace} {fs : Array Field}

theorem open_ops {ts : List TypeId} {ds : List (DataW H)} {j : Nat} (hsz : (DataW.weightsEach P ts ds).all (· ≤ reachBytes) = true) (ht : ts[j]? = some t) (hd : ds[j]? = some d)
    (hu : P.underlying t = some (.slice e)) (he : P.underlying e = some (.struct fs)) (hone : oneCellFields P fs = true) (hC : P.cellsOf e = fs.size) (h4 : fs.size = 4) (hB : P.bytesOf e = 48)
    {f0 f1 f2 f3 : Field} (hf0 : fs[0]? = some f0) (hf1 : fs[1]? = some f1) (hf2 : fs[2]? = some f2) (hf3 : fs[3]? = some f3)
    (u0 : P.underlying f0.type = some (.int .i64)) (u1 : P.underlying f1.type = some .string) (u2 : P.underlying f2.type = some .string) (u3 : P.underlying f3.type = some (.int .i64))
    (h : DataW.Trod enc P W base spare held t (.slice A len cap) d ps) :
    ∃ xs : List COp, len = xs.length ∧ ROp W A xs ∧ xs.length ≤ cap := by
  obtain ⟨fuel, hf⟩ := h
  rcases open_slice_fields' hu he hone hC hf with ⟨hcs, _⟩ | ⟨a, l, c, m, D, pl, hcs, hl, hm, hlm, hx, hi⟩
  · simp [Value.cells] at hcs
    obtain ⟨rfl, rfl, rfl⟩ := hcs
    exact ⟨[], rfl, ⟨by simp, by simp⟩, by simp⟩
  · simp [Value.cells] at hcs
    obtain ⟨rfl, rfl, rfl⟩ := hcs
    obtain ⟨hx, _⟩ := Prod.mk.inj hx
    subst hx
    have z := sized_slice hsz ht hd hu
    rw [hB] at z
    simp only [List.length_map, List.length_range] at z
    unfold reachBytes at z
    have hp : ∀ i, i < len → ∃ b o, a = ⟨b, o, none⟩ := fun i h => by
      obtain ⟨v, n, y, hc, _⟩ := hi 0 (by omega) 0 f0 hf0
      rw [Nat.zero_mul] at hc
      exact cell_plain hc
    obtain ⟨xs, hxl, hxs⟩ := list_of (α := COp) (Q := fun i x => ∃ b o, some a = some (⟨b, o, none⟩ : Addr) ∧ (∀ j v, x.cells[j]? = some v → W.cell? ⟨b, o + (i * 4 + j), none⟩ = some v) ∧
      (Lit.int .i64 x.kind).wf = true ∧ (Lit.int .i64 x.n).wf = true ∧ x.key.size ≤ maxLen ∧ x.val.size ≤ maxLen) len (fun i hil => by
      obtain ⟨b, o, rfl⟩ := hp i hil
      obtain ⟨v0, n0, y0, c0, t0⟩ := hi i (by omega) 0 f0 hf0
      obtain ⟨v1, n1, y1, c1, t1⟩ := hi i (by omega) 1 f1 hf1
      obtain ⟨v2, n2, y2, c2, t2⟩ := hi i (by omega) 2 f2 hf2
      obtain ⟨v3, n3, y3, c3, t3⟩ := hi i (by omega) 3 f3 hf3
      obtain ⟨x0, e0, _, w0⟩ := DataW.trod_int u0 t0
      obtain ⟨x1, e1, _, w1⟩ := DataW.trod_string u1 t1
      obtain ⟨x2, e2, _, w2⟩ := DataW.trod_string u2 t2
      obtain ⟨x3, e3, _, w3⟩ := DataW.trod_int u3 t3
      simp only [List.cons.injEq, and_true] at e0 e1 e2 e3
      subst e0 e1 e2 e3
      rw [h4, add_plain] at c0 c1 c2 c3
      refine ⟨⟨x0, x1, x2, x3⟩, b, o, rfl, fun j v hv => ?_, w0, w3, w1, w2⟩
      match j, hv with
      | 0, hv => cases hv; exact c0
      | 1, hv => cases hv; exact c1
      | 2, hv => cases hv; exact c2
      | 3, hv => cases hv; exact c3
      | j + 4, hv => simp [COp.cells] at hv)
    exact ⟨xs, hxl.symm, ⟨by omega, hxs⟩, by omega⟩

theorem open_acts {ts : List TypeId} {ds : List (DataW H)} {j : Nat} (hsz : (DataW.weightsEach P ts ds).all (· ≤ reachBytes) = true) (ht : ts[j]? = some t) (hd : ds[j]? = some d)
    (hu : P.underlying t = some (.slice e)) (he : P.underlying e = some (.struct fs)) (hone : oneCellFields P fs = true) (hC : P.cellsOf e = fs.size) (h4 : fs.size = 2) (hB : P.bytesOf e = 24)
    {f0 f1 : Field} (hf0 : fs[0]? = some f0) (hf1 : fs[1]? = some f1)
    (u0 : P.underlying f0.type = some (.int .i64)) (u1 : P.underlying f1.type = some .string)
    (h : DataW.Trod enc P W base spare held t (.slice A len cap) d ps) :
    ∃ xs : List Act2, len = xs.length ∧ RAct W A xs ∧ xs.length ≤ cap := by
  obtain ⟨fuel, hf⟩ := h
  rcases open_slice_fields' hu he hone hC hf with ⟨hcs, _⟩ | ⟨a, l, c, m, D, pl, hcs, hl, hm, hlm, hx, hi⟩
  · simp [Value.cells] at hcs
    obtain ⟨rfl, rfl, rfl⟩ := hcs
    exact ⟨[], rfl, ⟨by simp, by simp⟩, by simp⟩
  · simp [Value.cells] at hcs
    obtain ⟨rfl, rfl, rfl⟩ := hcs
    obtain ⟨hx, _⟩ := Prod.mk.inj hx
    subst hx
    have z := sized_slice hsz ht hd hu
    rw [hB] at z
    simp only [List.length_map, List.length_range] at z
    unfold reachBytes at z
    have hp : ∀ i, i < len → ∃ b o, a = ⟨b, o, none⟩ := fun i h => by
      obtain ⟨v, n, y, hc, _⟩ := hi 0 (by omega) 0 f0 hf0
      rw [Nat.zero_mul] at hc
      exact cell_plain hc
    obtain ⟨xs, hxl, hxs⟩ := list_of (α := Act2) (Q := fun i x => ∃ b o, some a = some (⟨b, o, none⟩ : Addr) ∧ (∀ j v, x.cells[j]? = some v → W.cell? ⟨b, o + (i * 2 + j), none⟩ = some v) ∧
      (Lit.int .i64 x.kind).wf = true ∧ x.key.size ≤ maxLen) len (fun i hil => by
      obtain ⟨b, o, rfl⟩ := hp i hil
      obtain ⟨v0, n0, y0, c0, t0⟩ := hi i (by omega) 0 f0 hf0
      obtain ⟨v1, n1, y1, c1, t1⟩ := hi i (by omega) 1 f1 hf1
      obtain ⟨x0, e0, _, w0⟩ := DataW.trod_int u0 t0
      obtain ⟨x1, e1, _, w1⟩ := DataW.trod_string u1 t1
      simp only [List.cons.injEq, and_true] at e0 e1
      subst e0 e1
      rw [h4, add_plain] at c0 c1
      refine ⟨⟨x0, x1⟩, b, o, rfl, fun j v hv => ?_, w0, w1⟩
      match j, hv with
      | 0, hv => cases hv; exact c0
      | 1, hv => cases hv; exact c1
      | j + 2, hv => simp [Act2.cells] at hv)
    exact ⟨xs, hxl.symm, ⟨by omega, hxs⟩, by omega⟩
end

end Go.Proofs.YtkeicfajlmhajaaGreat.K
