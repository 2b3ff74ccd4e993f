/- Words of my own on worlds: which blocks may have changed, whole blocks, their cells. Plain lemmas; nothing of the program. -/
import Derived.Below
import Derived.Deep.Draws
import Derived.WalkKit
import Derived.Deep.QuietTactic
import Derived.BigQuiet
import Derived.Laws.Rows
import Derived.KernelRfl
import Derived.Laws.OwnMore
import Derived.Laws.IdiomCopy
import Derived.OneCell
namespace Go.Proofs.YtkeicfajlmhajaaGreat.K
open Go Go.RowKit

/-- From w to w' at most the blocks of F have changed, among those that w had; nothing else of the world but its count of draws. -/
structure Upd (F : Nat → Prop) (w w' : World) : Prop where
  os : w'.os = w.os
  tape : w'.tape = w.tape
  output : w'.output = w.output
  size : w.heap.size ≤ w'.heap.size
  block : ∀ k, k < w.heap.size → ¬ F k → w'.heap[k]? = w.heap[k]?

theorem Upd.refl (F : Nat → Prop) (w : World) : Upd F w w := ⟨rfl, rfl, rfl, Nat.le_refl _, fun _ _ _ => rfl⟩

theorem Upd.trans {F : Nat → Prop} {a b c : World} (h : Upd F a b) (k : Upd F b c) : Upd F a c :=
  ⟨k.os.trans h.os, k.tape.trans h.tape, k.output.trans h.output, Nat.le_trans h.size k.size,
   fun i hi hF => (k.block i (Nat.lt_of_lt_of_le hi h.size) hF).trans (h.block i hi hF)⟩

/-- Two steps, the second of which may also change what the first has made. -/
theorem Upd.then {F G : Nat → Prop} {a b c : World} (h : Upd F a b) (k : Upd G b c) (hG : ∀ i, i < a.heap.size → G i → F i) : Upd F a c :=
  ⟨k.os.trans h.os, k.tape.trans h.tape, k.output.trans h.output, Nat.le_trans h.size k.size,
   fun i hi hF => (k.block i (Nat.lt_of_lt_of_le hi h.size) (fun hg => hF (hG i hi hg))).trans (h.block i hi hF)⟩

theorem Upd.mono {F G : Nat → Prop} {w w' : World} (h : Upd F w w') (hFG : ∀ i, i < w.heap.size → F i → G i) : Upd G w w' :=
  ⟨h.os, h.tape, h.output, h.size, fun k hk hG => h.block k hk (fun hf => hG (hFG k hk hf))⟩

theorem Upd.drewN {F : Nat → Prop} {a w : World} (h : Upd F a w) (n : Nat) : Upd F a (w.drewN n) := ⟨h.os, h.tape, h.output, h.size, h.block⟩
theorem Upd.drew {F : Nat → Prop} {a w : World} (h : Upd F a w) : Upd F a w.drew := ⟨h.os, h.tape, h.output, h.size, h.block⟩
/-- The same behind draws ahead of it. -/
theorem Upd.of_drewN {F : Nat → Prop} {a w : World} {n : Nat} (h : Upd F (a.drewN n) w) : Upd F a w := ⟨h.os, h.tape, h.output, h.size, h.block⟩
theorem Upd.of_drew {F : Nat → Prop} {a w : World} (h : Upd F a.drew w) : Upd F a w := ⟨h.os, h.tape, h.output, h.size, h.block⟩

theorem Upd.setCell {F : Nat → Prop} {a w : World} (h : Upd F a w) {p : Addr} (hp : F p.block ∨ a.heap.size ≤ p.block) (u : Value) : Upd F a (w.setCell p u) :=
  ⟨h.os, h.tape, h.output, by simpa [World.setCell] using h.size, fun k hk hF => by
    rw [Below.heap_setCell w p u k (by rintro rfl; rcases hp with hp | hp; exact hF hp; omega)]; exact h.block k hk hF⟩

theorem Upd.setB {a w : World} {b o : Nat} {u : Value} (h : Upd (· = b) a w) : Upd (· = b) a (w.setCell ⟨b, o, none⟩ u) := h.setCell (.inl rfl) u
theorem Upd.alloc {F : Nat → Prop} {a w : World} (h : Upd F a w) (o : Obj) : Upd F a (w.alloc o) :=
  ⟨h.os, h.tape, h.output, by simp; have := h.size; omega, fun k hk hF => by
    rw [Below.heap_alloc w o k (Nat.lt_of_lt_of_le hk h.size)]; exact h.block k hk hF⟩

theorem Upd.below {F : Nat → Prop} {w w' : World} {B : Nat} (h : Upd F w w') (hB : B ≤ w.heap.size) (hF : ∀ i, F i → B ≤ i) : Below B w w' :=
  ⟨h.os, h.tape, h.output, h.size, fun k hk => h.block k (by omega) (fun hf => by have := hF k hf; omega)⟩

theorem Upd.onto {B b : Nat} {w w' w'' : World} (h : Below B w w') (k : Upd (· = b) w' w'') (hB : B ≤ w.heap.size) (hb : B ≤ b) : Below B w w'' :=
  h.trans (k.below (Nat.le_trans hB h.size) (by rintro i rfl; exact hb))

theorem Upd.of_below {F : Nat → Prop} {w w' : World} {B : Nat} (h : Below B w w') (hF : ∀ i, B ≤ i → i < w.heap.size → F i) : Upd F w w' :=
  ⟨h.os, h.tape, h.output, h.size, fun k hk hf => h.block k (by
    rcases Nat.lt_or_ge k B with h' | h'
    · exact h'
    · exact absurd (hF k h' hk) hf)⟩

theorem Upd.get {F : Nat → Prop} {w w' : World} (h : Upd F w w') {b : Nat} {o : Obj} (hb : w.heap[b]? = some o) (hF : ¬ F b) : w'.heap[b]? = some o := by
  rw [h.block b (by rcases Nat.lt_or_ge b w.heap.size with h' | h'; exact h'; simp [Array.getElem?_eq_none h'] at hb) hF]; exact hb

theorem lt_of_block {w : World} {b : Nat} {o : Obj} (hb : w.heap[b]? = some o) : b < w.heap.size := by
  rcases Nat.lt_or_ge b w.heap.size with h' | h'
  · exact h'
  · simp [Array.getElem?_eq_none h'] at hb

/-- A block's cell. -/
theorem cell_of {w : World} {b : Nat} {cs : Array Value} {T : TypeId} {fz : Nat × Nat} (h : w.heap[b]? = some (.cells cs T fz)) (o : Nat) : w.cell? ⟨b, o, none⟩ = cs[o]? := by
  simp [World.cell?, h]
theorem free_of {w : World} {b : Nat} {cs : Array Value} {T : TypeId} (h : w.heap[b]? = some (.cells cs T (0, 0))) (o : Nat) : w.frozen? ⟨b, o, none⟩ = false := by
  simp [World.frozen?, h]
theorem block_setCell {w : World} {b o : Nat} {v : Value} {cs : Array Value} {T : TypeId} {fz : Nat × Nat} (h : w.heap[b]? = some (.cells cs T fz)) :
    (w.setCell ⟨b, o, none⟩ v).heap[b]? = some (.cells (cs.setIfInBounds o v) T fz) := by
  simp only [World.setCell, Array.getElem?_modify, if_true, h, Option.map_some]; rfl
theorem block_other {w : World} {b : Nat} {p : Addr} {v : Value} {x : Option Obj} (hne : b ≠ p.block) (h : w.heap[b]? = x) : (w.setCell p v).heap[b]? = x := by
  rw [Below.heap_setCell w p v b hne]; exact h
theorem block_alloc {w : World} {b : Nat} {o x : Obj} (h : w.heap[b]? = some x) : (w.alloc o).heap[b]? = some x := by
  rw [Below.heap_alloc w o b (lt_of_block h)]; exact h
theorem block_new (w : World) (o : Obj) : (w.alloc o).heap[w.heap.size]? = some o := heap_alloc_new w o
theorem block_new' {w : World} {b : Nat} (hb : w.heap.size = b) (o : Obj) : (w.alloc o).heap[b]? = some o := by subst hb; exact heap_alloc_new w o
theorem block_drewN {w : World} {b n : Nat} {x : Option Obj} (h : w.heap[b]? = x) : (w.drewN n).heap[b]? = x := h
theorem block_drew {w : World} {b : Nat} {x : Option Obj} (h : w.heap[b]? = x) : w.drew.heap[b]? = x := h

theorem ret_int {k : IntKind} {a b : Int} (h : a = b) : Ending.returned (.int k a) = .returned (.int k b) := by rw [h]
theorem ret_bool {a b : Bool} (h : a = b) : Ending.returned (.bool a) = .returned (.bool b) := by rw [h]

theorem cells3 {w : World} {b : Nat} {x y z : Value} {T : TypeId} (h : w.heap[b]? = some (.cells #[x, y, z] T (0, 0))) :
    w.cell? ⟨b, 0, none⟩ = some x ∧ w.cell? ⟨b, 1, none⟩ = some y ∧ w.cell? ⟨b, 2, none⟩ = some z ∧ (∀ o, w.frozen? ⟨b, o, none⟩ = false) :=
  ⟨cell_of h 0, cell_of h 1, cell_of h 2, free_of h⟩

/-- A quiet call in a region that draws, in a world that has already drawn. -/
theorem quiet_add {P : Program} {f : FuncId} {args : Array Value} {w : World} {a n : Nat} {v : Value}
    (h : Calls P f args (w.drewN (a + n)) fun e w' => e = .returned v ∧ ∃ m, w' = (w.drewN (a + n)).drewN m) :
    Calls P f args (w.drewN (a + n)) fun e w'' => e = .returned v ∧ ∃ m, w'' = w.drewN (a + m) :=
  h.mono fun _ _ ⟨he, m, hm⟩ => ⟨he, n + m, by rw [hm, World.drewN_drewN, Nat.add_assoc]⟩

theorem below_drewN {B : Nat} {a w : World} (h : Below B a w) (n : Nat) : Below B a (w.drewN n) := ⟨h.os, h.tape, h.output, h.size, h.block⟩

theorem drawn_add {w : World} (a b : Nat) : ∃ k, (w.drewN a).drewN b = w.drewN k := ⟨a + b, by rw [World.drewN_drewN]⟩

section
variable {w : World} {base : Nat} {e : TypeId} {g n cap : Nat}

/-- The same row, cut shorter. -/
theorem own_cut {size : Nat} {xs : List Value} (h : w.ownsRow base e size (.slice (some ⟨g, 0, none⟩) n cap) n xs) {m : Nat} (hm : m ≤ n) :
    w.ownsRow base e size (.slice (some ⟨g, 0, none⟩) m cap) m (xs.take (m * size)) := by
  rcases h.2 with ⟨hh, _⟩ | ⟨g', cap', cur, hv, hB, hg, hnc, hcm, hcs, htake⟩
  · cases hh
  · injection hv with h1 _ h3
    injection h1 with h1
    injection h1 with h1
    subst h1 h3
    have hms : m * size ≤ n * size := Nat.mul_le_mul_right _ hm
    refine ⟨by rw [List.length_take, h.1]; omega, .inr ⟨g, cap, cur, rfl, hB, hg, by omega, hcm, hcs, ?_⟩⟩
    rw [← htake, List.take_take, Nat.min_eq_left hms]

/-- One cell of a row of one-cell elements is written. -/
theorem own_set {xs : List Value} (h : w.ownsRow base e 1 (.slice (some ⟨g, 0, none⟩) n cap) n xs) (j : Nat) (u : Value) :
    (w.setCell ⟨g, j, none⟩ u).ownsRow base e 1 (.slice (some ⟨g, 0, none⟩) n cap) n (xs.set j u) := by
  rcases h.2 with ⟨hh, _⟩ | ⟨g', cap', cur, hv, hB, hg, hnc, hcm, hcs, htake⟩
  · cases hh
  · injection hv with h1 _ h3
    injection h1 with h1
    injection h1 with h1
    subst h1 h3
    refine ⟨by rw [List.length_set]; exact h.1, .inr ⟨g, cap, cur.setIfInBounds j u, rfl, hB, block_setCell hg, hnc, hcm, by rw [Array.size_setIfInBounds]; exact hcs, ?_⟩⟩
    rw [Array.toList_setIfInBounds, List.take_set, htake]

theorem own_setCells : ∀ (vs : List Value) (o : Nat) (w : World) (xs : List Value), o + vs.length ≤ n → w.ownsRow base e 1 (.slice (some ⟨g, 0, none⟩) n cap) n xs →
    (w.setCells g o vs).ownsRow base e 1 (.slice (some ⟨g, 0, none⟩) n cap) n (xs.take o ++ vs ++ xs.drop (o + vs.length))
  | [], o, w, xs, _, h => by simpa [World.setCells] using h
  | v :: r, o, w, xs, hle, h => by
    simp only [List.length_cons] at hle
    have h1 := own_set h o v
    have h2 := own_setCells r (o + 1) _ _ (by omega) h1
    rw [World.setCells]
    have hl : xs.length = n := by have := h.1; omega
    have e1 : (xs.set o v).take (o + 1) = xs.take o ++ [v] := by
      rw [List.take_add_one, List.take_set_of_le (Nat.le_refl _), List.getElem?_set_self (by omega)]; rfl
    have e2 : (xs.set o v).drop (o + 1 + r.length) = xs.drop (o + (r.length + 1)) := by
      rw [List.drop_set_of_lt (by omega)]; congr 1; omega
    rw [e1, e2] at h2
    simpa using h2

theorem upd_setCells {F : Nat → Prop} {a : World} : ∀ (vs : List Value) (o : Nat) (w : World), Upd F a w → (F g ∨ a.heap.size ≤ g) → Upd F a (w.setCells g o vs)
  | [], _, _, h, _ => h
  | v :: r, o, _, h, hF => upd_setCells r (o + 1) _ (h.setCell (p := ⟨g, o, none⟩) hF v) hF

theorem own_upd {w w' : World} {F : Nat → Prop} {size m : Nat} {v : Value} {xs : List Value} (h : w.ownsRow base e size v m xs) (hu : Upd F w w') (hF : ∀ k, v.ownBlock = some k → ¬ F k) : w'.ownsRow base e size v m xs := by
  refine ⟨h.1, ?_⟩
  rcases h.2 with hn | ⟨g, cap, cur, rfl, hb, hgg, rest⟩
  · exact .inl hn
  · exact .inr ⟨g, cap, cur, rfl, hb, hu.get hgg (hF g rfl), rest⟩

theorem own_drewN {size m k : Nat} {v : Value} {xs : List Value} (h : w.ownsRow base e size v m xs) : (w.drewN k).ownsRow base e size v m xs := h

theorem Upd.of_grown {w w' : World} {row : Option Nat} (h : w.grownBy w' row) : Upd (fun k => row = some k) w w' :=
  ⟨h.os, h.tape, h.output, h.size, fun k hk hF => h.block k hk (fun he => hF he.symm)⟩
end

end Go.Proofs.YtkeicfajlmhajaaGreat.K
