/- Rows whose elements are several cells, as one flat list of cells; footprints. Nothing of the program. -/
import Derived.Test.YtkeicfajlmhajaaGreatK
namespace Go.Proofs.YtkeicfajlmhajaaGreat.K
open Go Go.RowKit

section
variable {α : Type} {enc : α → List Value} {k : Nat}

theorem flat_length (hk : ∀ p, (enc p).length = k) (T : List α) : (T.flatMap enc).length = T.length * k := by
  induction T with
  | nil => simp
  | cons p T ih => simp only [List.flatMap_cons, List.length_append, hk, ih, List.length_cons, Nat.add_mul, Nat.one_mul]; omega

theorem flat_get (hk : ∀ p, (enc p).length = k) : ∀ {T : List α} {i j : Nat} {p : α}, T[i]? = some p → j < k → (T.flatMap enc)[i * k + j]? = (enc p)[j]?
  | [], i, j, p, h, _ => by simp at h
  | a :: T, 0, j, p, h, hj => by
    simp only [List.getElem?_cons_zero, Option.some.injEq] at h
    subst h
    rw [List.flatMap_cons, Nat.zero_mul, Nat.zero_add, List.getElem?_append_left (by rw [hk]; exact hj)]
  | a :: T, i + 1, j, p, h, hj => by
    simp only [List.getElem?_cons_succ] at h
    rw [List.flatMap_cons, List.getElem?_append_right (by rw [hk, Nat.add_mul]; omega), hk]
    have : (i + 1) * k + j - k = i * k + j := by rw [Nat.add_mul]; omega
    rw [this]
    exact flat_get hk h hj

theorem flat_set (hk : ∀ p, (enc p).length = k) {p' : α} {vs : List Value} {j : Nat} (hj : j + vs.length ≤ k) : ∀ {T : List α} {i : Nat} {p : α}, T[i]? = some p →
    enc p' = (enc p).take j ++ vs ++ (enc p).drop (j + vs.length) →
    (T.flatMap enc).take (i * k + j) ++ vs ++ (T.flatMap enc).drop (i * k + j + vs.length) = (T.set i p').flatMap enc
  | [], i, p, h, _ => by simp at h
  | a :: T, 0, p, h, he => by
    simp only [List.getElem?_cons_zero, Option.some.injEq] at h
    subst h
    have hl := hk a
    rw [List.set_cons_zero, List.flatMap_cons, List.flatMap_cons, Nat.zero_mul, Nat.zero_add, List.take_append_of_le_length (by omega), List.drop_append_of_le_length (by omega), he]
    simp [List.append_assoc]
  | a :: T, i + 1, p, h, he => by
    simp only [List.getElem?_cons_succ] at h
    have ih := flat_set hk hj h he
    have hl := hk a
    rw [List.set_cons_succ, List.flatMap_cons, List.flatMap_cons]
    have e1 : (i + 1) * k + j = (enc a).length + (i * k + j) := by rw [Nat.add_mul]; omega
    rw [e1, Nat.add_assoc (enc a).length, List.take_length_add_append, List.drop_length_add_append, List.append_assoc, List.append_assoc, ← ih]
    simp [List.append_assoc]

/-- One cell of an element is written. -/
theorem flat_set1 (hk : ∀ p, (enc p).length = k) {p p' : α} {v : Value} {i j : Nat} {T : List α} (hj : j < k) (h : T[i]? = some p) (he : enc p' = (enc p).set j v) :
    (T.flatMap enc).set (i * k + j) v = (T.set i p').flatMap enc := by
  have hlt : i < T.length := by
    rcases Nat.lt_or_ge i T.length with h' | h'
    · exact h'
    · rw [List.getElem?_eq_none h'] at h; cases h
  have hl := flat_length hk T
  have h1 : (i + 1) * k ≤ T.length * k := Nat.mul_le_mul_right _ hlt
  rw [Nat.add_mul] at h1
  have e := flat_set (vs := [v]) (j := j) hk (by simp; omega) h (by rw [he, List.set_eq_take_append_cons_drop, if_pos (by rw [hk]; exact hj)]; simp)
  rw [← e, List.set_eq_take_append_cons_drop, if_pos (by omega)]
  simp
end

/-- A footprint grows by new blocks alone, and nothing outside of it changes. -/
structure Step (F : Nat → Prop) (w : World) (F' : Nat → Prop) (w' : World) : Prop where
  upd : Upd F w w'
  grow : ∀ k, F' k → F k ∨ w.heap.size ≤ k

theorem Step.refl (F : Nat → Prop) (w : World) : Step F w F w := ⟨Upd.refl _ _, fun _ h => .inl h⟩
theorem Step.trans {F G H : Nat → Prop} {a b c : World} (h : Step F a G b) (k : Step G b H c) : Step F a H c :=
  ⟨h.upd.then k.upd (fun i hi hG => (h.grow i hG).resolve_right (by omega)), fun i hi => by
    rcases k.grow i hi with h1 | h1
    · exact h.grow i h1
    · exact .inr (Nat.le_trans h.upd.size h1)⟩
theorem Step.drewN {F G : Nat → Prop} {a b : World} (h : Step F a G b) (n : Nat) : Step F a G (b.drewN n) := ⟨h.upd.drewN n, h.grow⟩
theorem Step.of_drewN {F G : Nat → Prop} {a b : World} {n : Nat} (h : Step F (a.drewN n) G b) : Step F a G b := ⟨h.upd.of_drewN, h.grow⟩
theorem Step.below {F G : Nat → Prop} {w w' : World} {B : Nat} (h : Step F w G w') (hB : B ≤ w.heap.size) (hF : ∀ i, F i → B ≤ i) : Below B w w' := h.upd.below hB hF
theorem Step.above {F G : Nat → Prop} {w w' : World} {B : Nat} (h : Step F w G w') (hB : B ≤ w.heap.size) (hF : ∀ i, F i → B ≤ i) : ∀ i, G i → B ≤ i := fun i hi => by
  rcases h.grow i hi with h1 | h1
  · exact hF i h1
  · omega
/-- What is apart stays apart. -/
theorem Step.apart {F G D : Nat → Prop} {w w' : World} (h : Step F w G w') (hd : ∀ k, D k → ¬ F k) (hlt : ∀ k, D k → k < w.heap.size) : ∀ k, D k → ¬ G k := fun k hk hg => by
  rcases h.grow k hg with h1 | h1
  · exact hd k hk h1
  · have := hlt k hk; omega
/-- Only new blocks: nothing that was there has changed. -/
theorem Step.of_below {F : Nat → Prop} {w w' : World} (h : Below w.heap.size w w') : Step F w F w' := ⟨Upd.of_below h (fun i h1 h2 => by omega), fun _ h => .inl h⟩
theorem Step.mono {F F2 G : Nat → Prop} {w w' : World} (h : Step F w G w') (hF : ∀ i, F i → F2 i) : Step F2 w (fun k => G k ∨ F2 k) w' :=
  ⟨h.upd.mono (fun i _ hi => hF i hi), fun k hk => by
    rcases hk with hk | hk
    · rcases h.grow k hk with h1 | h1
      · exact .inl (hF k h1)
      · exact .inr h1
    · exact .inl hk⟩
/-- One part steps, the others stay. -/
theorem Step.part {F F' R : Nat → Prop} {w w' : World} (h : Step F w F' w') : Step (fun k => F k ∨ R k) w (fun k => F' k ∨ R k) w' :=
  ⟨h.upd.mono (fun i _ hi => .inl hi), fun k hk => by
    rcases hk with hk | hk
    · rcases h.grow k hk with h1 | h1
      · exact .inl (.inl h1)
      · exact .inr h1
    · exact .inl (.inr hk)⟩

theorem lt_of_getElem? {α : Type} {l : List α} {i : Nat} {x : α} (h : l[i]? = some x) : i < l.length := by
  rcases Nat.lt_or_ge i l.length with h' | h'
  · exact h'
  · rw [List.getElem?_eq_none h'] at h; cases h

end Go.Proofs.YtkeicfajlmhajaaGreat.K
