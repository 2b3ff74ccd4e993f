/- Who is when, as plain lists: the order of clients by counts and picks. Nothing of the program. -/
namespace Go.Proofs.Ytlnpjcamcefbkaa.Ro

/-- How many operations there are. -/
def tot : List Int → Int
  | [] => 0
  | n :: l => max 0 n + tot l

/-- Who has operations left: from client i on. -/
def clF : Nat → List Int → List Nat
  | _, [] => []
  | i, n :: l => if 1 ≤ n then i :: clF (i + 1) l else clF (i + 1) l

def cl (l : List Int) : List Nat := clF 0 l

theorem tot_nonneg (l : List Int) : 0 ≤ tot l := by
  induction l with
  | nil => simp [tot]
  | cons n l ih => simp only [tot]; omega

theorem tot_append (a b : List Int) : tot (a ++ b) = tot a + tot b := by
  induction a with
  | nil => simp [tot]
  | cons n l ih => simp only [tot, List.cons_append, ih]; omega

theorem tot_take_le (l : List Int) (k : Nat) : tot (l.take k) ≤ tot l := by
  have := tot_append (l.take k) (l.drop k)
  rw [List.take_append_drop] at this
  have := tot_nonneg (l.drop k)
  omega

theorem clF_append (i : Nat) (a b : List Int) : clF i (a ++ b) = clF i a ++ clF (i + a.length) b := by
  induction a generalizing i with
  | nil => simp [clF]
  | cons n l ih =>
    simp only [List.cons_append, clF, ih, List.length_cons]
    have : i + 1 + l.length = i + (l.length + 1) := by omega
    rw [this]
    split <;> simp

theorem take_succ' (l : List Int) (k : Nat) (x : Int) (h : l[k]? = some x) : l.take (k + 1) = l.take k ++ [x] := by
  rw [List.take_add_one, h]; rfl

theorem tot_succ (l : List Int) (k : Nat) (x : Int) (h : l[k]? = some x) : tot (l.take (k + 1)) = tot (l.take k) + max 0 x := by
  rw [take_succ' l k x h, tot_append]; simp [tot]

theorem lt_of_get {α : Type} {l : List α} {k : Nat} {x : α} (h : l[k]? = some x) : k < l.length := by
  rcases Nat.lt_or_ge k l.length with h' | h'
  · exact h'
  · rw [List.getElem?_eq_none h'] at h; cases h

theorem cl_succ (l : List Int) (k : Nat) (x : Int) (h : l[k]? = some x) : cl (l.take (k + 1)) = cl (l.take k) ++ (if 1 ≤ x then [k] else []) := by
  have hk := lt_of_get h
  rw [take_succ' l k x h]
  unfold cl
  rw [clF_append]
  have : 0 + (l.take k).length = k := by simp; omega
  rw [this]
  simp [clF]

theorem mem_clF {i w : Nat} {l : List Int} : w ∈ clF i l ↔ ∃ j x, w = i + j ∧ l[j]? = some x ∧ 1 ≤ x := by
  induction l generalizing i with
  | nil => simp [clF]
  | cons n l ih =>
    simp only [clF]
    constructor
    · intro h
      split at h
      · rcases List.mem_cons.1 h with e | e
        · exact ⟨0, n, by omega, rfl, by assumption⟩
        · obtain ⟨j, x, e1, e2, e3⟩ := ih.1 e
          exact ⟨j + 1, x, by omega, e2, e3⟩
      · obtain ⟨j, x, e1, e2, e3⟩ := ih.1 h
        exact ⟨j + 1, x, by omega, e2, e3⟩
    · rintro ⟨j, x, e1, e2, e3⟩
      cases j with
      | zero =>
        simp at e2
        subst e2
        rw [if_pos e3]
        simp; omega
      | succ j =>
        have : w ∈ clF (i + 1) l := ih.2 ⟨j, x, by omega, by simpa using e2, e3⟩
        split
        · exact List.mem_cons_of_mem _ this
        · exact this

theorem mem_cl {w : Nat} {l : List Int} : w ∈ cl l ↔ ∃ x, l[w]? = some x ∧ 1 ≤ x := by
  unfold cl
  rw [mem_clF]
  constructor
  · rintro ⟨j, x, e1, e2, e3⟩
    have : w = j := by omega
    subst this
    exact ⟨x, e2, e3⟩
  · rintro ⟨x, e2, e3⟩
    exact ⟨w, x, by omega, e2, e3⟩

theorem clF_length_le (i : Nat) (l : List Int) : (clF i l).length ≤ l.length := by
  induction l generalizing i with
  | nil => simp [clF]
  | cons n l ih => simp only [clF]; split <;> simp [List.length_cons] <;> have := ih (i + 1) <;> omega

theorem clF_ge {i w : Nat} {l : List Int} (h : w ∈ clF i l) : i ≤ w := by
  obtain ⟨j, x, e, _⟩ := mem_clF.1 h
  omega

/-- Where a client loses its last operation, it leaves the row; else the row stays. -/
theorem clF_set (l : List Int) : ∀ (i at' w : Nat) (x : Int), (clF i l)[at']? = some (i + w) → l[w]? = some x → 1 ≤ x →
    clF i (l.set w (x - 1)) = if x = 1 then (clF i l).eraseIdx at' else clF i l := by
  induction l with
  | nil => intro i a w x h; simp [clF] at h
  | cons n l ih =>
    intro i a w x h hw hx
    cases w with
    | zero =>
      simp at hw
      subst hw
      simp only [clF, if_pos hx] at h
      have ha : a = 0 := by
        cases a with
        | zero => rfl
        | succ a =>
          simp at h
          have hm : i ∈ clF (i + 1) l := List.mem_of_getElem? h
          have := clF_ge hm
          omega
      subst ha
      simp only [List.set_cons_zero, clF, if_pos hx]
      by_cases e : n = 1
      · subst e
        rw [if_neg (by omega), if_pos rfl]
        simp
      · rw [if_pos (by omega), if_neg e]
    | succ w =>
      simp only [List.set_cons_succ, clF] at h ⊢
      have hw' : l[w]? = some x := by simpa using hw
      by_cases hn : 1 ≤ n
      · rw [if_pos hn] at h
        simp only [if_pos hn]
        cases a with
        | zero => simp at h
        | succ a =>
          have h' : (clF (i + 1) l)[a]? = some (i + 1 + w) := by
            have : i + (w + 1) = i + 1 + w := by omega
            rw [← this]; simpa using h
          rw [ih (i + 1) a w x h' hw' hx]
          split
          · simp
          · rfl
      · rw [if_neg hn] at h
        simp only [if_neg hn]
        have h' : (clF (i + 1) l)[a]? = some (i + 1 + w) := by
          have : i + (w + 1) = i + 1 + w := by omega
          rw [← this]; exact h
        exact ih (i + 1) a w x h' hw' hx

theorem cl_set {l : List Int} {a w : Nat} {x : Int} (h : (cl l)[a]? = some w) (hw : l[w]? = some x) (hx : 1 ≤ x) :
    cl (l.set w (x - 1)) = if x = 1 then (cl l).eraseIdx a else cl l := by
  have := clF_set l 0 a w x (by simpa [cl] using h) hw hx
  simpa [cl] using this

theorem tot_set {l : List Int} : ∀ {w : Nat} {x : Int}, l[w]? = some x → 1 ≤ x → tot (l.set w (x - 1)) = tot l - 1 := by
  induction l with
  | nil => intro w x h; simp at h
  | cons n l ih =>
    intro w x h hx
    cases w with
    | zero => simp at h; subst h; simp only [List.set_cons_zero, tot]; omega
    | succ w => simp only [List.set_cons_succ, tot]; rw [ih (by simpa using h) hx]; omega

theorem cl_pos {l : List Int} (h : 1 ≤ tot l) : 0 < (cl l).length := by
  rcases Nat.eq_zero_or_pos (cl l).length with h0 | h0
  · exfalso
    have hnil : cl l = [] := List.eq_nil_of_length_eq_zero h0
    have key : ∀ l' : List Int, (∀ (w : Nat) (x : Int), l'[w]? = some x → ¬ 1 ≤ x) → tot l' = 0 := by
      intro l'
      induction l' with
      | nil => intro _; rfl
      | cons n t ih =>
        intro hh
        have h1 := hh 0 n rfl
        have h2 := ih (fun w x hw => hh (w + 1) x (by simpa using hw))
        simp only [tot]; omega
    have := key l (fun w x hw hx => by
      have : w ∈ cl l := mem_cl.2 ⟨x, hw, hx⟩
      rw [hnil] at this
      cases this)
    omega
  · exact h0

/-- The place of the pick number i among n clients. -/
def place (ps : List Int) (i n : Nat) : Nat := match ps[i]? with
  | some p => (max 0 p).toNat % n
  | none => 0

theorem place_lt (ps : List Int) (i n : Nat) (hn : 0 < n) : place ps i n < n := by
  unfold place
  split
  · exact Nat.mod_lt _ hn
  · exact hn

/-- Who comes next. -/
def who (left ps : List Int) (i : Nat) : Nat := (cl left).getD (place ps i (cl left).length) 0
/-- What is left then. -/
def after (left ps : List Int) (i : Nat) : List Int := left.set (who left ps i) (left.getD (who left ps i) 0 - 1)

/-- The next k clients, from pick i on. -/
def ordF : Nat → Nat → List Int → List Int → List Nat
  | 0, _, _, _ => []
  | k + 1, i, left, ps => who left ps i :: ordF k (i + 1) (after left ps i) ps

/-- Who is when. -/
def ord (cs ps : List Int) : List Nat := if 65536 < tot cs then [] else ordF (tot cs).toNat 0 cs ps

theorem who_spec {left ps : List Int} {i : Nat} (h : 1 ≤ tot left) :
    ∃ x, (cl left)[place ps i (cl left).length]? = some (who left ps i) ∧ left[who left ps i]? = some x ∧ 1 ≤ x ∧ after left ps i = left.set (who left ps i) (x - 1) := by
  have hp := place_lt ps i _ (cl_pos h)
  have h1 : (cl left)[place ps i (cl left).length]? = some (who left ps i) := by
    unfold who
    rw [List.getD_eq_getElem?_getD, List.getElem?_eq_getElem hp]; rfl
  obtain ⟨x, hx, hx1⟩ := mem_cl.1 (List.mem_of_getElem? h1)
  refine ⟨x, h1, hx, hx1, ?_⟩
  unfold after
  rw [List.getD_eq_getElem?_getD, hx]; rfl

theorem ordF_length (k : Nat) : ∀ (i : Nat) (left ps : List Int), (ordF k i left ps).length = k := by
  induction k with
  | zero => intro i l p; rfl
  | succ k ih => intro i l p; simp [ordF, ih]

/-- The state behind k clients. -/
def leftF : Nat → Nat → List Int → List Int → List Int
  | 0, _, left, _ => left
  | k + 1, i, left, ps => leftF k (i + 1) (after left ps i) ps

theorem ordF_snoc (k : Nat) : ∀ (i : Nat) (left ps : List Int), ordF (k + 1) i left ps = ordF k i left ps ++ [who (leftF k i left ps) ps (i + k)] := by
  induction k with
  | zero => intro i l p; simp [ordF, leftF]
  | succ k ih =>
    intro i l p
    rw [ordF, ih, ordF, leftF, List.cons_append]
    have : i + 1 + k = i + (k + 1) := by omega
    rw [this]
theorem leftF_snoc (k : Nat) : ∀ (i : Nat) (left ps : List Int), leftF (k + 1) i left ps = after (leftF k i left ps) ps (i + k) := by
  induction k with
  | zero => intro i l p; simp [leftF]
  | succ k ih =>
    intro i l p
    rw [leftF, ih, leftF]
    have : i + 1 + k = i + (k + 1) := by omega
    rw [this]

theorem after_tot {left ps : List Int} {i : Nat} (h : 1 ≤ tot left) : tot (after left ps i) = tot left - 1 ∧ (after left ps i).length = left.length := by
  obtain ⟨x, _, h2, h3, h4⟩ := who_spec (ps := ps) (i := i) h
  rw [h4]
  exact ⟨tot_set h2 h3, by simp⟩

theorem leftF_tot (k : Nat) : ∀ (i : Nat) (left ps : List Int), (k : Int) ≤ tot left → tot (leftF k i left ps) = tot left - k ∧ (leftF k i left ps).length = left.length := by
  induction k with
  | zero => intro i l p h; simp [leftF]
  | succ k ih =>
    intro i l p h
    have h1 := after_tot (ps := p) (i := i) (left := l) (by omega)
    have h2 := ih (i + 1) (after l p i) p (by omega)
    rw [leftF]
    refine ⟨by omega, by omega⟩

end Go.Proofs.Ytlnpjcamcefbkaa.Ro
