/- Open addressing, as plain lists: nothing of the program. -/
namespace Go.Proofs.YtkeicfajlmhajaaGreat.Ix

/-- A place of a table. -/
inductive Pl (V : Type) where
  | empty : Pl V
  | gone : Pl V
  | full (k : ByteArray) (v : V) : Pl V

variable {V : Type}

def Pl.isFull : Pl V → Bool
  | .full _ _ => true
  | _ => false
def Pl.taken : Pl V → Bool
  | .empty => false
  | _ => true

def Has (T : List (Pl V)) (k : ByteArray) (v : V) : Prop := ∃ i : Nat, T[i]? = some (.full k v)

/-- A table: no key twice; each key can be reached from where it starts. -/
structure Tab (st : ByteArray → Nat → Nat) (T : List (Pl V)) : Prop where
  pos : 0 < T.length
  uniq : ∀ (i j : Nat) k v v', T[i]? = some (.full k v) → T[j]? = some (.full k v') → i = j
  reach : ∀ (i : Nat) k v, T[i]? = some (.full k v) → ∃ D, D < T.length ∧ i = (st k T.length + D) % T.length ∧ ∀ d, d < D → T[(st k T.length + d) % T.length]? ≠ some .empty

/-- So many places were looked at. -/
structure Probe (T : List (Pl V)) (s : Nat) (key : ByteArray) (j : Nat) (free : Option Nat) : Prop where
  passed : ∀ d, d < j → T[(s + d) % T.length]? ≠ some .empty ∧ ∀ v, T[(s + d) % T.length]? ≠ some (.full key v)
  none_ : free = none → ∀ d, d < j → T[(s + d) % T.length]? ≠ some .gone
  some_ : ∀ f, free = some f → ∃ d, d < j ∧ f = (s + d) % T.length ∧ T[f]? = some .gone

theorem Probe.start (T : List (Pl V)) (s : Nat) (key : ByteArray) : Probe T s key 0 none :=
  ⟨fun d h => by omega, fun _ d h => by omega, fun f h => by cases h⟩

theorem Probe.full {T : List (Pl V)} {s j : Nat} {key k : ByteArray} {v : V} {free : Option Nat} (h : Probe T s key j free) (hj : T[(s + j) % T.length]? = some (.full k v)) (hne : k ≠ key) :
    Probe T s key (j + 1) free := by
  refine ⟨fun d hd => ?_, fun hn d hd => ?_, fun f hf => ?_⟩
  · rcases Nat.lt_succ_iff_lt_or_eq.1 hd with h' | rfl
    · exact h.passed d h'
    · rw [hj]; exact ⟨by simp, fun v' => by simp [hne]⟩
  · rcases Nat.lt_succ_iff_lt_or_eq.1 hd with h' | rfl
    · exact h.none_ hn d h'
    · rw [hj]; simp
  · obtain ⟨d, hd, h2⟩ := h.some_ f hf; exact ⟨d, by omega, h2⟩

theorem Probe.gone_first {T : List (Pl V)} {s j : Nat} {key : ByteArray} (h : Probe T s key j none) (hj : T[(s + j) % T.length]? = some .gone) :
    Probe T s key (j + 1) (some ((s + j) % T.length)) := by
  refine ⟨fun d hd => ?_, fun hn => (by cases hn), fun f hf => ?_⟩
  · rcases Nat.lt_succ_iff_lt_or_eq.1 hd with h' | rfl
    · exact h.passed d h'
    · rw [hj]; exact ⟨by simp, fun v' => by simp⟩
  · cases hf; exact ⟨j, by omega, rfl, hj⟩

theorem Probe.gone_more {T : List (Pl V)} {s j f : Nat} {key : ByteArray} (h : Probe T s key j (some f)) (hj : T[(s + j) % T.length]? = some .gone) :
    Probe T s key (j + 1) (some f) := by
  refine ⟨fun d hd => ?_, fun hn => (by cases hn), fun f' hf => ?_⟩
  · rcases Nat.lt_succ_iff_lt_or_eq.1 hd with h' | rfl
    · exact h.passed d h'
    · rw [hj]; exact ⟨by simp, fun v' => by simp⟩
  · obtain ⟨d, hd, h2⟩ := h.some_ f' hf; exact ⟨d, by omega, h2⟩

theorem reach_all {n s e : Nat} (he : e < n) : ∃ d, d < n ∧ (s + d) % n = e := by
  have hn : 0 < n := by omega
  have hs := Nat.mod_lt s hn
  refine ⟨(e + (n - s % n)) % n, Nat.mod_lt _ hn, ?_⟩
  rw [Nat.add_mod, Nat.mod_mod, ← Nat.add_mod]
  have : s % n + (e + (n - s % n)) = e + n := by omega
  rw [← Nat.mod_add_mod, this, Nat.add_mod_right, Nat.mod_eq_of_lt he]

theorem Probe.lt {T : List (Pl V)} {s j e : Nat} {key : ByteArray} {free : Option Nat} (h : Probe T s key j free) (he : T[e]? = some .empty) : j < T.length := by
  have hel : e < T.length := by
    rcases Nat.lt_or_ge e T.length with h' | h'
    · exact h'
    · rw [List.getElem?_eq_none h'] at he; cases he
  rcases Nat.lt_or_ge j T.length with h' | h'
  · exact h'
  · obtain ⟨d, hd, hde⟩ := reach_all (s := s) hel
    exact absurd (hde ▸ he) (h.passed d (by omega)).1

/-- Where a key that is nowhere may be laid. -/
structure Spot (st : ByteArray → Nat → Nat) (T : List (Pl V)) (key : ByteArray) (i : Nat) : Prop where
  lt : i < T.length
  open_ : T[i]? = some .empty ∨ T[i]? = some .gone
  way : ∃ D, D < T.length ∧ i = (st key T.length + D) % T.length ∧ ∀ d, d < D → T[(st key T.length + d) % T.length]? ≠ some .empty
  nowhere : ∀ (i : Nat) v, T[i]? ≠ some (.full key v)

theorem Probe.nowhere {st : ByteArray → Nat → Nat} {T : List (Pl V)} {j : Nat} {key : ByteArray} {free : Option Nat} (tab : Tab st T) (h : Probe T (st key T.length) key j free) (hj : T[(st key T.length + j) % T.length]? = some .empty) :
    ∀ (i : Nat) v, T[i]? ≠ some (.full key v) := by
  intro i v hi
  obtain ⟨D, hD, rfl, hd⟩ := tab.reach i key v hi
  rcases Nat.lt_trichotomy D j with h' | h' | h'
  · exact (h.passed D h').2 v hi
  · subst h'; rw [hj] at hi; cases hi
  · exact hd j h' hj

theorem Probe.spot_here {st : ByteArray → Nat → Nat} {T : List (Pl V)} {j : Nat} {key : ByteArray} {free : Option Nat} (tab : Tab st T) (h : Probe T (st key T.length) key j free) (hj : T[(st key T.length + j) % T.length]? = some .empty) :
    Spot st T key ((st key T.length + j) % T.length) :=
  ⟨Nat.mod_lt _ tab.pos, .inl hj, ⟨j, h.lt hj, rfl, fun d hd => (h.passed d hd).1⟩, h.nowhere tab hj⟩

theorem Probe.spot_free {st : ByteArray → Nat → Nat} {T : List (Pl V)} {j f : Nat} {key : ByteArray} (tab : Tab st T) (h : Probe T (st key T.length) key j (some f)) (hj : T[(st key T.length + j) % T.length]? = some .empty) :
    Spot st T key f := by
  obtain ⟨d, hd, rfl, hg⟩ := h.some_ f rfl
  have hl := h.lt hj
  exact ⟨Nat.mod_lt _ tab.pos, .inr hg, ⟨d, by omega, rfl, fun d' hd' => (h.passed d' (by omega)).1⟩, h.nowhere tab hj⟩

theorem get_set {T : List (Pl V)} {i j : Nat} {p : Pl V} (hi : i < T.length) : (T.set i p)[j]? = if i = j then some p else T[j]? := by
  by_cases e : i = j
  · subst e; rw [List.getElem?_set_self hi, if_pos rfl]
  · rw [List.getElem?_set_ne e, if_neg e]

/-- A key is laid at its spot. -/
theorem Tab.lay {st : ByteArray → Nat → Nat} {T : List (Pl V)} {key : ByteArray} {i : Nat} {v : V} (tab : Tab st T) (sp : Spot st T key i) : Tab st (T.set i (.full key v)) := by
  have hi := sp.lt
  have keep : ∀ q : Nat, T[q]? ≠ some .empty → (T.set i (.full key v))[q]? ≠ some .empty := by
    intro q hq
    rw [get_set hi]
    split
    · simp
    · exact hq
  refine ⟨by simpa using tab.pos, fun a b k v1 v2 h1 h2 => ?_, fun a k v1 h1 => ?_⟩
  · rw [get_set hi] at h1 h2
    split at h1 <;> split at h2
    · omega
    · rename_i ea eb
      cases h1
      exact absurd h2 (sp.nowhere _ _)
    · cases h2
      exact absurd h1 (sp.nowhere _ _)
    · exact tab.uniq a b k v1 v2 h1 h2
  · rw [List.length_set]
    rw [get_set hi] at h1
    split at h1
    · rename_i e
      cases h1
      obtain ⟨D, hD, he, hd⟩ := sp.way
      exact ⟨D, hD, by rw [← e]; exact he, fun d h => keep _ (hd d h)⟩
    · obtain ⟨D, hD, he, hd⟩ := tab.reach a k v1 h1
      exact ⟨D, hD, he, fun d h => keep _ (hd d h)⟩

theorem Spot.has {st : ByteArray → Nat → Nat} {T : List (Pl V)} {key : ByteArray} {i : Nat} {v : V} (sp : Spot st T key i) (k : ByteArray) (u : V) :
    Has (T.set i (.full key v)) k u ↔ (k = key ∧ u = v) ∨ Has T k u := by
  have hi := sp.lt
  constructor
  · rintro ⟨j, hj⟩
    rw [get_set hi] at hj
    split at hj
    · cases hj; exact .inl ⟨rfl, rfl⟩
    · exact .inr ⟨j, hj⟩
  · rintro (⟨rfl, rfl⟩ | ⟨j, hj⟩)
    · exact ⟨i, by rw [get_set hi, if_pos rfl]⟩
    · refine ⟨j, ?_⟩
      rw [get_set hi, if_neg]
      · exact hj
      · rintro rfl
        rcases sp.open_ with h | h <;> rw [h] at hj <;> cases hj

/-- A key gets another value. -/
theorem Tab.upd {st : ByteArray → Nat → Nat} {T : List (Pl V)} {key : ByteArray} {i : Nat} {v u : V} (tab : Tab st T) (hi : T[i]? = some (.full key v)) : Tab st (T.set i (.full key u)) := by
  have hl : i < T.length := by
    rcases Nat.lt_or_ge i T.length with h' | h'
    · exact h'
    · rw [List.getElem?_eq_none h'] at hi; cases hi
  have back : ∀ (q : Nat) k w, (T.set i (.full key u))[q]? = some (.full k w) → ∃ w', T[q]? = some (.full k w') := by
    intro q k w hq
    rw [get_set hl] at hq
    split at hq
    · rename_i e; cases hq; subst e; exact ⟨v, hi⟩
    · exact ⟨w, hq⟩
  have keep : ∀ q : Nat, T[q]? ≠ some .empty → (T.set i (.full key u))[q]? ≠ some .empty := by
    intro q hq
    rw [get_set hl]
    split
    · simp
    · exact hq
  refine ⟨by simpa using tab.pos, fun a b k v1 v2 h1 h2 => ?_, fun a k v1 h1 => ?_⟩
  · obtain ⟨_, g1⟩ := back _ _ _ h1
    obtain ⟨_, g2⟩ := back _ _ _ h2
    exact tab.uniq _ _ _ _ _ g1 g2
  · obtain ⟨_, g1⟩ := back _ _ _ h1
    rw [List.length_set]
    obtain ⟨D, hD, he, hd⟩ := tab.reach _ _ _ g1
    exact ⟨D, hD, he, fun d h => keep _ (hd d h)⟩

theorem Tab.has_upd {st : ByteArray → Nat → Nat} {T : List (Pl V)} {key : ByteArray} {i : Nat} {v u : V} (tab : Tab st T) (hi : T[i]? = some (.full key v)) (k : ByteArray) (x : V) :
    Has (T.set i (.full key u)) k x ↔ (k = key ∧ x = u) ∨ (k ≠ key ∧ Has T k x) := by
  have hl : i < T.length := by
    rcases Nat.lt_or_ge i T.length with h' | h'
    · exact h'
    · rw [List.getElem?_eq_none h'] at hi; cases hi
  constructor
  · rintro ⟨j, hj⟩
    rw [get_set hl] at hj
    split at hj
    · cases hj; exact .inl ⟨rfl, rfl⟩
    · rename_i e
      refine .inr ⟨?_, j, hj⟩
      rintro rfl
      exact e (tab.uniq _ _ _ _ _ hi hj)
  · rintro (⟨rfl, rfl⟩ | ⟨hne, j, hj⟩)
    · exact ⟨i, by rw [get_set hl, if_pos rfl]⟩
    · refine ⟨j, ?_⟩
      rw [get_set hl, if_neg]
      · exact hj
      · rintro rfl
        rw [hi] at hj; cases hj; exact hne rfl

/-- A key goes. -/
theorem Tab.del {st : ByteArray → Nat → Nat} {T : List (Pl V)} {key : ByteArray} {i : Nat} {v : V} (tab : Tab st T) (hi : T[i]? = some (.full key v)) : Tab st (T.set i .gone) := by
  have hl : i < T.length := by
    rcases Nat.lt_or_ge i T.length with h' | h'
    · exact h'
    · rw [List.getElem?_eq_none h'] at hi; cases hi
  have back : ∀ (q : Nat) k w, (T.set i .gone)[q]? = some (.full k w) → T[q]? = some (.full k w) := by
    intro q k w hq
    rw [get_set hl] at hq
    split at hq
    · cases hq
    · exact hq
  have keep : ∀ q : Nat, T[q]? ≠ some .empty → (T.set i .gone)[q]? ≠ some .empty := by
    intro q hq
    rw [get_set hl]
    split
    · simp
    · exact hq
  refine ⟨by simpa using tab.pos, fun a b k v1 v2 h1 h2 => tab.uniq _ _ _ _ _ (back _ _ _ h1) (back _ _ _ h2), fun a k v1 h1 => ?_⟩
  rw [List.length_set]
  obtain ⟨D, hD, he, hd⟩ := tab.reach _ _ _ (back _ _ _ h1)
  exact ⟨D, hD, he, fun d h => keep _ (hd d h)⟩

theorem Tab.has_del {st : ByteArray → Nat → Nat} {T : List (Pl V)} {key : ByteArray} {i : Nat} {v : V} (tab : Tab st T) (hi : T[i]? = some (.full key v)) (k : ByteArray) (x : V) :
    Has (T.set i .gone) k x ↔ k ≠ key ∧ Has T k x := by
  have hl : i < T.length := by
    rcases Nat.lt_or_ge i T.length with h' | h'
    · exact h'
    · rw [List.getElem?_eq_none h'] at hi; cases hi
  constructor
  · rintro ⟨j, hj⟩
    rw [get_set hl] at hj
    split at hj
    · cases hj
    · rename_i e
      refine ⟨?_, j, hj⟩
      rintro rfl
      exact e (tab.uniq _ _ _ _ _ hi hj)
  · rintro ⟨hne, j, hj⟩
    refine ⟨j, ?_⟩
    rw [get_set hl, if_neg]
    · exact hj
    · rintro rfl
      rw [hi] at hj; cases hj; exact hne rfl

theorem countP_set {p : Pl V → Bool} : ∀ {T : List (Pl V)} {i : Nat} {x y : Pl V}, T[i]? = some x → (T.set i y).countP p + (if p x then 1 else 0) = T.countP p + (if p y then 1 else 0)
  | [], i, x, y, h => by simp at h
  | a :: T, 0, x, y, h => by
    simp only [List.getElem?_cons_zero, Option.some.injEq] at h
    subst h
    simp only [List.set_cons_zero, List.countP_cons]
    omega
  | a :: T, i + 1, x, y, h => by
    simp only [List.getElem?_cons_succ] at h
    have := countP_set (p := p) (y := y) h
    simp only [List.set_cons_succ, List.countP_cons]
    omega

theorem empty_of_count {T : List (Pl V)} (h : T.countP Pl.taken < T.length) : ∃ e : Nat, T[e]? = some .empty := by
  have : ¬ ∀ a ∈ T, a.taken = true := fun hc => by
    rw [List.countP_eq_length.2 hc] at h; omega
  have hex : ∃ a, a ∈ T ∧ ¬ a.taken = true := by
    apply Classical.byContradiction
    intro hn
    exact this fun a ha => Classical.byContradiction fun hc => hn ⟨a, ha, hc⟩
  obtain ⟨a, ha, hb⟩ := hex
  obtain ⟨e, he, hx⟩ := List.mem_iff_getElem.1 ha
  refine ⟨e, ?_⟩
  rw [List.getElem?_eq_getElem he, hx]
  cases a with
  | empty => rfl
  | gone => exact absurd rfl hb
  | full k v => exact absurd rfl hb

theorem full_le_taken (T : List (Pl V)) : T.countP Pl.isFull ≤ T.countP Pl.taken :=
  List.countP_mono_left (fun x _ h => by cases x <;> simp_all [Pl.isFull, Pl.taken])

/-- A table with nothing. -/
theorem tab_new (st : ByteArray → Nat → Nat) (n : Nat) (h : 0 < n) : Tab st (List.replicate n (Pl.empty : Pl V)) := by
  have hn : ∀ (i : Nat) k (v : V), (List.replicate n (Pl.empty : Pl V))[i]? ≠ some (.full k v) := by
    intro i k v hc
    rw [List.getElem?_replicate] at hc
    split at hc <;> simp at hc
  exact ⟨by simpa using h, fun i _ k v _ h1 _ => absurd h1 (hn i k v), fun i k v h1 => absurd h1 (hn i k v)⟩
theorem has_new (n : Nat) (k : ByteArray) (v : V) : ¬ Has (List.replicate n (Pl.empty : Pl V)) k v := by
  rintro ⟨i, hc⟩
  rw [List.getElem?_replicate] at hc
  split at hc <;> simp at hc
theorem count_new (n : Nat) : (List.replicate n (Pl.empty : Pl V)).countP Pl.isFull = 0 ∧ (List.replicate n (Pl.empty : Pl V)).countP Pl.taken = 0 := by
  constructor <;> simp [List.countP_replicate, Pl.isFull, Pl.taken]

/-- Has, one place more. -/
theorem has_take_succ {T : List (Pl V)} {j : Nat} (hj : j < T.length) (k : ByteArray) (v : V) : Has (T.take (j + 1)) k v ↔ Has (T.take j) k v ∨ T[j]? = some (.full k v) := by
  constructor
  · rintro ⟨i, hi⟩
    rw [List.getElem?_take] at hi
    split at hi
    · rename_i h
      rcases Nat.lt_succ_iff_lt_or_eq.1 h with h' | rfl
      · exact .inl ⟨i, by rw [List.getElem?_take, if_pos h']; exact hi⟩
      · exact .inr hi
    · cases hi
  · rintro (⟨i, hi⟩ | h)
    · rw [List.getElem?_take] at hi
      split at hi
      · exact ⟨i, by rw [List.getElem?_take, if_pos (by omega)]; exact hi⟩
      · cases hi
    · exact ⟨j, by rw [List.getElem?_take, if_pos (by omega)]; exact h⟩

theorem countP_take_succ {p : Pl V → Bool} {T : List (Pl V)} {j : Nat} {x : Pl V} (hj : T[j]? = some x) : (T.take (j + 1)).countP p = (T.take j).countP p + (if p x then 1 else 0) := by
  have hl : j < T.length := by
    rcases Nat.lt_or_ge j T.length with h' | h'
    · exact h'
    · rw [List.getElem?_eq_none h'] at hj; cases hj
  rw [List.take_succ_eq_append_getElem hl, List.countP_append]
  rw [List.getElem?_eq_getElem hl] at hj
  cases hj
  simp [List.countP_cons]

end Go.Proofs.YtkeicfajlmhajaaGreat.Ix
