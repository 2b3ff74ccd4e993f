/- Rows in an arena, as plain lists: what laying and lifting a place does to a row. Nothing of the program. -/
namespace Go.Proofs.YtkeicfajlmhajaaGreat.Ar

/-- A place of an arena: its value, its neighbours, whether it is there. -/
structure Lk where
  v : ByteArray
  prev : Nat
  next : Nat
  there : Bool

def Lk.zero : Lk := ⟨ByteArray.empty, 0, 0, false⟩

/-- The place h. -/
def at' (L : List Lk) (h : Nat) : Lk := L.getD h Lk.zero

theorem at_modify_self {L : List Lk} {h : Nat} {f : Lk → Lk} (hh : h < L.length) : at' (L.modify h f) h = f (at' L h) := by
  simp [at', List.getD_eq_getElem?_getD, hh]
theorem at_modify_ne {L : List Lk} {h g : Nat} {f : Lk → Lk} (hne : h ≠ g) : at' (L.modify h f) g = at' L g := by
  simp [at', List.getD_eq_getElem?_getD, hne]

def setNext (L : List Lk) (h n : Nat) : List Lk := L.modify h fun k => { k with next := n }
def setPrev (L : List Lk) (h p : Nat) : List Lk := L.modify h fun k => { k with prev := p }

@[simp] theorem length_setNext (L : List Lk) (h n : Nat) : (setNext L h n).length = L.length := by simp [setNext]
@[simp] theorem length_setPrev (L : List Lk) (h n : Nat) : (setPrev L h n).length = L.length := by simp [setPrev]

theorem at_setNext {L : List Lk} {h g n : Nat} (hh : h < L.length) : at' (setNext L h n) g = { at' L g with next := if h = g then n else (at' L g).next } := by
  unfold setNext
  by_cases e : h = g
  · subst e; rw [at_modify_self hh, if_pos rfl]
  · rw [at_modify_ne e, if_neg e]
theorem at_setPrev {L : List Lk} {h g n : Nat} (hh : h < L.length) : at' (setPrev L h n) g = { at' L g with prev := if h = g then n else (at' L g).prev } := by
  unfold setPrev
  by_cases e : h = g
  · subst e; rw [at_modify_self hh, if_pos rfl]
  · rw [at_modify_ne e, if_neg e]

/-- The row a, hs.., b is chained. -/
def Chain (L : List Lk) : Nat → List Nat → Nat → Prop
  | a, [], b => (at' L a).next = b ∧ (at' L b).prev = a
  | a, h :: t, b => (at' L a).next = h ∧ (at' L h).prev = a ∧ Chain L h t b

theorem chain_append {L : List Lk} {p s : List Nat} {h : Nat} : ∀ {a b : Nat}, Chain L a (p ++ h :: s) b ↔ Chain L a p h ∧ Chain L h s b := by
  induction p with
  | nil => intro a b; simp [Chain, and_assoc]
  | cons x p ih => intro a b; simp [Chain, ih, and_assoc]

/-- A chain looks at the next of a :: hs and at the prev of hs ++ [b] alone. -/
theorem chain_congr {L M : List Lk} {hs : List Nat} : ∀ {a b : Nat}, (∀ g ∈ a :: hs, (at' M g).next = (at' L g).next) → (∀ g ∈ hs ++ [b], (at' M g).prev = (at' L g).prev) →
    Chain L a hs b → Chain M a hs b := by
  induction hs with
  | nil =>
    intro a b hn hp h
    exact ⟨by rw [hn a (by simp)]; exact h.1, by rw [hp b (by simp)]; exact h.2⟩
  | cons x t ih =>
    intro a b hn hp h
    exact ⟨by rw [hn a (by simp)]; exact h.1, by rw [hp x (by simp)]; exact h.2.1,
      ih (fun g hg => hn g (List.mem_cons_of_mem _ hg)) (fun g hg => hp g (List.mem_cons_of_mem _ hg)) h.2.2⟩

theorem chain_first {L : List Lk} {a b : Nat} {hs : List Nat} (h : Chain L a hs b) : (at' L a).next = hs.headD b := by
  cases hs <;> exact h.1
theorem getLastD_cons' (x a : Nat) (t : List Nat) : (x :: t).getLastD a = t.getLastD x := by cases t <;> simp [List.getLastD]
theorem chain_last {L : List Lk} {hs : List Nat} : ∀ {a b : Nat}, Chain L a hs b → (at' L b).prev = hs.getLastD a := by
  induction hs with
  | nil => intro a b h; exact h.2
  | cons x t ih => intro a b h; rw [ih h.2.2, getLastD_cons']
theorem getLastD_mem (a : Nat) (hs : List Nat) : hs.getLastD a ∈ a :: hs := by
  induction hs generalizing a with
  | nil => simp [List.getLastD]
  | cons x t ih => rw [getLastD_cons']; exact List.mem_cons_of_mem _ (ih x)
theorem headD_mem (b : Nat) (hs : List Nat) : hs.headD b ∈ hs ++ [b] := by cases hs <;> simp

/-- The end of a row is bent to y. -/
theorem chain_redirect {L M : List Lk} {y h : Nat} {p : List Nat} : ∀ {a : Nat}, (a :: p).Nodup → Chain L a p h →
    (∀ g ∈ a :: p, g ≠ p.getLastD a → (at' M g).next = (at' L g).next) → (at' M (p.getLastD a)).next = y →
    (∀ g ∈ p, (at' M g).prev = (at' L g).prev) → (at' M y).prev = p.getLastD a → Chain M a p y := by
  induction p with
  | nil => intro a _ _ _ h1 _ h2; exact ⟨h1, h2⟩
  | cons x t ih =>
    intro a hnd hc hn h1 hp h2
    rw [getLastD_cons'] at hn h1 h2
    have hnd' := List.nodup_cons.1 hnd
    refine ⟨?_, ?_, ih hnd'.2 hc.2.2 (fun g hg => hn g (List.mem_cons_of_mem _ hg)) h1 (fun g hg => hp g (List.mem_cons_of_mem _ hg)) h2⟩
    · rw [hn a (List.mem_cons_self ..) (by rintro e; exact hnd'.1 (e ▸ getLastD_mem x t))]; exact hc.1
    · rw [hp x (List.mem_cons_self ..)]; exact hc.2.1

/-- What lays does: h stands between p and n. -/
def lays (L : List Lk) (h p n : Nat) : List Lk := setPrev (setNext (setNext (setPrev L h p) h n) p h) n h
/-- What lifts does: h's neighbours stand side by side. -/
def lifts (L : List Lk) (h : Nat) : List Lk := setPrev (setNext L (at' L h).prev (at' L h).next) (at' L h).next (at' L h).prev

@[simp] theorem length_lays (L : List Lk) (h p n : Nat) : (lays L h p n).length = L.length := by simp [lays]
@[simp] theorem length_lifts (L : List Lk) (h : Nat) : (lifts L h).length = L.length := by simp [lifts]

theorem at_lays {L : List Lk} {h p n g : Nat} (hh : h < L.length) (hp : p < L.length) (hn : n < L.length) :
    at' (lays L h p n) g = { at' L g with
      next := if p = g then h else if h = g then n else (at' L g).next
      prev := if n = g then h else if h = g then p else (at' L g).prev } := by
  unfold lays
  rw [at_setPrev (by simpa), at_setNext (by simpa), at_setNext (by simpa), at_setPrev hh]
theorem at_lifts {L : List Lk} {h g : Nat} (hp : (at' L h).prev < L.length) (hn : (at' L h).next < L.length) :
    at' (lifts L h) g = { at' L g with
      next := if (at' L h).prev = g then (at' L h).next else (at' L g).next
      prev := if (at' L h).next = g then (at' L h).prev else (at' L g).prev } := by
  unfold lifts
  rw [at_setPrev (by simpa), at_setNext hp]

/-- An arena whose row is hs, whose free places are free. -/
structure Ok (L : List Lk) (free hs : List Nat) : Prop where
  chain : Chain L 0 hs 0
  nodup : (0 :: hs ++ free).Nodup
  lt : ∀ h ∈ hs, h < L.length ∧ (at' L h).there = true
  freelt : ∀ h ∈ free, h < L.length ∧ (at' L h).there = false
  size : L.length = 1 + hs.length + free.length

theorem Ok.pos {L : List Lk} {free hs : List Nat} (h : Ok L free hs) : 0 < L.length := by have := h.size; omega

/-- The values of a row. -/
def vals (L : List Lk) (hs : List Nat) : List ByteArray := hs.map fun h => (at' L h).v

theorem ok_new : Ok [Lk.zero] [] [] :=
  ⟨⟨rfl, rfl⟩, by simp, by simp, by simp, rfl⟩

theorem Ok.lifts {L : List Lk} {free p s : List Nat} {h : Nat} (ok : Ok L free (p ++ h :: s)) :
    (at' L h).prev = p.getLastD 0 ∧ (at' L h).next = s.headD 0 ∧ (at' L h).prev < L.length ∧ (at' L h).next < L.length ∧
    Chain (lifts L h) 0 (p ++ s) 0 := by
  obtain ⟨c1, c2⟩ := chain_append.1 ok.chain
  have e1 := chain_last c1
  have e2 := chain_first c2
  have hnd := ok.nodup
  have hpos := ok.pos
  have l1 : (at' L h).prev < L.length := by
    rw [e1]
    rcases List.mem_cons.1 (getLastD_mem 0 p) with e | e
    · omega
    · exact (ok.lt _ (List.mem_append_left _ e)).1
  have l2 : (at' L h).next < L.length := by
    rw [e2]
    rcases List.mem_append.1 (headD_mem 0 s) with e | e
    · exact (ok.lt _ (List.mem_append_right _ (List.mem_cons_of_mem _ e))).1
    · rw [List.mem_singleton] at e; omega
  refine ⟨e1, e2, l1, l2, ?_⟩
  obtain ⟨nb, hnb⟩ : ∃ nb, nb = s.headD 0 := ⟨_, rfl⟩
  have lookn : ∀ g, (at' (Ar.lifts L h) g).next = if p.getLastD 0 = g then nb else (at' L g).next := fun g => by rw [at_lifts l1 l2, e1, e2, hnb]
  have lookp : ∀ g, (at' (Ar.lifts L h) g).prev = if nb = g then p.getLastD 0 else (at' L g).prev := fun g => by rw [at_lifts l1 l2, e1, e2, hnb]
  simp only [List.cons_append, List.append_assoc, List.nodup_cons, List.nodup_append, List.mem_append, List.mem_cons, not_or] at hnd
  obtain ⟨⟨n0p, n0h, n0s, -⟩, np, ⟨⟨nhs, nhf⟩, ns, -, -⟩, npx⟩ := hnd
  cases s with
  | nil =>
    have hnb : nb = 0 := hnb
    subst hnb
    rw [List.append_nil]
    refine chain_redirect (L := L) (h := h) (List.nodup_cons.2 ⟨n0p, np⟩) c1 ?_ ?_ ?_ ?_
    · intro g _ hg; rw [lookn, if_neg (fun e => hg e.symm)]
    · rw [lookn, if_pos rfl]
    · intro g hg; rw [lookp, if_neg (by rintro rfl; exact n0p hg)]
    · rw [lookp, if_pos rfl]
  | cons y t =>
    have hnb : nb = y := hnb
    subst hnb
    have ny : nb ∉ t := (List.nodup_cons.1 ns).1
    have y0 : nb ≠ 0 := fun e => n0s (by simp [e])
    rw [chain_append]
    constructor
    · refine chain_redirect (L := L) (h := h) (List.nodup_cons.2 ⟨n0p, np⟩) c1 ?_ ?_ ?_ ?_
      · intro g _ hg; rw [lookn, if_neg (fun e => hg e.symm)]
      · rw [lookn, if_pos rfl]
      · intro g hg; rw [lookp, if_neg]; rintro rfl; exact npx nb hg nb (Or.inr (Or.inl (List.mem_cons_self ..))) rfl
      · rw [lookp, if_pos rfl]
    · refine chain_congr ?_ ?_ c2.2.2
      · intro g hg; rw [lookn, if_neg]
        intro e
        rcases List.mem_cons.1 (getLastD_mem 0 p) with e' | e'
        · rw [e'] at e; subst e; exact n0s hg
        · exact npx _ e' g (Or.inr (Or.inl hg)) e
      · intro g hg; rw [lookp, if_neg]; rintro rfl
        rcases List.mem_append.1 hg with e | e
        · exact ny e
        · rw [List.mem_singleton] at e; exact y0 e


theorem at_append_old {L : List Lk} {g : Nat} {x : Lk} (h : g < L.length) : at' (L ++ [x]) g = at' L g := by
  simp [at', List.getD_eq_getElem?_getD, List.getElem?_append_left h]
theorem at_append_new {L : List Lk} {x : Lk} : at' (L ++ [x]) L.length = x := by
  simp [at', List.getD_eq_getElem?_getD]
theorem at_set {L : List Lk} {h g : Nat} {x : Lk} (hh : h < L.length) : at' (L.set h x) g = if h = g then x else at' L g := by
  unfold at'
  rw [List.getD_eq_getElem?_getD, List.getD_eq_getElem?_getD]
  by_cases e : h = g
  · subst e; rw [List.getElem?_set_self hh, if_pos rfl]; rfl
  · rw [List.getElem?_set_ne e, if_neg e]

/-- A fresh link. -/
def fresh (v : ByteArray) : Lk := ⟨v, 0, 0, true⟩

/-- What is taken: the handle, the arena, the free ones. -/
def took (L : List Lk) (free : List Nat) (v : ByteArray) : Nat × List Lk × List Nat :=
  match free.getLast? with
  | some h => (h, L.set h (fresh v), free.dropLast)
  | none => (L.length, L ++ [fresh v], [])

structure Took (L : List Lk) (free hs : List Nat) (v : ByteArray) (h : Nat) (L' : List Lk) (free' : List Nat) : Prop where
  lt : h < L'.length
  ge : L.length ≤ L'.length
  new : h ∉ hs
  pos : h ≠ 0
  self : at' L' h = fresh v
  others : ∀ g, g ∈ 0 :: hs → at' L' g = at' L g
  free : ∀ g ∈ free', g < L'.length ∧ (at' L' g).there = false
  nodup : (0 :: (hs ++ [h]) ++ free').Nodup
  size : L'.length = 1 + (hs.length + 1) + free'.length
  few : ∀ M, L.length ≤ M → hs.length + 2 ≤ M → L'.length ≤ M

theorem Ok.take {L : List Lk} {free hs : List Nat} (ok : Ok L free hs) (v : ByteArray) :
    Took L free hs v (took L free v).1 (took L free v).2.1 (took L free v).2.2 := by
  have hnd := ok.nodup
  have hsz := ok.size
  unfold Ar.took
  cases hf : free.getLast? with
  | none =>
    have hf0 : free = [] := by simpa using hf
    subst hf0
    simp only [List.length_nil, Nat.add_zero] at hsz
    have hlt : ∀ g ∈ 0 :: hs, g < L.length := by
      intro g hg
      rcases List.mem_cons.1 hg with rfl | hg
      · exact ok.pos
      · exact (ok.lt g hg).1
    show Took L [] hs v L.length (L ++ [fresh v]) []
    refine ⟨by simp, by simp, fun h => ?_, by have := ok.pos; omega, at_append_new, fun g hg => at_append_old (hlt g hg), by simp, ?_, by simp; omega, fun M h1 h2 => by simp; omega⟩
    · have := hlt _ (List.mem_cons_of_mem _ h); omega
    · simp only [List.append_nil] at hnd ⊢
      rw [← List.cons_append, List.nodup_append]
      refine ⟨hnd, by simp, ?_⟩
      rintro a ha b hb rfl
      rw [List.mem_singleton] at hb
      have := hlt a ha
      omega
  | some h =>
    have hmem : h ∈ free := List.mem_of_getLast? hf
    have hfr : free = free.dropLast ++ [h] := by
      rw [List.getLast?_eq_some_iff] at hf
      obtain ⟨ys, rfl⟩ := hf
      simp
    have hlt := ok.freelt h hmem
    have h0 : h ∉ 0 :: hs := fun hc => by
      rw [List.nodup_append] at hnd
      exact hnd.2.2 h hc h hmem rfl
    have hp : (0 :: hs ++ free).Perm (0 :: (hs ++ [h]) ++ free.dropLast) := by
      conv => lhs; rw [hfr]
      simp only [List.cons_append, List.append_assoc]
      refine List.Perm.cons _ (List.Perm.append_left _ ?_)
      exact List.perm_append_comm
    have hnd' := hp.nodup_iff.1 hnd
    have hfl : free.length = free.dropLast.length + 1 := by
      have := congrArg List.length hfr
      simpa using this
    show Took L free hs v h (L.set h (fresh v)) free.dropLast
    refine ⟨by simp; exact hlt.1, by simp, fun hc => h0 (List.mem_cons_of_mem _ hc), fun e => h0 (by rw [e]; exact List.mem_cons_self ..), by rw [at_set hlt.1, if_pos rfl], fun g hg => ?_, fun g hg => ?_, hnd', by simp only [List.length_set]; omega, fun M h1 h2 => by simp; exact h1⟩
    · rw [at_set hlt.1, if_neg (by rintro rfl; exact h0 hg)]
    · have hg2 := ok.freelt g (List.dropLast_subset _ hg)
      refine ⟨by simpa using hg2.1, ?_⟩
      rw [at_set hlt.1, if_neg]
      · exact hg2.2
      · rintro rfl
        rw [List.nodup_append] at hnd'
        exact hnd'.2.2 h (by simp) h hg rfl

/-- The row behind a push at the back. -/
def pushed (L : List Lk) (free : List Nat) (v : ByteArray) : List Lk :=
  lays (took L free v).2.1 (took L free v).1 (at' (took L free v).2.1 0).prev 0

theorem Ok.push {L : List Lk} {free hs : List Nat} (ok : Ok L free hs) (v : ByteArray) :
    Ok (pushed L free v) (took L free v).2.2 (hs ++ [(took L free v).1]) ∧
    (∀ g ∈ hs, (at' (pushed L free v) g).v = (at' L g).v) ∧ (at' (pushed L free v) (took L free v).1).v = v ∧
    (at' (took L free v).2.1 0).prev < (took L free v).2.1.length ∧ 0 < (took L free v).2.1.length ∧ (pushed L free v).length = (took L free v).2.1.length := by
  have tk := ok.take v
  unfold pushed
  generalize (took L free v).1 = h at *
  generalize (took L free v).2.1 = L1 at *
  generalize (took L free v).2.2 = free' at *
  have h0 : 0 < L1.length := by have := tk.size; omega
  have hch1 : Chain L1 0 hs 0 := chain_congr (fun g hg => by rw [tk.others g hg]) (fun g hg => by
    rw [tk.others g (by rcases List.mem_append.1 hg with e | e; exact List.mem_cons_of_mem _ e; rw [List.mem_singleton] at e; simp [e])]) ok.chain
  have ep := chain_last hch1
  have hpm : (at' L1 0).prev ∈ 0 :: hs := by rw [ep]; exact getLastD_mem 0 hs
  have hlt1 : ∀ g ∈ 0 :: hs, g < L1.length := by
    intro g hg
    rcases List.mem_cons.1 hg with rfl | hg
    · exact h0
    · exact Nat.lt_of_lt_of_le (ok.lt g hg).1 tk.ge
  have hpl := hlt1 _ hpm
  have hnh : h ∉ 0 :: hs := fun hc => by
    rcases List.mem_cons.1 hc with e | e
    · exact tk.pos e
    · exact tk.new e
  generalize (at' L1 0).prev = p at *
  have lookn : ∀ g, (at' (lays L1 h p 0) g).next = if p = g then h else if h = g then 0 else (at' L1 g).next := fun g => by rw [at_lays tk.lt hpl h0]
  have lookp : ∀ g, (at' (lays L1 h p 0) g).prev = if 0 = g then h else if h = g then p else (at' L1 g).prev := fun g => by rw [at_lays tk.lt hpl h0]
  have looks : ∀ g, (at' (lays L1 h p 0) g).v = (at' L1 g).v ∧ (at' (lays L1 h p 0) g).there = (at' L1 g).there := fun g => by rw [at_lays tk.lt hpl h0]; exact ⟨rfl, rfl⟩
  have hndhs : (0 :: hs).Nodup := by
    have := tk.nodup
    simp only [List.cons_append, List.append_assoc, List.nodup_cons, List.nodup_append, List.mem_append, not_or] at this
    exact List.nodup_cons.2 ⟨this.1.1, this.2.1⟩
  have h0hs := (List.nodup_cons.1 hndhs).1
  refine ⟨⟨?_, tk.nodup, ?_, ?_, by simpa using tk.size⟩, ?_, ?_, hpl, h0, by simp⟩
  · rw [chain_append]
    constructor
    · refine chain_redirect (L := L1) (h := 0) hndhs hch1 ?_ ?_ ?_ ?_
      · intro g hg hne
        rw [lookn, if_neg (by rw [ep]; exact fun e => hne e.symm), if_neg (by rintro rfl; exact hnh hg)]
      · rw [lookn, ← ep, if_pos rfl]
      · intro g hg
        rw [lookp, if_neg (by rintro rfl; exact h0hs hg), if_neg (by rintro rfl; exact tk.new hg)]
      · rw [lookp, if_neg (fun e => tk.pos e.symm), if_pos rfl, ep]
    · refine ⟨?_, ?_⟩
      · rw [lookn, if_neg (by rintro e; rw [← e] at hnh; exact hnh hpm), if_pos rfl]
      · rw [lookp, if_pos rfl]
  · intro g hg
    rw [length_lays, (looks g).2]
    rcases List.mem_append.1 hg with e | e
    · rw [tk.others g (List.mem_cons_of_mem _ e)]
      exact ⟨hlt1 g (List.mem_cons_of_mem _ e), (ok.lt g e).2⟩
    · rw [List.mem_singleton] at e
      subst e
      rw [tk.self]
      exact ⟨tk.lt, rfl⟩
  · intro g hg
    rw [length_lays, (looks g).2]
    exact tk.free g hg
  · intro g hg
    rw [(looks g).1, tk.others g (List.mem_cons_of_mem _ hg)]
  · rw [(looks h).1, tk.self]; rfl

/-- The row behind a removal. -/
def removed (L : List Lk) (h : Nat) : List Lk := (lifts L h).set h Lk.zero

theorem Ok.remove {L : List Lk} {free p s : List Nat} {h : Nat} (ok : Ok L free (p ++ h :: s)) :
    Ok (removed L h) (free ++ [h]) (p ++ s) ∧ ∀ g ∈ p ++ s, (at' (removed L h) g).v = (at' L g).v := by
  obtain ⟨e1, e2, l1, l2, hch⟩ := ok.lifts
  have hh := (ok.lt h (by simp)).1
  have hnd := ok.nodup
  have hperm : (0 :: (p ++ h :: s) ++ free).Perm (0 :: (p ++ s) ++ (free ++ [h])) := by
    simp only [List.cons_append, List.append_assoc]
    refine List.Perm.cons _ (List.Perm.append_left _ ?_)
    have : (h :: (s ++ free)).Perm ((s ++ free) ++ [h]) := (List.perm_append_singleton h _).symm
    simpa [List.append_assoc] using this
  have hnd' := hperm.nodup_iff.1 hnd
  have hn : h ∉ 0 :: (p ++ s) := fun hc => by
    rw [List.nodup_append] at hnd'
    exact hnd'.2.2 h hc h (by simp) rfl
  have hne : ∀ g ∈ 0 :: (p ++ s), at' (removed L h) g = at' (Ar.lifts L h) g := fun g hg => by
    unfold removed
    rw [at_set (by simpa using hh), if_neg (by rintro rfl; exact hn hg)]
  have looks : ∀ g, (at' (Ar.lifts L h) g).v = (at' L g).v ∧ (at' (Ar.lifts L h) g).there = (at' L g).there := fun g => by rw [at_lifts l1 l2]; exact ⟨rfl, rfl⟩
  refine ⟨⟨?_, hnd', ?_, ?_, ?_⟩, ?_⟩
  · refine chain_congr (fun g hg => by rw [hne g hg]) (fun g hg => ?_) hch
    rw [hne g (by rcases List.mem_append.1 hg with e | e; exact List.mem_cons_of_mem _ e; rw [List.mem_singleton] at e; simp [e])]
  · intro g hg
    rw [hne g (List.mem_cons_of_mem _ hg), (looks g).2]
    have := ok.lt g (by
      rcases List.mem_append.1 hg with e | e
      · exact List.mem_append_left _ e
      · exact List.mem_append_right _ (List.mem_cons_of_mem _ e))
    exact ⟨by simpa [removed] using this.1, this.2⟩
  · intro g hg
    rcases List.mem_append.1 hg with e | e
    · have hg2 := ok.freelt g e
      refine ⟨by simpa [removed] using hg2.1, ?_⟩
      unfold removed
      rw [at_set (by simpa using hh), if_neg, (looks g).2]
      · exact hg2.2
      · rintro rfl
        rw [List.nodup_append] at hnd
        exact hnd.2.2 h (by simp) h e rfl
    · rw [List.mem_singleton] at e
      subst e
      unfold removed
      rw [at_set (by simpa using hh), if_pos rfl]
      exact ⟨by simpa using hh, rfl⟩
  · have := ok.size
    simp only [removed, List.length_set, length_lifts, List.length_append, List.length_cons, List.length_nil] at *
    omega
  · intro g hg
    rw [hne g (List.mem_cons_of_mem _ hg), (looks g).1]

end Go.Proofs.YtkeicfajlmhajaaGreat.Ar
