/- S3-FIFO in plain words: what always holds; what each act does to those that are resident. -/
import Derived.Test.YtodiceafnkojiaaQa
namespace Go.Proofs.Ytodiceafnkojiaa.Eg
open Go.Proofs.Ytodiceafnkojiaa.Rw (upd upd_same upd_other less less_not less_same less_length)

/-- What always holds. -/
structure Inv (c : Nat) (K : Ks) : Prop where
  c1 : 1 ≤ c
  c2 : c ≤ 1024
  sep : Sep K.r
  room : len K ≤ c
  gh : (K.r 2).length ≤ kout c
  cnt : ∀ k, K.n k ≤ 3

theorem Inv.small {c : Nat} {K : Ks} (h : Inv c K) : ∀ r, r < 3 → ∀ k, k ∈ K.r r → k.size ≤ 40 := h.sep.small
theorem Inv.once {c : Nat} {K : Ks} (h : Inv c K) : ∀ r q, r < 3 → q < 3 → ∀ k, k ∈ K.r r → k ∈ K.r q → r = q := h.sep.once
theorem Inv.nod {c : Nat} {K : Ks} (h : Inv c K) : ∀ r, r < 3 → (K.r r).Nodup := h.sep.nod

theorem len_res (K : Ks) : (res K).length = len K := by simp [res, len]
theorem mem_res {K : Ks} {x : ByteArray} : x ∈ res K ↔ x ∈ K.r 0 ∨ x ∈ K.r 1 := by simp [res]
theorem has_iff {K : Ks} {key : ByteArray} : has K key = true ↔ key ∈ res K := by simp [has, res]
theorem kout_pos (c : Nat) : 1 ≤ kout c := by unfold kout; omega
theorem kin_pos (c : Nat) : 1 ≤ kin c := by unfold kin; omega
theorem res_nodup {c : Nat} {K : Ks} (h : Inv c K) : (res K).Nodup := by
  unfold res
  rw [List.nodup_append]
  refine ⟨h.nod 0 (by omega), h.nod 1 (by omega), ?_⟩
  rintro a ha b hb rfl
  have := h.once 0 1 (by omega) (by omega) a ha hb
  omega
theorem gho_res {c : Nat} {K : Ks} (h : Inv c K) {x : ByteArray} (hx : x ∈ gho K) : x ∉ res K := by
  rw [mem_res]
  rintro (h1 | h1)
  · have := h.once 2 0 (by omega) (by omega) x hx h1; omega
  · have := h.once 2 1 (by omega) (by omega) x hx h1; omega

theorem inv_init {c : Nat} (h1 : 1 ≤ c) (h2 : c ≤ 1024) : Inv c init :=
  ⟨h1, h2, ⟨fun _ _ _ _ _ h => by simp [init] at h, fun _ _ => List.nodup_nil, fun _ _ _ h => by simp [init] at h⟩, by simp [len, init], by simp [init], fun _ => by simp [init]⟩

theorem setn_le {n : ByteArray → Nat} {key : ByteArray} {m : Nat} (h : ∀ k, n k ≤ 3) (hm : m ≤ 3) : ∀ k, setn n key m k ≤ 3 := fun k => by
  unfold setn
  split
  · exact hm
  · exact h k
theorem setn_ne {n : ByteArray → Nat} {key k : ByteArray} {m : Nat} (h : k ≠ key) : setn n key m k = n k := if_neg h
theorem setn_same {n : ByteArray → Nat} {key : ByteArray} {m : Nat} : setn n key m key = m := if_pos rfl

/-- The head of row 0 becomes row 1's newest. -/
theorem move01 {K : Rs} (h : Sep K) {k : ByteArray} {t : List ByteArray} (h0 : K 0 = k :: t) : push K 1 k 0 = t ∧ push K 1 k 1 = K 1 ++ [k] ∧ push K 1 k 2 = K 2 := by
  have hk : k ∈ K 0 := by rw [h0]; exact List.mem_cons_self ..
  refine ⟨?_, ?_, ?_⟩
  · rw [push_ne _ _ (by omega), less_head h0 (h.nod 0 (by omega))]
  · rw [push_at, h.apart (r := 0) (by omega) hk (by omega) (by omega)]
  · rw [push_ne _ _ (by omega), h.apart (r := 0) (by omega) hk (by omega) (by omega)]
/-- The head of row 1 becomes its newest. -/
theorem move11 {K : Rs} (h : Sep K) {k : ByteArray} {t : List ByteArray} (h1 : K 1 = k :: t) : push K 1 k 0 = K 0 ∧ push K 1 k 1 = t ++ [k] ∧ push K 1 k 2 = K 2 := by
  have hk : k ∈ K 1 := by rw [h1]; exact List.mem_cons_self ..
  refine ⟨?_, ?_, ?_⟩
  · rw [push_ne _ _ (by omega), h.apart (r := 1) (by omega) hk (by omega) (by omega)]
  · rw [push_at, less_head h1 (h.nod 1 (by omega))]
  · rw [push_ne _ _ (by omega), h.apart (r := 1) (by omega) hk (by omega) (by omega)]
/-- The head of row 0 goes. -/
theorem goes0 {K : Rs} (h : Sep K) {k : ByteArray} {t : List ByteArray} (h0 : K 0 = k :: t) : less K k 0 = t ∧ less K k 1 = K 1 ∧ less K k 2 = K 2 := by
  have hk : k ∈ K 0 := by rw [h0]; exact List.mem_cons_self ..
  exact ⟨less_head h0 (h.nod 0 (by omega)), h.apart (r := 0) (by omega) hk (by omega) (by omega), h.apart (r := 0) (by omega) hk (by omega) (by omega)⟩
/-- The head of row 1 goes. -/
theorem goes1 {K : Rs} (h : Sep K) {k : ByteArray} {t : List ByteArray} (h1 : K 1 = k :: t) : less K k 0 = K 0 ∧ less K k 1 = t ∧ less K k 2 = K 2 := by
  have hk : k ∈ K 1 := by rw [h1]; exact List.mem_cons_self ..
  exact ⟨h.apart (r := 1) (by omega) hk (by omega) (by omega), less_head h1 (h.nod 1 (by omega)), h.apart (r := 1) (by omega) hk (by omega) (by omega)⟩

theorem less_less (K : Rs) (key : ByteArray) : less (less K key) key = less K key := by
  funext r
  exact less_same (less_not K key r)
theorem push_goes (K : Ks) (key : ByteArray) : push (goes K key).r 2 key = push K.r 2 key := by
  show push (less K.r key) 2 key = _
  unfold push
  rw [less_less]

section
variable {c : Nat} {K : Ks}

theorem Inv.head_small (h : Inv c K) {r : Nat} (hr : r < 3) {k : ByteArray} {t : List ByteArray} (h0 : K.r r = k :: t) : k.size ≤ 40 := h.small r hr k (by rw [h0]; exact List.mem_cons_self ..)

/-- The head of row 0 moves to row 1. -/
theorem inv_move01 (h : Inv c K) {k : ByteArray} {t : List ByteArray} (h0 : K.r 0 = k :: t) :
    Inv c (comes K 1 k 0) ∧ (comes K 1 k 0).r 0 = t ∧ (comes K 1 k 0).r 1 = K.r 1 ++ [k] ∧ (comes K 1 k 0).r 2 = K.r 2 ∧ len (comes K 1 k 0) = len K ∧ (∀ x, x ∈ res (comes K 1 k 0) ↔ x ∈ res K) := by
  obtain ⟨a0, a1, a2⟩ := move01 h.sep h0
  have a0' : (comes K 1 k 0).r 0 = t := a0
  have a1' : (comes K 1 k 0).r 1 = K.r 1 ++ [k] := a1
  have a2' : (comes K 1 k 0).r 2 = K.r 2 := a2
  have hl : len (comes K 1 k 0) = len K := by unfold len; rw [a0', a1', h0]; simp; omega
  refine ⟨⟨h.c1, h.c2, h.sep.push (h.head_small (by omega) h0), by rw [hl]; exact h.room, by rw [a2']; exact h.gh, setn_le h.cnt (by omega)⟩, a0', a1', a2', hl, ?_⟩
  intro x
  rw [mem_res, mem_res, a0', a1', h0]
  simp only [List.mem_append, List.mem_cons, List.not_mem_nil, or_false]
  constructor
  · rintro (a | a | a)
    · exact .inl (.inr a)
    · exact .inr a
    · exact .inl (.inl a)
  · rintro ((a | a) | a)
    · exact .inr (.inr a)
    · exact .inl a
    · exact .inr (.inl a)

theorem sum_map_congr {l : List ByteArray} {f g : ByteArray → Nat} (h : ∀ x ∈ l, f x = g x) : (l.map f).sum = (l.map g).sum := by rw [List.map_congr_left h]

/-- The head of row 1, which was used, becomes its newest; its count goes down. -/
theorem inv_move11 (h : Inv c K) {k : ByteArray} {t : List ByteArray} (h1 : K.r 1 = k :: t) {m : Nat} (hm : K.n k = m + 1) :
    Inv c (comes K 1 k m) ∧ (comes K 1 k m).r 0 = K.r 0 ∧ (comes K 1 k m).r 1 = t ++ [k] ∧ (comes K 1 k m).r 2 = K.r 2 ∧ len (comes K 1 k m) = len K ∧ (∀ x, x ∈ res (comes K 1 k m) ↔ x ∈ res K) ∧ weight (comes K 1 k m) + 1 = weight K := by
  obtain ⟨a0, a1, a2⟩ := move11 h.sep h1
  have a0' : (comes K 1 k m).r 0 = K.r 0 := a0
  have a1' : (comes K 1 k m).r 1 = t ++ [k] := a1
  have a2' : (comes K 1 k m).r 2 = K.r 2 := a2
  have hl : len (comes K 1 k m) = len K := by unfold len; rw [a0', a1', h1]; simp
  have hc := h.cnt k
  have hk : k ∉ t := by have := h.nod 1 (by omega); rw [h1, List.nodup_cons] at this; exact this.1
  refine ⟨⟨h.c1, h.c2, h.sep.push (h.head_small (by omega) h1), by rw [hl]; exact h.room, by rw [a2']; exact h.gh, setn_le h.cnt (by omega)⟩, a0', a1', a2', hl, ?_, ?_⟩
  · intro x
    rw [mem_res, mem_res, a0', a1', h1]
    simp only [List.mem_append, List.mem_cons, List.not_mem_nil, or_false]
    constructor
    · rintro (a | a | a)
      · exact .inl a
      · exact .inr (.inr a)
      · exact .inr (.inl a)
    · rintro (a | a | a)
      · exact .inl a
      · exact .inr (.inr a)
      · exact .inr (.inl a)
  · unfold weight
    rw [a1', h1]
    have e : (t.map (comes K 1 k m).n).sum = (t.map K.n).sum := sum_map_congr (fun x hx => by
      show setn K.n k m x = K.n x
      exact setn_ne (fun e => hk (e ▸ hx)))
    have e2 : (comes K 1 k m).n k = m := setn_same
    rw [List.map_append, List.sum_append, e, List.map_cons, List.map_nil, List.sum_cons, List.sum_nil, e2, List.map_cons, List.sum_cons, hm]
    omega

theorem mem_goes {K : Ks} {key x : ByteArray} : x ∈ res (goes K key) ↔ x ∈ res K ∧ x ≠ key := by
  rw [mem_res, mem_res]
  show x ∈ less K.r key 0 ∨ x ∈ less K.r key 1 ↔ _
  rw [mem_less, mem_less]
  constructor
  · rintro (⟨a, b⟩ | ⟨a, b⟩)
    · exact ⟨.inl a, b⟩
    · exact ⟨.inr a, b⟩
  · rintro ⟨a | a, b⟩
    · exact .inl ⟨a, b⟩
    · exact .inr ⟨a, b⟩
theorem goes_le (K : Ks) (key : ByteArray) : len (goes K key) ≤ len K := by
  have h1 := less_length K.r key 0
  have h2 := less_length K.r key 1
  show (less K.r key 0).length + (less K.r key 1).length ≤ _
  unfold len; omega
theorem inv_goes (h : Inv c K) (key : ByteArray) : Inv c (goes K key) :=
  ⟨h.c1, h.c2, h.sep.less key, Nat.le_trans (goes_le K key) h.room, Nat.le_trans (less_length K.r key 2) h.gh, setn_le h.cnt (by omega)⟩
theorem len_goes (h : Inv c K) {key : ByteArray} (hm : key ∈ res K) : len (goes K key) + 1 = len K := by
  have hs := h.sep
  show (less K.r key 0).length + (less K.r key 1).length + 1 = (K.r 0).length + (K.r 1).length
  rcases mem_res.1 hm with h0 | h0
  · rw [hs.apart (r := 0) (by omega) h0 (q := 1) (by omega) (by omega)]
    have hl := less_len_of_mem h0 (hs.nod 0 (by omega))
    show ((K.r 0).filter (fun k => decide (k ≠ key))).length + _ + 1 = _
    omega
  · rw [hs.apart (r := 1) (by omega) h0 (q := 0) (by omega) (by omega)]
    have hl := less_len_of_mem h0 (hs.nod 1 (by omega))
    show _ + ((K.r 1).filter (fun k => decide (k ≠ key))).length + 1 = _
    omega

/-- The rows with one more ghost, ahead of the loop that lets ghosts go. -/
def ghosted (K : Ks) (key : ByteArray) : Ks := ⟨push (goes K key).r 2 key, (goes K key).n⟩

theorem ghosted_rows (h : Inv c K) {k : ByteArray} {t : List ByteArray} (h0 : K.r 0 = k :: t) :
    (ghosted K k).r 0 = t ∧ (ghosted K k).r 1 = K.r 1 ∧ (ghosted K k).r 2 = K.r 2 ++ [k] := by
  obtain ⟨a0, a1, a2⟩ := goes0 h.sep h0
  show push (goes K k).r 2 k 0 = t ∧ push (goes K k).r 2 k 1 = K.r 1 ∧ push (goes K k).r 2 k 2 = K.r 2 ++ [k]
  rw [push_goes]
  exact ⟨by rw [push_ne _ _ (by omega)]; exact a0, by rw [push_ne _ _ (by omega)]; exact a1, by rw [push_at, a2]⟩
theorem ghosted_sep (h : Inv c K) {k : ByteArray} (hk : k.size ≤ 40) : Sep (ghosted K k).r := by
  show Sep (push (goes K k).r 2 k)
  rw [push_goes]
  exact h.sep.push hk

theorem trim_rows {K : Ks} (h : Sep K.r) (c : Nat) {q : Nat} (hq : q < 3) (h1 : q ≠ 2) : (trim c K).r q = K.r q := by
  unfold trim
  split
  · rename_i hl
    exact h.apart (r := 2) (by omega) (oldest_mem (by omega)) hq h1
  · rfl
theorem trim_2 {K : Ks} (h : Sep K.r) (c : Nat) : (trim c K).r 2 = if kout c < (K.r 2).length then (K.r 2).tail else K.r 2 := by
  unfold trim
  split
  · rename_i hl
    obtain ⟨t, ht⟩ := oldest_cons (K.r 2) (by omega)
    show less K.r (oldest (K.r 2)) 2 = _
    rw [less_head ht (h.nod 2 (by omega))]
    conv => rhs; rw [ht]
    rfl
  · rfl
theorem trim_sep {K : Ks} (h : Sep K.r) (c : Nat) : Sep (trim c K).r := by
  unfold Eg.trim
  split
  · exact h.less _
  · exact h
theorem trim_n (c : Nat) (K : Ks) : (trim c K).n = K.n := by
  unfold Eg.trim
  split <;> rfl

/-- The head of row 0 becomes a ghost. -/
theorem inv_toGhost (h : Inv c K) {k : ByteArray} {t : List ByteArray} (h0 : K.r 0 = k :: t) :
    Inv c (toGhost c K k) ∧ (toGhost c K k).r 0 = t ∧ (toGhost c K k).r 1 = K.r 1 ∧ len (toGhost c K k) + 1 = len K ∧ (∀ x, x ∈ res (toGhost c K k) ↔ x ∈ res K ∧ x ≠ k) ∧ (∀ x, x ∈ (toGhost c K k).r 2 → x ∈ K.r 2 ∨ x = k) ∧ (toGhost c K k).n = setn K.n k 0 := by
  have hk := h.head_small (by omega) h0
  obtain ⟨a0, a1, a2⟩ := ghosted_rows h h0
  have hs := ghosted_sep h hk
  have e : toGhost c K k = trim c (ghosted K k) := rfl
  have b0 := trim_rows hs c (q := 0) (by omega) (by omega)
  have b1 := trim_rows hs c (q := 1) (by omega) (by omega)
  have b2 := trim_2 hs c
  rw [a0] at b0
  rw [a1] at b1
  rw [a2] at b2
  rw [← e] at b0 b1 b2
  have hn : (toGhost c K k).n = setn K.n k 0 := trim_n c _
  have hl : len (toGhost c K k) + 1 = len K := by unfold len; rw [b0, b1, h0]; simp; omega
  have ht : k ∉ t := by have := h.nod 0 (by omega); rw [h0, List.nodup_cons] at this; exact this.1
  have h1 : k ∉ K.r 1 := fun hh => by have := h.once 0 1 (by omega) (by omega) k (by rw [h0]; exact List.mem_cons_self ..) hh; omega
  refine ⟨⟨h.c1, h.c2, trim_sep hs c, by have := h.room; omega, ?_, by rw [hn]; exact setn_le h.cnt (by omega)⟩, b0, b1, hl, ?_, ?_, hn⟩
  · rw [b2]
    have := h.gh
    split
    · simp; omega
    · rename_i hh
      rw [List.length_append, List.length_singleton] at hh ⊢
      omega
  · intro x
    rw [mem_res, mem_res, b0, b1, h0]
    simp only [List.mem_cons]
    constructor
    · rintro (a | a)
      · exact ⟨.inl (.inr a), fun e => ht (e ▸ a)⟩
      · exact ⟨.inr a, fun e => h1 (e ▸ a)⟩
    · rintro ⟨(a | a) | a, b⟩
      · exact absurd a b
      · exact .inl a
      · exact .inr a
  · intro x hx
    rw [b2] at hx
    have hx' : x ∈ K.r 2 ++ [k] := by
      split at hx
      · exact List.mem_of_mem_tail hx
      · exact hx
    simpa using hx'

/-- What fromSmall comes to. -/
theorem fromSmall_facts : ∀ (f : Nat) (K : Ks), Inv c K → (K.r 0).length < f →
    (∃ k L, fromSmall c f K = (some k, L) ∧ Inv c L ∧ k ∈ res K ∧ len L + 1 = len K ∧ (∀ x, x ∈ res L ↔ x ∈ res K ∧ x ≠ k)) ∨
    (∃ L, fromSmall c f K = (none, L) ∧ Inv c L ∧ L.r 0 = [] ∧ len L = len K ∧ (∀ x, x ∈ res L ↔ x ∈ res K))
  | 0, K, _, hf => by omega
  | f + 1, K, h, hf => by
    unfold fromSmall
    by_cases h0 : (K.r 0).length = 0
    · rw [if_pos h0]
      exact .inr ⟨K, rfl, h, List.length_eq_zero_iff.1 h0, rfl, fun _ => Iff.rfl⟩
    · rw [if_neg h0]
      obtain ⟨t, ht⟩ := oldest_cons (K.r 0) (by omega)
      obtain ⟨k, hk⟩ : ∃ k, k = oldest (K.r 0) := ⟨_, rfl⟩
      rw [← hk] at ht ⊢
      by_cases h1 : 1 < K.n k
      · rw [if_pos h1]
        obtain ⟨i1, i2, i3, i4, i5, i6⟩ := inv_move01 h ht
        rcases fromSmall_facts f (comes K 1 k 0) i1 (by rw [i2]; rw [ht] at hf; simp at hf; omega) with ⟨k', L, e1, e2, e3, e4, e5⟩ | ⟨L, e1, e2, e3, e4, e5⟩
        · exact .inl ⟨k', L, e1, e2, (i6 _).1 e3, by omega, fun x => by rw [e5, i6]⟩
        · exact .inr ⟨L, e1, e2, e3, by omega, fun x => by rw [e5, i6]⟩
      · rw [if_neg h1]
        obtain ⟨i1, i2, i3, i4, i5, -, -⟩ := inv_toGhost h ht
        exact .inl ⟨k, _, rfl, i1, mem_res.2 (.inl (by rw [ht]; exact List.mem_cons_self ..)), i4, i5⟩

/-- One step of fromMain. -/
theorem fromMain_goes {f : Nat} {K : Ks} (h : K.n (oldest (K.r 1)) = 0) : fromMain f K = (oldest (K.r 1), goes K (oldest (K.r 1))) := by
  cases f with
  | zero => rfl
  | succ f => unfold fromMain; rw [if_pos h]
theorem fromMain_next {f : Nat} {K : Ks} (h : K.n (oldest (K.r 1)) ≠ 0) : fromMain (f + 1) K = fromMain f (comes K 1 (oldest (K.r 1)) (K.n (oldest (K.r 1)) - 1)) := by
  conv => lhs; unfold fromMain
  rw [if_neg h]
theorem weight_head {K : Ks} {k : ByteArray} {t : List ByteArray} (h : K.r 1 = k :: t) : K.n k ≤ weight K := by
  unfold weight
  rw [h, List.map_cons, List.sum_cons]
  omega

/-- What fromMain comes to. -/
theorem fromMain_facts : ∀ (f : Nat) (K : Ks), Inv c K → 0 < (K.r 1).length → weight K ≤ f →
    ∃ k L, fromMain f K = (k, L) ∧ Inv c L ∧ k ∈ res K ∧ len L + 1 = len K ∧ (∀ x, x ∈ res L ↔ x ∈ res K ∧ x ≠ k)
  | f, K, h, hp, hw => by
    obtain ⟨t, ht⟩ := oldest_cons (K.r 1) hp
    obtain ⟨k, hk⟩ : ∃ k, k = oldest (K.r 1) := ⟨_, rfl⟩
    rw [← hk] at ht
    have hm : k ∈ res K := mem_res.2 (.inr (by rw [ht]; exact List.mem_cons_self ..))
    by_cases h0 : K.n k = 0
    · rw [fromMain_goes (by rw [← hk]; exact h0), ← hk]
      exact ⟨k, _, rfl, inv_goes h k, hm, len_goes h hm, fun x => mem_goes⟩
    · have hwk := weight_head ht
      match f, hw with
      | 0, hw => omega
      | f + 1, hw =>
        rw [fromMain_next (by rw [← hk]; exact h0), ← hk]
        obtain ⟨m, hmm⟩ : ∃ m, K.n k = m + 1 := ⟨K.n k - 1, by omega⟩
        have e : K.n k - 1 = m := by omega
        rw [e]
        obtain ⟨i1, i2, i3, i4, i5, i6, i7⟩ := inv_move11 h ht hmm
        obtain ⟨k', L, e1, e2, e3, e4, e5⟩ := fromMain_facts f (comes K 1 k m) i1 (by rw [i3]; simp) (by omega)
        exact ⟨k', L, e1, e2, (i6 _).1 e3, by omega, fun x => by rw [e5, i6]⟩

theorem evict_none' (h : len K = 0) : evict c K = (ByteArray.empty, false, K) := by unfold evict; rw [if_pos h]

/-- Evict, by what is resident and who is known. -/
theorem evict_facts (h : Inv c K) (h0 : 0 < len K) :
    ∃ k K', evict c K = (k, true, K') ∧ k ∈ res K ∧ Inv c K' ∧ len K' + 1 = len K ∧ (∀ x, x ∈ res K' ↔ x ∈ res K ∧ x ≠ k) ∧ k ∉ res K' := by
  have end' : ∀ {k : ByteArray} {K' : Ks}, (∀ x, x ∈ res K' ↔ x ∈ res K ∧ x ≠ k) → k ∉ res K' := fun h e => ((h _).1 e).2 rfl
  unfold evict
  rw [if_neg (by omega)]
  by_cases h1 : kin c < (K.r 0).length ∨ (K.r 1).length = 0
  · rw [if_pos h1]
    rcases fromSmall_facts ((K.r 0).length + 1) K h (by omega) with ⟨k, L, e1, e2, e3, e4, e5⟩ | ⟨L, e1, e2, e3, e4, e5⟩
    · rw [e1]
      exact ⟨k, L, rfl, e3, e2, e4, e5, end' e5⟩
    · rw [e1]
      have hp : 0 < (L.r 1).length := by unfold len at e4 h0; rw [e3] at e4; simp at e4; omega
      obtain ⟨k, M, f1, f2, f3, f4, f5⟩ := fromMain_facts (weight L) L e2 hp (Nat.le_refl _)
      show ∃ k K', ((fromMain (weight L) L).1, true, (fromMain (weight L) L).2) = (k, true, K') ∧ _
      rw [f1]
      have f5' : ∀ x, x ∈ res M ↔ x ∈ res K ∧ x ≠ k := fun x => by rw [f5, e5]
      exact ⟨k, M, rfl, (e5 _).1 f3, f2, by omega, f5', end' f5'⟩
  · rw [if_neg h1]
    obtain ⟨k, M, f1, f2, f3, f4, f5⟩ := fromMain_facts (weight K) K h (by omega) (Nat.le_refl _)
    rw [f1]
    exact ⟨k, M, rfl, f3, f2, f4, f5, end' f5⟩

/-- A key that is nowhere among the resident ones comes in, in a row with room. -/
theorem come (h : Inv c K) {r : Nat} (hr : r = 0 ∨ r = 1) {key : ByteArray} (hk : key.size ≤ 40) (hno : key ∉ res K) (hl : len K < c) :
    Inv c (comes K r key 0) ∧ (∀ x, x ∈ res (comes K r key 0) ↔ x = key ∨ x ∈ res K) ∧ len (comes K r key 0) = len K + 1 := by
  rw [mem_res] at hno
  have e0 : less K.r key 0 = K.r 0 := less_same (fun hh => hno (.inl hh))
  have e1 : less K.r key 1 = K.r 1 := less_same (fun hh => hno (.inr hh))
  have hlen : len (comes K r key 0) = len K + 1 := by
    show (push K.r r key 0).length + (push K.r r key 1).length = (K.r 0).length + (K.r 1).length + 1
    rcases hr with rfl | rfl
    · rw [push_at, push_ne _ _ (by omega), e0, e1]; simp; omega
    · rw [push_at, push_ne _ _ (by omega), e0, e1]; simp; omega
  refine ⟨⟨h.c1, h.c2, h.sep.push hk, by omega, ?_, setn_le h.cnt (by omega)⟩, ?_, hlen⟩
  · show (push K.r r key 2).length ≤ kout c
    rw [push_ne _ _ (by omega)]; exact Nat.le_trans (less_length ..) h.gh
  · intro x
    rw [mem_res, mem_res]
    show x ∈ push K.r r key 0 ∨ x ∈ push K.r r key 1 ↔ _
    rw [mem_push, mem_push]
    constructor
    · rintro ((⟨h1, -⟩ | ⟨-, rfl⟩) | (⟨h1, -⟩ | ⟨-, rfl⟩))
      · exact .inr (.inl h1)
      · exact .inl rfl
      · exact .inr (.inr h1)
      · exact .inl rfl
    · rintro (rfl | h1 | h1)
      · rcases hr with rfl | rfl
        · exact .inl (.inr ⟨rfl, rfl⟩)
        · exact .inr (.inr ⟨rfl, rfl⟩)
      · exact .inl (.inl ⟨h1, fun e => hno (.inl (e ▸ h1))⟩)
      · exact .inr (.inl ⟨h1, fun e => hno (.inr (e ▸ h1))⟩)

/-- What Access says and leaves. -/
structure Acc (c : Nat) (K : Ks) (key : ByteArray) (hit : Bool) (gone : List ByteArray) (K' : Ks) : Prop where
  inv : Inv c K'
  hit_ : hit = has K key
  yes : key ∈ res K → gone = [] ∧ (∀ x, x ∈ res K' ↔ x ∈ res K) ∧ len K' = len K
  no : key ∉ res K → (len K < c ∧ gone = [] ∧ (∀ x, x ∈ res K' ↔ x = key ∨ x ∈ res K) ∧ len K' = len K + 1) ∨
    (len K = c ∧ ∃ k, gone = [k] ∧ k ∈ res K ∧ (∀ x, x ∈ res K' ↔ x = key ∨ (x ∈ res K ∧ x ≠ k)) ∧ len K' = len K)

theorem recl_come (h : Inv c K) {r : Nat} (hr : r = 0 ∨ r = 1) {key : ByteArray} (hk : key.size ≤ 40) (hno : key ∉ res K) :
    Inv c (comes (recl c K).2 r key 0) ∧ ((len K < c ∧ (recl c K).1 = [] ∧ (∀ x, x ∈ res (comes (recl c K).2 r key 0) ↔ x = key ∨ x ∈ res K) ∧ len (comes (recl c K).2 r key 0) = len K + 1) ∨
    (len K = c ∧ ∃ k, (recl c K).1 = [k] ∧ k ∈ res K ∧ (∀ x, x ∈ res (comes (recl c K).2 r key 0) ↔ x = key ∨ (x ∈ res K ∧ x ≠ k)) ∧ len (comes (recl c K).2 r key 0) = len K)) := by
  unfold recl
  by_cases hl : len K < c
  · rw [if_pos hl]
    obtain ⟨h1, h2, h3⟩ := come h hr hk hno hl
    exact ⟨h1, .inl ⟨hl, rfl, h2, h3⟩⟩
  · rw [if_neg hl]
    have hc := h.room
    have h1 := h.c1
    obtain ⟨k, K', he, hm, hi, hn, hres, -⟩ := evict_facts h (by omega)
    rw [he]
    obtain ⟨h1, h2, h3⟩ := come (K := K') hi hr hk (fun hh => hno ((hres key).1 hh).1) (by omega)
    have h4 : len (comes K' r key 0) = len K := by omega
    refine ⟨h1, .inr ⟨by omega, k, rfl, hm, fun x => ?_, h4⟩⟩
    rw [h2, hres]

theorem access_facts (h : Inv c K) {key : ByteArray} (hk : key.size ≤ 40) : Acc c K key (access c K key).1 (access c K key).2.1 (access c K key).2.2 := by
  unfold access
  by_cases hh : has K key = true
  · rw [if_pos hh]
    exact ⟨⟨h.c1, h.c2, h.sep, h.room, h.gh, setn_le h.cnt (by omega)⟩, hh.symm, fun _ => ⟨rfl, fun _ => Iff.rfl, rfl⟩, fun e => absurd (has_iff.1 hh) e⟩
  · rw [if_neg hh]
    have hno : key ∉ res K := fun e => hh (has_iff.2 e)
    have hf : false = has K key := by symm; rw [Bool.eq_false_iff]; exact hh
    obtain ⟨q1, q2⟩ := recl_come h (r := if key ∈ (recl c K).2.r 2 then 1 else 0) (by split <;> simp) hk hno
    exact ⟨q1, hf, fun e => absurd e hno, fun _ => q2⟩

theorem load_facts (h : Inv c K) {key : ByteArray} (hk : key.size ≤ 40) :
    Inv c (load c K key).2 ∧ ((load c K key).1 = true ↔ key ∉ res K ∧ len K < c) ∧
    ((load c K key).1 = true → (∀ x, x ∈ res (load c K key).2 ↔ x = key ∨ x ∈ res K) ∧ len (load c K key).2 = len K + 1) ∧ ((load c K key).1 = false → (load c K key).2 = K) := by
  unfold load
  split
  · rename_i hh
    refine ⟨h, ⟨fun e => by simp at e, ?_⟩, fun e => by simp at e, fun _ => rfl⟩
    rintro ⟨h1, h2⟩
    rcases hh with hh | hh
    · exact absurd (has_iff.1 hh) h1
    · omega
  · rename_i hh
    have hno : key ∉ res K := fun e => hh (.inl (has_iff.2 e))
    have hl : len K < c := by have := h.room; have : len K ≠ c := fun e => hh (.inr e); omega
    obtain ⟨h1, h2, h3⟩ := come h (.inr rfl) hk (r := 1) hno hl
    exact ⟨h1, ⟨fun _ => ⟨hno, hl⟩, fun _ => rfl⟩, fun _ => ⟨h2, h3⟩, fun e => by simp at e⟩

theorem remove_facts (h : Inv c K) {key : ByteArray} :
    Inv c (remove K key).2 ∧ (remove K key).1 = has K key ∧ (∀ x, x ∈ res (remove K key).2 ↔ x ∈ res K ∧ x ≠ key) ∧
    (key ∈ res K → key ∉ gho (remove K key).2 ∧ len (remove K key).2 + 1 = len K) ∧ (key ∉ res K → (remove K key).2 = K) := by
  unfold remove
  split
  · rename_i hh
    have hm := has_iff.1 hh
    exact ⟨inv_goes h key, hh.symm, fun x => mem_goes, fun _ => ⟨less_not _ _ _, len_goes h hm⟩, fun e => absurd hm e⟩
  · rename_i hh
    have hno : key ∉ res K := fun e => hh (has_iff.2 e)
    refine ⟨h, ?_, ?_, fun e => absurd e hno, fun _ => rfl⟩
    · symm; rw [Bool.eq_false_iff]; exact hh
    · intro x
      exact ⟨fun hx => ⟨hx, fun e => hno (e ▸ hx)⟩, fun hx => hx.1⟩

theorem Inv.len1 (h : Inv c K) : (K.r 0).length ≤ 1024 ∧ (K.r 1).length ≤ 1024 ∧ (K.r 2).length ≤ 1024 ∧ len K ≤ 1024 := by
  have := h.c2
  have h1 := h.room
  have := h.gh
  have : kout c ≤ 1024 := by unfold kout; omega
  unfold len at *
  omega
theorem lens (h : Inv c K) : ∀ q, q < 3 → (K.r q).length ≤ 80000 := fun q hq => by
  have := h.len1
  match q, hq with
  | 0, _ => omega
  | 1, _ => omega
  | 2, _ => omega
end

end Go.Proofs.Ytodiceafnkojiaa.Eg
