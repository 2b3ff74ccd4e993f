/- 2Q in plain words: three rows of keys. -/
import Derived.Test.YtjpoeblhibgjbaaRh
namespace Go.Proofs.Ytjpoeblhibgjbaa.Eg
open Go.Proofs.Ytjpoeblhibgjbaa.Rw (upd upd_same upd_other less less_not less_same less_length)

instance memDec (key : ByteArray) (l : List ByteArray) : Decidable (key ∈ l) := decidable_of_iff (l.any (fun k => decide (k = key)) = true) (by simp)

abbrev Ks := Nat → List ByteArray

/-- A key becomes the newest of a row. -/
def push (K : Ks) (r : Nat) (key : ByteArray) : Ks := upd (less K key) r (less K key r ++ [key])
def kin (c : Nat) : Nat := max 1 (c / 4)
def kout (c : Nat) : Nat := max 1 (c / 2)
def len (K : Ks) : Nat := (K 0).length + (K 2).length
def oldest (l : List ByteArray) : ByteArray := l.headD ByteArray.empty
/-- The oldest ghost goes, if there are too many. -/
def trim (c : Nat) (K : Ks) : Ks := if kout c < (K 1).length then less K (oldest (K 1)) else K
def evict (c : Nat) (K : Ks) : ByteArray × Bool × Ks :=
  if len K = 0 then (ByteArray.empty, false, K)
  else if (K 0).length ≤ kin c ∧ 0 < (K 2).length then (oldest (K 2), true, less K (oldest (K 2)))
  else (oldest (K 0), true, trim c (push K 1 (oldest (K 0))))
def recl (c : Nat) (K : Ks) : List ByteArray × Ks := if len K < c then ([], K) else ([(evict c K).1], (evict c K).2.2)
def access (c : Nat) (K : Ks) (key : ByteArray) : Bool × List ByteArray × Ks :=
  if key ∈ K 2 then (true, [], push K 2 key)
  else if key ∈ K 0 then (true, [], K)
  else if key ∈ K 1 then (false, (recl c (less K key)).1, push (recl c (less K key)).2 2 key)
  else (false, (recl c K).1, push (recl c K).2 0 key)
def has (K : Ks) (key : ByteArray) : Bool := decide (key ∈ K 0 ∨ key ∈ K 2)
def load (c : Nat) (K : Ks) (key : ByteArray) : Bool × Ks := if has K key = true ∨ len K = c then (false, K) else (true, push K 2 key)
def remove (K : Ks) (key : ByteArray) : Bool × Ks := if has K key = true then (true, less K key) else (false, K)
def init : Ks := fun _ => []
def res (K : Ks) : List ByteArray := K 0 ++ K 2
def gho (K : Ks) : List ByteArray := K 1

/-- What always holds. -/
structure Inv (c : Nat) (K : Ks) : Prop where
  c1 : 1 ≤ c
  c2 : c ≤ 1024
  once : ∀ r q, r < 3 → q < 3 → ∀ k, k ∈ K r → k ∈ K q → r = q
  nod : ∀ r, r < 3 → (K r).Nodup
  room : len K ≤ c
  gh : (K 1).length ≤ kout c
  small : ∀ r, r < 3 → ∀ k, k ∈ K r → k.size ≤ 40

theorem mem_less {K : Ks} {key k : ByteArray} {r : Nat} : k ∈ less K key r ↔ k ∈ K r ∧ k ≠ key := by simp [less]
theorem nod_less {K : Ks} {key : ByteArray} {r : Nat} (h : (K r).Nodup) : (less K key r).Nodup := h.filter _
theorem less_head {K : Ks} {r : Nat} {k : ByteArray} {t : List ByteArray} (h : K r = k :: t) (hn : (K r).Nodup) : less K k r = t := by
  rw [h, List.nodup_cons] at hn
  unfold less
  rw [h, List.filter_cons_of_neg (by simp), List.filter_eq_self]
  intro a ha
  refine decide_eq_true ?_
  rintro rfl
  exact hn.1 ha
theorem less_len_of_mem {l : List ByteArray} {key : ByteArray} (h : key ∈ l) (hn : l.Nodup) : (l.filter (fun k => decide (k ≠ key))).length + 1 = l.length := by
  obtain ⟨p, q, rfl⟩ := List.append_of_mem h
  rw [List.nodup_append, List.nodup_cons] at hn
  obtain ⟨-, ⟨n1, -⟩, n2⟩ := hn
  rw [List.filter_append, List.filter_cons_of_neg (by simp), List.filter_eq_self.2, List.filter_eq_self.2]
  · simp; omega
  · intro a ha
    refine decide_eq_true ?_
    rintro rfl
    exact n1 ha
  · intro a ha
    refine decide_eq_true ?_
    rintro rfl
    exact n2 a ha a (List.mem_cons_self ..) rfl
theorem oldest_mem {l : List ByteArray} (h : 0 < l.length) : oldest l ∈ l := by
  cases l with
  | nil => simp at h
  | cons x t => exact List.mem_cons_self ..
theorem oldest_cons (l : List ByteArray) (h : 0 < l.length) : ∃ t, l = oldest l :: t := by
  cases l with
  | nil => simp at h
  | cons x t => exact ⟨t, rfl⟩

theorem push_at (K : Ks) (r : Nat) (key : ByteArray) : push K r key r = less K key r ++ [key] := upd_same _ _ _
theorem push_ne (K : Ks) {r q : Nat} (key : ByteArray) (h : q ≠ r) : push K r key q = less K key q := upd_other _ _ h
theorem mem_push {K : Ks} {r q : Nat} {key k : ByteArray} : k ∈ push K r key q ↔ (k ∈ K q ∧ k ≠ key) ∨ (q = r ∧ k = key) := by
  by_cases h : q = r
  · subst h; rw [push_at]; simp [mem_less]
  · rw [push_ne _ _ h, mem_less]; simp [h]
theorem nod_push {K : Ks} {r q : Nat} {key : ByteArray} (h : (K q).Nodup) : (push K r key q).Nodup := by
  by_cases e : q = r
  · subst e
    rw [push_at, List.nodup_append]
    refine ⟨nod_less h, by simp, ?_⟩
    intro a ha b hb
    rw [List.mem_singleton] at hb
    subst hb
    exact (mem_less.1 ha).2
  · rw [push_ne _ _ e]; exact nod_less h

/-- The parts of the invariant that do not count. -/
structure Sep (K : Ks) : Prop where
  once : ∀ r q, r < 3 → q < 3 → ∀ k, k ∈ K r → k ∈ K q → r = q
  nod : ∀ r, r < 3 → (K r).Nodup
  small : ∀ r, r < 3 → ∀ k, k ∈ K r → k.size ≤ 40

theorem Inv.sep {c : Nat} {K : Ks} (h : Inv c K) : Sep K := ⟨h.once, h.nod, h.small⟩
theorem Sep.less {K : Ks} (h : Sep K) (key : ByteArray) : Sep (less K key) :=
  ⟨fun r q hr hq k h1 h2 => h.once r q hr hq k (mem_less.1 h1).1 (mem_less.1 h2).1, fun r hr => nod_less (h.nod r hr), fun r hr k hk => h.small r hr k (mem_less.1 hk).1⟩
theorem Sep.push {K : Ks} (h : Sep K) {r : Nat} {key : ByteArray} (hk : key.size ≤ 40) : Sep (push K r key) := by
  refine ⟨?_, fun q hq => nod_push (h.nod q hq), ?_⟩
  · intro a b ha hb k h1 h2
    rcases mem_push.1 h1 with ⟨h1, h3⟩ | ⟨rfl, rfl⟩
    · rcases mem_push.1 h2 with ⟨h2, -⟩ | ⟨-, h4⟩
      · exact h.once a b ha hb k h1 h2
      · exact absurd h4 h3
    · rcases mem_push.1 h2 with ⟨-, h2⟩ | ⟨rfl, -⟩
      · exact absurd rfl h2
      · rfl
  · intro q hq k hk'
    rcases mem_push.1 hk' with ⟨h1, -⟩ | ⟨-, rfl⟩
    · exact h.small q hq k h1
    · exact hk
theorem Sep.apart {K : Ks} (h : Sep K) {r : Nat} {key : ByteArray} (hr : r < 3) (hk : key ∈ K r) {q : Nat} (hq : q < 3) (hne : q ≠ r) : Rw.less K key q = K q :=
  less_same (fun hh => hne (h.once q r hq hr key hh hk))
theorem Sep.trim {K : Ks} (h : Sep K) (c : Nat) : Sep (trim c K) := by
  unfold Eg.trim
  split
  · exact h.less _
  · exact h

theorem push_len {K : Ks} {r : Nat} {key : ByteArray} : (push K r key r).length = (less K key r).length + 1 := by rw [push_at]; simp
theorem trim_02 {K : Ks} (h : Sep K) (c : Nat) {q : Nat} (hq : q < 3) (h1 : q ≠ 1) : trim c K q = K q := by
  unfold trim
  split
  · rename_i hl
    exact h.apart (r := 1) (by omega) (oldest_mem (by omega)) hq h1
  · rfl
theorem trim_1 {K : Ks} (h : Sep K) (c : Nat) : trim c K 1 = if kout c < (K 1).length then (K 1).tail else K 1 := by
  unfold trim
  split
  · rename_i hl
    obtain ⟨t, ht⟩ := oldest_cons (K 1) (by omega)
    rw [less_head ht (h.nod 1 (by omega)), ht]
    rfl
  · rfl

/-- What Evict comes to. -/
theorem evict_cases {c : Nat} {K : Ks} (h : Inv c K) :
    (len K = 0 ∧ evict c K = (ByteArray.empty, false, K)) ∨
    (0 < len K ∧ ∃ k t, (K 0).length ≤ kin c ∧ K 2 = k :: t ∧ evict c K = (k, true, less K k) ∧ less K k 2 = t ∧ less K k 0 = K 0 ∧ less K k 1 = K 1) ∨
    (0 < len K ∧ ¬ ((K 0).length ≤ kin c ∧ 0 < (K 2).length) ∧ ∃ k t, K 0 = k :: t ∧ evict c K = (k, true, trim c (push K 1 k)) ∧ push K 1 k 0 = t ∧ push K 1 k 1 = K 1 ++ [k] ∧ push K 1 k 2 = K 2) := by
  have hs := h.sep
  by_cases h0 : len K = 0
  · exact .inl ⟨h0, by unfold evict; rw [if_pos h0]⟩
  · by_cases h1 : (K 0).length ≤ kin c ∧ 0 < (K 2).length
    · obtain ⟨t, ht⟩ := oldest_cons (K 2) h1.2
      refine .inr (.inl ⟨by omega, _, t, h1.1, ht, by unfold evict; rw [if_neg h0, if_pos h1], less_head ht (hs.nod 2 (by omega)), ?_, ?_⟩)
      · exact hs.apart (r := 2) (by omega) (oldest_mem h1.2) (by omega) (by omega)
      · exact hs.apart (r := 2) (by omega) (oldest_mem h1.2) (by omega) (by omega)
    · have hp : 0 < (K 0).length := by
        unfold len at h0
        have : 1 ≤ kin c := by unfold kin; omega
        rcases Nat.eq_zero_or_pos (K 0).length with e | e
        · exact absurd ⟨by omega, by omega⟩ h1
        · exact e
      obtain ⟨t, ht⟩ := oldest_cons (K 0) hp
      have hm := oldest_mem hp
      refine .inr (.inr ⟨by omega, h1, _, t, ht, by unfold evict; rw [if_neg h0, if_neg h1], ?_, ?_, ?_⟩)
      · rw [push_ne _ _ (by omega), less_head ht (hs.nod 0 (by omega))]
      · rw [push_at, hs.apart (r := 0) (by omega) hm (by omega) (by omega)]
      · rw [push_ne _ _ (by omega), hs.apart (r := 0) (by omega) hm (by omega) (by omega)]

theorem kout_pos (c : Nat) : 1 ≤ kout c := by unfold kout; omega
theorem kin_pos (c : Nat) : 1 ≤ kin c := by unfold kin; omega

theorem inv_init {c : Nat} (h1 : 1 ≤ c) (h2 : c ≤ 1024) : Inv c init :=
  ⟨h1, h2, fun _ _ _ _ _ h => by simp [init] at h, fun _ _ => List.nodup_nil, by simp [len, init], by simp [init], fun _ _ _ h => by simp [init] at h⟩
theorem Inv.less {c : Nat} {K : Ks} (h : Inv c K) (key : ByteArray) : Inv c (less K key) := by
  obtain ⟨a, b, d⟩ := h.sep.less key
  refine ⟨h.c1, h.c2, a, b, ?_, Nat.le_trans (less_length ..) h.gh, d⟩
  have := h.room
  have := less_length K key 0
  have := less_length K key 2
  unfold len at *
  omega

/-- Evict, by what is resident and who is known. -/
theorem evict_facts {c : Nat} {K : Ks} (h : Inv c K) (h0 : 0 < len K) :
    ∃ k K', evict c K = (k, true, K') ∧ k ∈ res K ∧ Inv c K' ∧ len K' + 1 = len K ∧ (∀ x, x ∈ res K' ↔ x ∈ res K ∧ x ≠ k) ∧ k ∉ res K' ∧ ((K' 0 = (K 0).tail ∧ K' 2 = K 2 ∧ k ∈ K 0) ∨ (K' 0 = K 0 ∧ K' 2 = (K 2).tail ∧ k ∈ K 2)) := by
  have hs := h.sep
  rcases evict_cases h with ⟨e, -⟩ | ⟨-, k, t, h1, h2, he, e2, e0, e1⟩ | ⟨-, h1, k, t, h2, he, e0, e1, e2⟩
  · omega
  · refine ⟨k, _, he, by simp [res, h2], h.less k, ?_, ?_, ?_, .inr ⟨e0, by rw [e2, h2]; rfl, by rw [h2]; exact List.mem_cons_self ..⟩⟩
    · unfold len; rw [e0, e2, h2]; simp; omega
    · intro x; simp only [res, List.mem_append, mem_less]; constructor
      · rintro (⟨a, b⟩ | ⟨a, b⟩)
        · exact ⟨.inl a, b⟩
        · exact ⟨.inr a, b⟩
      · rintro ⟨a | a, b⟩
        · exact .inl ⟨a, b⟩
        · exact .inr ⟨a, b⟩
    · simp only [res, List.mem_append, mem_less]; rintro (⟨-, b⟩ | ⟨-, b⟩) <;> exact b rfl
  · have hk : k.size ≤ 40 := h.small 0 (by omega) k (by rw [h2]; exact List.mem_cons_self ..)
    have hp := hs.push (r := 1) hk
    have t0 := trim_02 hp c (q := 0) (by omega) (by omega)
    have t2 := trim_02 hp c (q := 2) (by omega) (by omega)
    have t1 := trim_1 hp c
    obtain ⟨a, b, d⟩ := hp.trim c
    have hlen : len (trim c (push K 1 k)) + 1 = len K := by unfold len; rw [t0, t2, e0, e2, h2]; simp; omega
    have hnd : k ∉ t := by have := hs.nod 0 (by omega); rw [h2, List.nodup_cons] at this; exact this.1
    have hk2 : k ∉ K 2 := fun hh => by have := hs.once 0 2 (by omega) (by omega) k (by rw [h2]; exact List.mem_cons_self ..) hh; omega
    refine ⟨k, _, he, by simp [res, h2], ⟨h.c1, h.c2, a, b, by have := h.room; omega, ?_, d⟩, hlen, ?_, ?_, .inl ⟨by rw [t0, e0, h2]; rfl, by rw [t2, e2], by rw [h2]; exact List.mem_cons_self ..⟩⟩
    · rw [t1, e1]
      have := h.gh
      split
      · simp; omega
      · rename_i hh
        rw [List.length_append, List.length_singleton] at hh ⊢
        omega
    · intro x
      simp only [res, List.mem_append, t0, t2, e0, e2, h2, List.mem_cons]
      constructor
      · rintro (a | a)
        · exact ⟨.inl (.inr a), fun e => hnd (e ▸ a)⟩
        · exact ⟨.inr a, fun e => hk2 (e ▸ a)⟩
      · rintro ⟨(a | a) | a, b⟩
        · exact absurd a b
        · exact .inl a
        · exact .inr a
    · simp only [res, List.mem_append, t0, t2, e0, e2]
      rintro (a | a)
      · exact hnd a
      · exact hk2 a

end Go.Proofs.Ytjpoeblhibgjbaa.Eg
