/- S3-FIFO in plain words: three rows of keys, and a count for each resident key. -/
import Derived.Test.YtodiceafnkojiaaRa
namespace Go.Proofs.Ytodiceafnkojiaa.Eg
open Go.Proofs.Ytodiceafnkojiaa.Rw (upd upd_same upd_other less less_not less_same less_length)

instance memDec (key : ByteArray) (l : List ByteArray) : Decidable (key ∈ l) := decidable_of_iff (l.any (fun k => decide (k = key)) = true) (by simp)

/-- Rows 0 (small), 1 (main), 2 (ghost); counts. -/
structure Ks where
  r : Nat → List ByteArray
  n : ByteArray → Nat

abbrev Rs := Nat → List ByteArray
/-- A key becomes the newest of a row. -/
def push (K : Rs) (r : Nat) (key : ByteArray) : Rs := upd (less K key) r (less K key r ++ [key])
def setn (n : ByteArray → Nat) (key : ByteArray) (m : Nat) : ByteArray → Nat := fun k => if k = key then m else n k
def comes (K : Ks) (q : Nat) (key : ByteArray) (m : Nat) : Ks := ⟨push K.r q key, setn K.n key m⟩
def goes (K : Ks) (key : ByteArray) : Ks := ⟨less K.r key, setn K.n key 0⟩
def kin (c : Nat) : Nat := max 1 (c / 10)
def kout (c : Nat) : Nat := max 1 (c - kin c)
def len (K : Ks) : Nat := (K.r 0).length + (K.r 1).length
def oldest (l : List ByteArray) : ByteArray := l.headD ByteArray.empty
/-- The oldest ghost goes, if there are too many. -/
def trim (c : Nat) (K : Ks) : Ks := if kout c < (K.r 2).length then ⟨less K.r (oldest (K.r 2)), K.n⟩ else K
def toGhost (c : Nat) (K : Ks) (key : ByteArray) : Ks := trim c ⟨push (goes K key).r 2 key, (goes K key).n⟩
/-- Row small gives one, or all of it is main's. -/
def fromSmall (c : Nat) : Nat → Ks → Option ByteArray × Ks
  | 0, K => (none, K)
  | f + 1, K => if (K.r 0).length = 0 then (none, K) else
      if 1 < K.n (oldest (K.r 0)) then fromSmall c f (comes K 1 (oldest (K.r 0)) 0) else (some (oldest (K.r 0)), toGhost c K (oldest (K.r 0)))
/-- Row main gives one. -/
def fromMain : Nat → Ks → ByteArray × Ks
  | 0, K => (oldest (K.r 1), goes K (oldest (K.r 1)))
  | f + 1, K => if K.n (oldest (K.r 1)) = 0 then (oldest (K.r 1), goes K (oldest (K.r 1))) else fromMain f (comes K 1 (oldest (K.r 1)) (K.n (oldest (K.r 1)) - 1))
def weight (K : Ks) : Nat := ((K.r 1).map K.n).sum
def evict (c : Nat) (K : Ks) : ByteArray × Bool × Ks :=
  if len K = 0 then (ByteArray.empty, false, K)
  else if kin c < (K.r 0).length ∨ (K.r 1).length = 0 then
    match fromSmall c ((K.r 0).length + 1) K with
    | (some k, L) => (k, true, L)
    | (none, L) => ((fromMain (weight L) L).1, true, (fromMain (weight L) L).2)
  else ((fromMain (weight K) K).1, true, (fromMain (weight K) K).2)
def res (K : Ks) : List ByteArray := K.r 0 ++ K.r 1
def gho (K : Ks) : List ByteArray := K.r 2
def has (K : Ks) (key : ByteArray) : Bool := decide (key ∈ K.r 0 ∨ key ∈ K.r 1)
def recl (c : Nat) (K : Ks) : List ByteArray × Ks := if len K < c then ([], K) else ([(evict c K).1], (evict c K).2.2)
def access (c : Nat) (K : Ks) (key : ByteArray) : Bool × List ByteArray × Ks :=
  if has K key = true then (true, [], ⟨K.r, setn K.n key (min 3 (K.n key + 1))⟩)
  else (false, (recl c K).1, comes (recl c K).2 (if key ∈ (recl c K).2.r 2 then 1 else 0) key 0)
def load (c : Nat) (K : Ks) (key : ByteArray) : Bool × Ks := if has K key = true ∨ len K = c then (false, K) else (true, comes K 1 key 0)
def remove (K : Ks) (key : ByteArray) : Bool × Ks := if has K key = true then (true, goes K key) else (false, K)
def init : Ks := ⟨fun _ => [], fun _ => 0⟩

theorem mem_less {K : Rs} {key k : ByteArray} {r : Nat} : k ∈ less K key r ↔ k ∈ K r ∧ k ≠ key := by simp [less]
theorem nod_less {K : Rs} {key : ByteArray} {r : Nat} (h : (K r).Nodup) : (less K key r).Nodup := h.filter _
theorem less_head {K : Rs} {r : Nat} {k : ByteArray} {t : List ByteArray} (h : K r = k :: t) (hn : (K r).Nodup) : less K k r = t := by
  rw [h, List.nodup_cons] at hn
  unfold less
  rw [h, List.filter_cons_of_neg (by simp), List.filter_eq_self]
  intro a ha
  refine decide_eq_true ?_
  rintro rfl
  exact hn.1 ha
theorem less_len_of_mem {l : List ByteArray} {key : ByteArray} (h : key ∈ l) (hn : l.Nodup) : (l.filter (fun k => decide (k ≠ key))).length + 1 = l.length := by
  obtain ⟨p, q, rfl⟩ := List.append_of_mem h
  rw [List.nodup_append, List.nodup_cons] at hn
  obtain ⟨-, ⟨n1, -⟩, n2⟩ := hn
  rw [List.filter_append, List.filter_cons_of_neg (by simp), List.filter_eq_self.2, List.filter_eq_self.2]
  · simp; omega
  · intro a ha
    refine decide_eq_true ?_
    rintro rfl
    exact n1 ha
  · intro a ha
    refine decide_eq_true ?_
    rintro rfl
    exact n2 a ha a (List.mem_cons_self ..) rfl
theorem oldest_mem {l : List ByteArray} (h : 0 < l.length) : oldest l ∈ l := by
  cases l with
  | nil => simp at h
  | cons x t => exact List.mem_cons_self ..
theorem oldest_cons (l : List ByteArray) (h : 0 < l.length) : ∃ t, l = oldest l :: t := by
  cases l with
  | nil => simp at h
  | cons x t => exact ⟨t, rfl⟩

theorem push_at (K : Rs) (r : Nat) (key : ByteArray) : push K r key r = less K key r ++ [key] := upd_same _ _ _
theorem push_ne (K : Rs) {r q : Nat} (key : ByteArray) (h : q ≠ r) : push K r key q = less K key q := upd_other _ _ h
theorem mem_push {K : Rs} {r q : Nat} {key k : ByteArray} : k ∈ push K r key q ↔ (k ∈ K q ∧ k ≠ key) ∨ (q = r ∧ k = key) := by
  by_cases h : q = r
  · subst h; rw [push_at]; simp [mem_less]
  · rw [push_ne _ _ h, mem_less]; simp [h]
theorem nod_push {K : Rs} {r q : Nat} {key : ByteArray} (h : (K q).Nodup) : (push K r key q).Nodup := by
  by_cases e : q = r
  · subst e
    rw [push_at, List.nodup_append]
    refine ⟨nod_less h, by simp, ?_⟩
    intro a ha b hb
    rw [List.mem_singleton] at hb
    subst hb
    exact (mem_less.1 ha).2
  · rw [push_ne _ _ e]; exact nod_less h


/-- What always holds of the rows, but for their sizes. -/
structure Sep (K : Rs) : Prop where
  once : ∀ r q, r < 3 → q < 3 → ∀ k, k ∈ K r → k ∈ K q → r = q
  nod : ∀ r, r < 3 → (K r).Nodup
  small : ∀ r, r < 3 → ∀ k, k ∈ K r → k.size ≤ 40

theorem Sep.less {K : Rs} (h : Sep K) (key : ByteArray) : Sep (less K key) :=
  ⟨fun r q hr hq k h1 h2 => h.once r q hr hq k (mem_less.1 h1).1 (mem_less.1 h2).1, fun r hr => nod_less (h.nod r hr), fun r hr k hk => h.small r hr k (mem_less.1 hk).1⟩
theorem Sep.push {K : Rs} (h : Sep K) {r : Nat} {key : ByteArray} (hk : key.size ≤ 40) : Sep (push K r key) := by
  refine ⟨?_, fun q hq => nod_push (h.nod q hq), ?_⟩
  · intro a b ha hb k h1 h2
    rcases mem_push.1 h1 with ⟨h1, h3⟩ | ⟨rfl, rfl⟩
    · rcases mem_push.1 h2 with ⟨h2, -⟩ | ⟨-, h4⟩
      · exact h.once a b ha hb k h1 h2
      · exact absurd h4 h3
    · rcases mem_push.1 h2 with ⟨-, h2⟩ | ⟨rfl, -⟩
      · exact absurd rfl h2
      · rfl
  · intro q hq k hk'
    rcases mem_push.1 hk' with ⟨h1, -⟩ | ⟨-, rfl⟩
    · exact h.small q hq k h1
    · exact hk
theorem Sep.apart {K : Rs} (h : Sep K) {r : Nat} {key : ByteArray} (hr : r < 3) (hk : key ∈ K r) {q : Nat} (hq : q < 3) (hne : q ≠ r) : Rw.less K key q = K q :=
  less_same (fun hh => hne (h.once q r hq hr key hh hk))

end Go.Proofs.Ytodiceafnkojiaa.Eg
