/- TinyLFU in plain words: three rows of keys, and the keys that were noted. -/
import Derived.Test.YtkeicfajlmhajaaGreatRa
import Derived.Test.YtkeicfajlmhajaaGreatDa
import Derived.Test.YtkeicfajlmhajaaGreatKa
namespace Go.Proofs.YtkeicfajlmhajaaGreat.Eg
open Go.Proofs.YtkeicfajlmhajaaGreat.Rw (upd upd_same upd_other less less_not less_same less_length)

instance memDec (key : ByteArray) (l : List ByteArray) : Decidable (key ∈ l) := decidable_of_iff (l.any (fun k => decide (k = key)) = true) (by simp)

/-- Rows 0 (window), 1 (probation), 2 (protected); the keys that were noted, in order. -/
structure Ks where
  r : Nat → List ByteArray
  h : List ByteArray

abbrev Rs := Nat → List ByteArray
/-- A key becomes the newest of a row. -/
def push (K : Rs) (r : Nat) (key : ByteArray) : Rs := upd (less K key) r (less K key r ++ [key])

/-- A sketch's cells, its sum; a door's bits. -/
structure Nt where
  C : List Nat
  s : Int
  B : List Bool
def nn (c : Nat) : Nat := Sk.pw (Sk.clamp (c : Int) 1 1024)
def mm (c : Nat) : Nat := Do.dw (c : Int)
def nt0 (c : Nat) : Nt := ⟨List.replicate (4 * nn c) 0, 0, List.replicate (64 * mm c) false⟩
/-- A key is noted. -/
def ntS (c : Nat) (N : Nt) (key : ByteArray) : Nt :=
  if Do.has (mm c) N.B key = true then
    if (Sk.addS (nn c) key (N.C, N.s)).2 < N.s then ⟨(Sk.addS (nn c) key (N.C, N.s)).1, (Sk.addS (nn c) key (N.C, N.s)).2, List.replicate (64 * mm c) false⟩
    else ⟨(Sk.addS (nn c) key (N.C, N.s)).1, (Sk.addS (nn c) key (N.C, N.s)).2, Do.addB (mm c) N.B key⟩
  else ⟨N.C, N.s, Do.addB (mm c) N.B key⟩
def nts (c : Nat) (h : List ByteArray) : Nt := h.foldl (ntS c) (nt0 c)
theorem nts_snoc (c : Nat) (h : List ByteArray) (key : ByteArray) : nts c (h ++ [key]) = ntS c (nts c h) key := by
  unfold nts; rw [List.foldl_append]; rfl
def often (c : Nat) (h : List ByteArray) (key : ByteArray) : Nat := Sk.cnt (nn c) (nts c h).C key + if Do.has (mm c) (nts c h).B key = true then 1 else 0

theorem nn_ge (c : Nat) : 8 ≤ nn c := by unfold nn Sk.pw; (repeat' split) <;> omega
theorem addS_range {n : Nat} (key : ByteArray) (C : List Nat) (s : Int) (h : 0 ≤ s ∧ s < 10 * (n : Int)) : 0 ≤ (Sk.addS n key (C, s)).2 ∧ (Sk.addS n key (C, s)).2 < 10 * (n : Int) := by
  unfold Sk.addS
  dsimp only
  split
  · exact h
  · split
    · show 0 ≤ (s + 1) / 2 ∧ (s + 1) / 2 < 10 * (n : Int); omega
    · show 0 ≤ s + 1 ∧ s + 1 < 10 * (n : Int); omega
theorem ntS_range (c : Nat) (N : Nt) (key : ByteArray) (h : 0 ≤ N.s ∧ N.s < 10 * (nn c : Int)) : 0 ≤ (ntS c N key).s ∧ (ntS c N key).s < 10 * (nn c : Int) := by
  have := addS_range (n := nn c) key N.C N.s h
  unfold ntS
  split
  · split
    · exact this
    · exact this
  · exact h
theorem nts_range (c : Nat) (h : List ByteArray) : 0 ≤ (nts c h).s ∧ (nts c h).s < 10 * (nn c : Int) := by
  have : ∀ (h : List ByteArray) (N : Nt), 0 ≤ N.s ∧ N.s < 10 * (nn c : Int) → 0 ≤ (h.foldl (ntS c) N).s ∧ (h.foldl (ntS c) N).s < 10 * (nn c : Int) := by
    intro h
    induction h with
    | nil => exact fun N h => h
    | cons k t ih => exact fun N h => ih _ (ntS_range c N k h)
  refine this h _ ?_
  have := nn_ge c
  show (0 : Int) ≤ 0 ∧ (0 : Int) < 10 * (nn c : Int)
  omega

def win (c : Nat) : Nat := max 1 (c / 8)
def mainr (c : Nat) : Nat := c - win c
def prot (c : Nat) : Nat := mainr c * 4 / 5
def ln (R : Rs) : Nat := (R 0).length + (R 1).length + (R 2).length
def len (K : Ks) : Nat := ln K.r
def oldest (l : List ByteArray) : ByteArray := l.headD ByteArray.empty
/-- The row of the key that goes first. -/
def vict (R : Rs) : Nat := if 0 < (R 1).length then 1 else if 0 < (R 2).length then 2 else 0
/-- The window's first key comes in, or goes. -/
def admit (c : Nat) (K : Ks) : List ByteArray × Ks :=
  if (K.r 1).length + (K.r 2).length < mainr c then ([], ⟨push K.r 1 (oldest (K.r 0)), K.h⟩)
  else if (K.r 1).length + (K.r 2).length = 0 ∨ often c K.h (oldest (K.r 0)) ≤ often c K.h (oldest (K.r (vict K.r))) then ([oldest (K.r 0)], ⟨less K.r (oldest (K.r 0)), K.h⟩)
  else ([oldest (K.r (vict K.r))], ⟨push (less K.r (oldest (K.r (vict K.r)))) 1 (oldest (K.r 0)), K.h⟩)
/-- Of too many protected ones the oldest goes back. -/
def demote (c : Nat) (R : Rs) : Rs := if prot c < (R 2).length then push R 1 (oldest (R 2)) else R
def rs (R : Rs) : List ByteArray := R 0 ++ (R 1 ++ R 2)
def res (K : Ks) : List ByteArray := rs K.r
def gho (_K : Ks) : List ByteArray := []
def has (K : Ks) (key : ByteArray) : Bool := decide (key ∈ K.r 0 ∨ key ∈ K.r 1 ∨ key ∈ K.r 2)
def access (c : Nat) (K : Ks) (key : ByteArray) : Bool × List ByteArray × Ks :=
  if key ∈ K.r 0 then (true, [], ⟨push K.r 0 key, K.h ++ [key]⟩)
  else if key ∈ K.r 1 ∨ key ∈ K.r 2 then (true, [], ⟨demote c (push K.r 2 key), K.h ++ [key]⟩)
  else if win c < (push K.r 0 key 0).length then (false, (admit c ⟨push K.r 0 key, K.h ++ [key]⟩).1, (admit c ⟨push K.r 0 key, K.h ++ [key]⟩).2)
  else (false, [], ⟨push K.r 0 key, K.h ++ [key]⟩)
def load (c : Nat) (K : Ks) (key : ByteArray) : Bool × Ks :=
  if has K key = true ∨ len K = c then (false, K) else (true, ⟨push K.r (if (K.r 1).length + (K.r 2).length < mainr c then 1 else 0) key, K.h⟩)
def remove (K : Ks) (key : ByteArray) : Bool × Ks := if has K key = true then (true, ⟨less K.r key, K.h⟩) else (false, K)
def evict (_c : Nat) (K : Ks) : ByteArray × Bool × Ks :=
  if len K = 0 then (ByteArray.empty, false, K) else (oldest (K.r (vict K.r)), true, ⟨less K.r (oldest (K.r (vict K.r))), K.h⟩)
def init : Ks := ⟨fun _ => [], []⟩

theorem mem_less {K : Rs} {key k : ByteArray} {r : Nat} : k ∈ less K key r ↔ k ∈ K r ∧ k ≠ key := by simp [less]
theorem nod_less {K : Rs} {key : ByteArray} {r : Nat} (h : (K r).Nodup) : (less K key r).Nodup := h.filter _
theorem less_head {K : Rs} {r : Nat} {k : ByteArray} {t : List ByteArray} (h : K r = k :: t) (hn : (K r).Nodup) : less K k r = t := by
  rw [h, List.nodup_cons] at hn
  unfold less
  rw [h, List.filter_cons_of_neg (by simp), List.filter_eq_self]
  intro a ha
  refine decide_eq_true ?_
  rintro rfl
  exact hn.1 ha
theorem less_len_of_mem {l : List ByteArray} {key : ByteArray} (h : key ∈ l) (hn : l.Nodup) : (l.filter (fun k => decide (k ≠ key))).length + 1 = l.length := by
  obtain ⟨p, q, rfl⟩ := List.append_of_mem h
  rw [List.nodup_append, List.nodup_cons] at hn
  obtain ⟨-, ⟨n1, -⟩, n2⟩ := hn
  rw [List.filter_append, List.filter_cons_of_neg (by simp), List.filter_eq_self.2, List.filter_eq_self.2]
  · simp; omega
  · intro a ha
    refine decide_eq_true ?_
    rintro rfl
    exact n1 ha
  · intro a ha
    refine decide_eq_true ?_
    rintro rfl
    exact n2 a ha a (List.mem_cons_self ..) rfl
theorem oldest_mem {l : List ByteArray} (h : 0 < l.length) : oldest l ∈ l := by
  cases l with
  | nil => simp at h
  | cons x t => exact List.mem_cons_self ..
theorem oldest_cons (l : List ByteArray) (h : 0 < l.length) : ∃ t, l = oldest l :: t := by
  cases l with
  | nil => simp at h
  | cons x t => exact ⟨t, rfl⟩

theorem push_at (K : Rs) (r : Nat) (key : ByteArray) : push K r key r = less K key r ++ [key] := upd_same _ _ _
theorem push_ne (K : Rs) {r q : Nat} (key : ByteArray) (h : q ≠ r) : push K r key q = less K key q := upd_other _ _ h
theorem mem_push {K : Rs} {r q : Nat} {key k : ByteArray} : k ∈ push K r key q ↔ (k ∈ K q ∧ k ≠ key) ∨ (q = r ∧ k = key) := by
  by_cases h : q = r
  · subst h; rw [push_at]; simp [mem_less]
  · rw [push_ne _ _ h, mem_less]; simp [h]
theorem nod_push {K : Rs} {r q : Nat} {key : ByteArray} (h : (K q).Nodup) : (push K r key q).Nodup := by
  by_cases e : q = r
  · subst e
    rw [push_at, List.nodup_append]
    refine ⟨nod_less h, by simp, ?_⟩
    intro a ha b hb
    rw [List.mem_singleton] at hb
    subst hb
    exact (mem_less.1 ha).2
  · rw [push_ne _ _ e]; exact nod_less h


/-- What always holds of the rows, but for their sizes. -/
structure Sep (K : Rs) : Prop where
  once : ∀ r q, r < 3 → q < 3 → ∀ k, k ∈ K r → k ∈ K q → r = q
  nod : ∀ r, r < 3 → (K r).Nodup
  small : ∀ r, r < 3 → ∀ k, k ∈ K r → k.size ≤ 40

theorem Sep.less {K : Rs} (h : Sep K) (key : ByteArray) : Sep (less K key) :=
  ⟨fun r q hr hq k h1 h2 => h.once r q hr hq k (mem_less.1 h1).1 (mem_less.1 h2).1, fun r hr => nod_less (h.nod r hr), fun r hr k hk => h.small r hr k (mem_less.1 hk).1⟩
theorem Sep.push {K : Rs} (h : Sep K) {r : Nat} {key : ByteArray} (hk : key.size ≤ 40) : Sep (push K r key) := by
  refine ⟨?_, fun q hq => nod_push (h.nod q hq), ?_⟩
  · intro a b ha hb k h1 h2
    rcases mem_push.1 h1 with ⟨h1, h3⟩ | ⟨rfl, rfl⟩
    · rcases mem_push.1 h2 with ⟨h2, -⟩ | ⟨-, h4⟩
      · exact h.once a b ha hb k h1 h2
      · exact absurd h4 h3
    · rcases mem_push.1 h2 with ⟨-, h2⟩ | ⟨rfl, -⟩
      · exact absurd rfl h2
      · rfl
  · intro q hq k hk'
    rcases mem_push.1 hk' with ⟨h1, -⟩ | ⟨-, rfl⟩
    · exact h.small q hq k h1
    · exact hk
theorem Sep.apart {K : Rs} (h : Sep K) {r : Nat} {key : ByteArray} (hr : r < 3) (hk : key ∈ K r) {q : Nat} (hq : q < 3) (hne : q ≠ r) : Rw.less K key q = K q :=
  less_same (fun hh => hne (h.once q r hq hr key hh hk))

theorem push_length (K : Rs) (r : Nat) (key : ByteArray) (p : Nat) : (push K r key p).length = (less K key p).length + if p = r then 1 else 0 := by
  by_cases e : p = r
  · subst e; rw [push_at, if_pos rfl]; simp
  · rw [push_ne _ _ e, if_neg e, Nat.add_zero]
theorem Sep.less_len {K : Rs} (h : Sep K) {q : Nat} {key : ByteArray} (hq : q < 3) (hk : key ∈ K q) (p : Nat) (hp : p < 3) : (Rw.less K key p).length + (if p = q then 1 else 0) = (K p).length := by
  by_cases e : p = q
  · subst e; rw [if_pos rfl]; exact less_len_of_mem hk (h.nod p hp)
  · rw [if_neg e, h.apart hq hk hp e]; rfl
theorem less_len_no {K : Rs} {key : ByteArray} {p : Nat} (h : key ∉ K p) : (less K key p).length = (K p).length := by rw [less_same h]

theorem mem_rs {R : Rs} {x : ByteArray} : x ∈ rs R ↔ x ∈ R 0 ∨ x ∈ R 1 ∨ x ∈ R 2 := by simp [rs]
theorem len_rs (R : Rs) : (rs R).length = ln R := by simp [rs, ln]; omega
theorem mem_rs_push {R : Rs} {r : Nat} (hr : r < 3) {key x : ByteArray} : x ∈ rs (push R r key) ↔ x = key ∨ x ∈ rs R := by
  rw [mem_rs, mem_rs, mem_push, mem_push, mem_push]
  by_cases e : x = key
  · subst e
    have : r = 0 ∨ r = 1 ∨ r = 2 := by omega
    rcases this with rfl | rfl | rfl <;> simp
  · simp [e]
theorem mem_rs_less {R : Rs} {key x : ByteArray} : x ∈ rs (less R key) ↔ x ∈ rs R ∧ x ≠ key := by
  rw [mem_rs, mem_rs, mem_less, mem_less, mem_less]
  by_cases e : x = key
  · simp [e]
  · simp [e]
theorem in_row {R : Rs} {x : ByteArray} (h : x ∈ rs R) : ∃ q, q < 3 ∧ x ∈ R q := by
  rcases mem_rs.1 h with h | h | h
  · exact ⟨0, by omega, h⟩
  · exact ⟨1, by omega, h⟩
  · exact ⟨2, by omega, h⟩
theorem row_in {R : Rs} {q : Nat} {x : ByteArray} (hq : q < 3) (h : x ∈ R q) : x ∈ rs R := by
  have : q = 0 ∨ q = 1 ∨ q = 2 := by omega
  rw [mem_rs]
  rcases this with rfl | rfl | rfl
  · exact .inl h
  · exact .inr (.inl h)
  · exact .inr (.inr h)
theorem Sep.ln_less {R : Rs} (h : Sep R) {key : ByteArray} (hk : key ∈ rs R) : ln (Rw.less R key) + 1 = ln R := by
  obtain ⟨q, hq, hm⟩ := in_row hk
  have l0 := h.less_len hq hm 0 (by omega)
  have l1 := h.less_len hq hm 1 (by omega)
  have l2 := h.less_len hq hm 2 (by omega)
  unfold ln
  have : q = 0 ∨ q = 1 ∨ q = 2 := by omega
  rcases this with rfl | rfl | rfl <;> simp at l0 l1 l2 <;> omega
theorem ln_less_no {R : Rs} {key : ByteArray} (hk : key ∉ rs R) : ln (less R key) = ln R := by
  rw [mem_rs] at hk
  unfold ln
  rw [less_same (fun h => hk (.inl h)), less_same (fun h => hk (.inr (.inl h))), less_same (fun h => hk (.inr (.inr h)))]
theorem ln_push (R : Rs) {r : Nat} (hr : r < 3) (key : ByteArray) : ln (push R r key) = ln (less R key) + 1 := by
  have l0 := push_length R r key 0
  have l1 := push_length R r key 1
  have l2 := push_length R r key 2
  unfold ln
  have : r = 0 ∨ r = 1 ∨ r = 2 := by omega
  rcases this with rfl | rfl | rfl <;> simp at l0 l1 l2 <;> omega
theorem vict_lt (R : Rs) : vict R < 3 := by unfold vict; (repeat' split) <;> omega
theorem vict_some {R : Rs} (h : 0 < ln R) : 0 < (R (vict R)).length := by
  unfold vict ln at *
  split
  · assumption
  · split
    · assumption
    · omega

/-- What always holds. -/
structure Inv (c : Nat) (K : Ks) : Prop where
  c1 : 1 ≤ c
  c2 : c ≤ 1024
  once : ∀ r q, r < 3 → q < 3 → ∀ k, k ∈ K.r r → k ∈ K.r q → r = q
  nod : ∀ r, r < 3 → (K.r r).Nodup
  r0 : (K.r 0).length ≤ win c
  r12 : (K.r 1).length + (K.r 2).length ≤ mainr c
  r2 : (K.r 2).length ≤ prot c
  small : ∀ r, r < 3 → ∀ k, k ∈ K.r r → k.size ≤ 40

theorem Inv.sep {c : Nat} {K : Ks} (h : Inv c K) : Sep K.r := ⟨h.once, h.nod, h.small⟩
theorem Inv.of {c : Nat} {K : Ks} (h1 : 1 ≤ c) (h2 : c ≤ 1024) (hs : Sep K.r) (a : (K.r 0).length ≤ win c) (b : (K.r 1).length + (K.r 2).length ≤ mainr c) (d : (K.r 2).length ≤ prot c) : Inv c K :=
  ⟨h1, h2, hs.once, hs.nod, a, b, d, hs.small⟩
theorem win_main {c : Nat} (h : 1 ≤ c) : win c + mainr c = c ∧ 1 ≤ win c := by unfold mainr win; omega
theorem Inv.room {c : Nat} {K : Ks} (h : Inv c K) : len K ≤ c := by
  have := win_main h.c1
  have := h.r0
  have := h.r12
  unfold len ln
  omega
theorem inv_init {c : Nat} (h1 : 1 ≤ c) (h2 : c ≤ 1024) : Inv c init :=
  ⟨h1, h2, fun _ _ _ _ _ h => by simp [init] at h, fun _ _ => List.nodup_nil, by simp [init], by simp [init], by simp [init], fun _ _ _ h => by simp [init] at h⟩
theorem Inv.less {c : Nat} {K : Ks} (h : Inv c K) (key : ByteArray) (l : List ByteArray) : Inv c ⟨less K.r key, l⟩ := by
  refine Inv.of h.c1 h.c2 (h.sep.less key) (Nat.le_trans (less_length ..) h.r0) ?_ (Nat.le_trans (less_length ..) h.r2)
  have := less_length K.r key 1
  have := less_length K.r key 2
  have := h.r12
  show (Rw.less K.r key 1).length + (Rw.less K.r key 2).length ≤ mainr c
  omega
theorem Inv.noted {c : Nat} {K : Ks} (h : Inv c K) (l : List ByteArray) : Inv c ⟨K.r, l⟩ := Inv.of h.c1 h.c2 h.sep h.r0 h.r12 h.r2

end Go.Proofs.YtkeicfajlmhajaaGreat.Eg
