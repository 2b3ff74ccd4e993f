/- 2Q: keys that are all new go in the order in which they came. -/
import Derived.Test.YtjpoeblhibgjbaaQn
namespace Go.Proofs.Ytjpoeblhibgjbaa.Lw
open Go.Proofs.Ytjpoeblhibgjbaa.Eg
open Go.Proofs.Ytjpoeblhibgjbaa.Rw (upd upd_same upd_other less less_not less_same less_length)

/-- The resident are the last c of those that came. -/
def Fifo (c : Nat) (xs : List ByteArray) (j : Nat) (K : Ks) : Prop := K 2 = [] ∧ K 0 = (xs.take j).drop (j - c) ∧ ∀ x, x ∈ K 1 → x ∈ xs.take j

theorem fifo_init (c : Nat) (xs : List ByteArray) : Fifo c xs 0 init := ⟨rfl, by simp [init], fun x hx => by simp [init] at hx⟩

theorem take_next {xs : List ByteArray} {j : Nat} {s : ByteArray} (hs : xs[j]? = some s) : xs.take (j + 1) = xs.take j ++ [s] := by rw [List.take_add_one, hs]; rfl

theorem fifo_next {c : Nat} {K : Ks} {xs : List ByteArray} {j : Nat} {s : ByteArray} (hi : Inv c K) (h : Fifo c xs j K) (hs : xs[j]? = some s) (hno : s ∉ xs.take j) :
    Fifo c xs (j + 1) (access c K s).2.2 ∧ (j < c → (access c K s).2.1 = []) ∧ (c ≤ j → ∃ k, xs[j - c]? = some k ∧ (access c K s).2.1 = [k]) := by
  obtain ⟨h2, h0, h1⟩ := h
  have hjl : j < xs.length := (List.getElem?_eq_some_iff.1 hs).1
  have n2 : s ∉ K 2 := by rw [h2]; simp
  have n0 : s ∉ K 0 := fun e => hno (by rw [h0] at e; exact List.mem_of_mem_drop e)
  have n1 : s ∉ K 1 := fun e => hno (h1 s e)
  have ha : access c K s = (false, (recl c K).1, push (recl c K).2 0 s) := by unfold access; rw [if_neg n2, if_neg n0, if_neg n1]
  have hl : len K = j - (j - c) := by unfold len; rw [h2, h0]; simp; omega
  have hc1 := hi.c1
  rw [ha]
  by_cases hj : j < c
  · have hr : recl c K = ([], K) := by unfold recl; rw [if_pos (by omega)]
    rw [hr]
    refine ⟨⟨?_, ?_, ?_⟩, fun _ => rfl, fun e => by omega⟩
    · show push K 0 s 2 = []
      rw [push_ne _ _ (by omega), less_same n2, h2]
    · show push K 0 s 0 = _
      rw [push_at, less_same n0, h0, take_next hs, show j - c = 0 by omega, show j + 1 - c = 0 by omega]
      simp
    · intro x hx
      have hx' : x ∈ push K 0 s 1 := hx
      rw [push_ne _ _ (by omega), less_same n1] at hx'
      rw [take_next hs]
      exact List.mem_append_left _ (h1 x hx')
  · have hs2 := hi.sep
    rcases evict_cases hi with ⟨e, -⟩ | ⟨-, k, t, -, e, -⟩ | ⟨-, -, k, t, e0, he, p0, p1, p2⟩
    · omega
    · rw [h2] at e; cases e
    · have hr : recl c K = ([k], trim c (push K 1 k)) := by unfold recl; rw [if_neg (by omega), he]
      have hk : k.size ≤ 40 := hi.small 0 (by omega) k (by rw [e0]; exact List.mem_cons_self ..)
      have hp := hs2.push (r := 1) hk
      have t0 := trim_02 hp c (q := 0) (by omega) (by omega)
      have t2 := trim_02 hp c (q := 2) (by omega) (by omega)
      have t1 := trim_1 hp c
      have hd : (xs.take j).drop (j - c) = k :: t := by rw [← h0, e0]
      have hkm : k ∈ xs.take j := List.mem_of_mem_drop (by rw [hd]; exact List.mem_cons_self ..)
      have hst : s ∉ t := fun e => n0 (by rw [e0]; exact List.mem_cons_of_mem _ e)
      have hm1 : ∀ x, x ∈ trim c (push K 1 k) 1 → x ∈ xs.take j := by
        intro x hx
        rw [t1, p1] at hx
        have hx' : x ∈ K 1 ++ [k] := by
          split at hx
          · exact List.mem_of_mem_tail hx
          · exact hx
        rw [List.mem_append, List.mem_singleton] at hx'
        rcases hx' with hx' | rfl
        · exact h1 x hx'
        · exact hkm
      rw [hr]
      refine ⟨⟨?_, ?_, ?_⟩, fun e => absurd e hj, fun _ => ⟨k, ?_, rfl⟩⟩
      · show push (trim c (push K 1 k)) 0 s 2 = []
        rw [push_ne _ _ (by omega), less_same (by rw [t2, p2]; exact n2), t2, p2, h2]
      · show push (trim c (push K 1 k)) 0 s 0 = _
        rw [push_at, less_same (by rw [t0, p0]; exact hst), t0, p0, take_next hs, List.drop_append_of_le_length (by simp; omega), show j + 1 - c = (j - c) + 1 by omega, ← List.drop_drop, hd]
        rfl
      · intro x hx
        have hx' : x ∈ push (trim c (push K 1 k)) 0 s 1 := hx
        rw [push_ne _ _ (by omega), mem_less] at hx'
        rw [take_next hs]
        exact List.mem_append_left _ (hm1 x hx'.1)
      · have h3 : ((xs.take j).drop (j - c))[0]? = some k := by rw [hd]; rfl
        rw [List.getElem?_drop, Nat.add_zero, List.getElem?_take] at h3
        rwa [if_pos (by omega)] at h3

end Go.Proofs.Ytjpoeblhibgjbaa.Lw
