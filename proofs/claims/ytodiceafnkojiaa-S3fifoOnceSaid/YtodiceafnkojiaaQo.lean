/- S3-FIFO: keys that are all new go in the order in which they came. -/
import Derived.Test.YtodiceafnkojiaaQn
namespace Go.Proofs.Ytodiceafnkojiaa.Lw
open Go.Proofs.Ytodiceafnkojiaa.Eg
open Go.Proofs.Ytodiceafnkojiaa.Rw (upd upd_same upd_other less less_not less_same less_length)

/-- The resident are the last c of those that came, all of them in row small, none of them used again. -/
def Fifo (c : Nat) (xs : List ByteArray) (j : Nat) (K : Ks) : Prop := K.r 1 = [] ∧ K.r 0 = (xs.take j).drop (j - c) ∧ (∀ x, x ∈ K.r 2 → x ∈ xs.take j) ∧ ∀ x, K.n x = 0

theorem fifo_init (c : Nat) (xs : List ByteArray) : Fifo c xs 0 init := ⟨rfl, by simp [init], fun x hx => by simp [init] at hx, fun _ => rfl⟩

theorem take_next {xs : List ByteArray} {j : Nat} {s : ByteArray} (hs : xs[j]? = some s) : xs.take (j + 1) = xs.take j ++ [s] := by rw [List.take_add_one, hs]; rfl

theorem setn_zero {n : ByteArray → Nat} (h : ∀ x, n x = 0) (k : ByteArray) : ∀ x, setn n k 0 x = 0 := fun x => by
  unfold setn
  split
  · rfl
  · exact h x

theorem fifo_next {c : Nat} {K : Ks} {xs : List ByteArray} {j : Nat} {s : ByteArray} (hi : Inv c K) (h : Fifo c xs j K) (hs : xs[j]? = some s) (hno : s ∉ xs.take j) :
    Fifo c xs (j + 1) (access c K s).2.2 ∧ (j < c → (access c K s).2.1 = []) ∧ (c ≤ j → ∃ k, xs[j - c]? = some k ∧ (access c K s).2.1 = [k]) := by
  obtain ⟨h1, h0, h2, hz⟩ := h
  have hjl : j < xs.length := (List.getElem?_eq_some_iff.1 hs).1
  have n1 : s ∉ K.r 1 := by rw [h1]; simp
  have n0 : s ∉ K.r 0 := fun e => hno (by rw [h0] at e; exact List.mem_of_mem_drop e)
  have n2 : s ∉ K.r 2 := fun e => hno (h2 s e)
  have hh : ¬ has K s = true := by simp [has, n0, n1]
  have hl : len K = j - (j - c) := by unfold len; rw [h1, h0]; simp; omega
  have hc1 := hi.c1
  by_cases hj : j < c
  · have hr : recl c K = ([], K) := by unfold recl; rw [if_pos (by omega)]
    have ha : access c K s = (false, [], comes K 0 s 0) := by unfold access; rw [if_neg hh, hr]; simp only [if_neg n2]
    rw [ha]
    refine ⟨⟨?_, ?_, ?_, setn_zero hz s⟩, fun _ => rfl, fun e => by omega⟩
    · show push K.r 0 s 1 = []
      rw [push_ne _ _ (by omega), less_same n1, h1]
    · show push K.r 0 s 0 = _
      rw [push_at, less_same n0, h0, take_next hs, show j - c = 0 by omega, show j + 1 - c = 0 by omega]
      simp
    · intro x hx
      have hx' : x ∈ push K.r 0 s 2 := hx
      rw [push_ne _ _ (by omega), less_same n2] at hx'
      rw [take_next hs]
      exact List.mem_append_left _ (h2 x hx')
  · have hp : 0 < (K.r 0).length := by
      have : len K = (K.r 0).length := by unfold len; rw [h1]; simp
      omega
    obtain ⟨t, ht⟩ := oldest_cons (K.r 0) hp
    obtain ⟨k, hk⟩ : ∃ k, k = oldest (K.r 0) := ⟨_, rfl⟩
    have hfs := fromSmall_goes (c := c) (K := K) (f := (K.r 0).length) (by omega) (by rw [hz]; omega)
    rw [← hk] at ht hfs
    have he : evict c K = (k, true, toGhost c K k) := by
      rw [evict_small (by omega) (.inr (by rw [h1]; rfl)), hfs]
    obtain ⟨g1, g2, g3, g4, -, g6, g7⟩ := inv_toGhost hi ht
    have hr : recl c K = ([k], toGhost c K k) := by unfold recl; rw [if_neg (by omega), he]
    have hd : (xs.take j).drop (j - c) = k :: t := by rw [← h0, ht]
    have hkm : k ∈ xs.take j := List.mem_of_mem_drop (by rw [hd]; exact List.mem_cons_self ..)
    have hst : s ∉ t := fun e => n0 (by rw [ht]; exact List.mem_cons_of_mem _ e)
    have hm2 : ∀ x, x ∈ (toGhost c K k).r 2 → x ∈ xs.take j := fun x hx => by
      rcases g6 x hx with e | e
      · exact h2 x e
      · rw [e]; exact hkm
    have hn2 : s ∉ (toGhost c K k).r 2 := fun e => hno (hm2 s e)
    have ha : access c K s = (false, [k], comes (toGhost c K k) 0 s 0) := by unfold access; rw [if_neg hh, hr]; simp only [if_neg hn2]
    rw [ha]
    refine ⟨⟨?_, ?_, ?_, setn_zero (fun x => by rw [g7]; exact setn_zero hz k x) s⟩, fun e => absurd e hj, fun _ => ⟨k, ?_, rfl⟩⟩
    · show push (toGhost c K k).r 0 s 1 = []
      rw [push_ne _ _ (by omega), less_same (by rw [g3]; exact n1), g3, h1]
    · show push (toGhost c K k).r 0 s 0 = _
      rw [push_at, less_same (by rw [g2]; exact hst), g2, take_next hs, List.drop_append_of_le_length (by simp; omega), show j + 1 - c = (j - c) + 1 by omega, ← List.drop_drop, hd]
      rfl
    · intro x hx
      have hx' : x ∈ push (toGhost c K k).r 0 s 2 := hx
      rw [push_ne _ _ (by omega), mem_less] at hx'
      rw [take_next hs]
      exact List.mem_append_left _ (hm2 x hx'.1)
    · have h3 : ((xs.take j).drop (j - c))[0]? = some k := by rw [hd]; rfl
      rw [List.getElem?_drop, Nat.add_zero, List.getElem?_take] at h3
      rwa [if_pos (by omega)] at h3

end Go.Proofs.Ytodiceafnkojiaa.Lw
