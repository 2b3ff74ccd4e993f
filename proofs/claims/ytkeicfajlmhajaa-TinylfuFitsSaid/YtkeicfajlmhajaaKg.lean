/- Plain facts of a sketch: what an Add leaves in the cells. -/
import Derived.Test.YtkeicfajlmhajaaKf
namespace Go.Proofs.Ytkeicfajlmhajaa.Sk
open Go Go.RowKit Go.Proofs.Ytkeicfajlmhajaa.K Go.Proofs.Ytkeicfajlmhajaa.Ha

theorem getD_set (D : List Nat) (i j v : Nat) : (D.set i v).getD j 0 = if i = j ∧ j < D.length then v else D.getD j 0 := by
  rw [List.getD_eq_getElem?_getD, List.getD_eq_getElem?_getD, List.getElem?_set]
  by_cases h : i = j
  · subst h
    by_cases h2 : i < D.length
    · rw [if_pos rfl, if_pos h2, if_pos ⟨rfl, h2⟩]; rfl
    · rw [if_pos rfl, if_neg h2, if_neg (fun h => h2 h.2), List.getElem?_eq_none (by omega)]
  · rw [if_neg h, if_neg (fun h' => h h'.1)]

theorem addk_length (n : Nat) (C : List Nat) (key : ByteArray) (low : Nat) : ∀ k, (addk n C key low k).length = C.length
  | 0 => rfl
  | k + 1 => by
    have ih := addk_length n C key low k
    simp only [addk]
    split
    · rw [List.length_set]; exact ih
    · exact ih

theorem addk_mono (n : Nat) (C : List Nat) (key : ByteArray) (low : Nat) (i : Nat) : ∀ k m, k ≤ m → (addk n C key low k).getD i 0 ≤ (addk n C key low m).getD i 0 := by
  have step : ∀ k, (addk n C key low k).getD i 0 ≤ (addk n C key low (k + 1)).getD i 0 := by
    intro k
    simp only [addk]
    split
    · rw [getD_set]
      split
      · rename_i h; rw [h.1]; omega
      · exact Nat.le_refl _
    · exact Nat.le_refl _
  intro k m h
  induction m with
  | zero => have : k = 0 := by omega
            subst this; exact Nat.le_refl _
  | succ m ih =>
    rcases Nat.lt_or_ge k (m + 1) with h' | h'
    · exact Nat.le_trans (ih (by omega)) (step m)
    · have : k = m + 1 := by omega
      subst this; exact Nat.le_refl _

theorem cnt_le_cell (n : Nat) (C : List Nat) (key : ByteArray) (k : Nat) (hk : k < 4) : cnt n C key ≤ C.getD (plc n key k) 0 := by
  have hc : k = 0 ∨ k = 1 ∨ k = 2 ∨ k = 3 := by omega
  unfold cnt
  simp only [cntk_succ]
  rcases hc with rfl | rfl | rfl | rfl <;> omega

theorem cnt_ge (n m : Nat) (C : List Nat) (key : ByteArray) (hm : m ≤ 15) (h : ∀ k, k < 4 → m ≤ C.getD (plc n key k) 0) : m ≤ cnt n C key := by
  have e : cntk n C key 0 = 15 := rfl
  unfold cnt
  simp only [cntk_succ, e]
  have h0 := h 0 (by omega)
  have h1 := h 1 (by omega)
  have h2 := h 2 (by omega)
  have h3 := h 3 (by omega)
  omega

theorem addk_low (n : Nat) (C : List Nat) (key : ByteArray) (hl : C.length = 4 * n) (hn : 1 ≤ n) (k : Nat) (hk : k < 4) : cnt n C key + 1 ≤ (addk n C key (cnt n C key) 4).getD (plc n key k) 0 := by
  refine Nat.le_trans ?_ (addk_mono n C key _ _ (k + 1) 4 (by omega))
  have h1 := cnt_le_cell n C key k hk
  have h2 := addk_mono n C key (cnt n C key) (plc n key k) 0 k (by omega)
  have h3 : (addk n C key (cnt n C key) 0).getD (plc n key k) 0 = C.getD (plc n key k) 0 := rfl
  have hp := plc_lt n key k hk hn
  simp only [addk]
  split
  · rw [getD_set, if_pos ⟨rfl, by rw [addk_length]; omega⟩]; omega
  · omega

theorem cnt_mono (n : Nat) (C D : List Nat) (key : ByteArray) (h : ∀ i, C.getD i 0 ≤ D.getD i 0) : cnt n C key ≤ cnt n D key :=
  cnt_ge n _ D key (cnt_le n C key) (fun k hk => Nat.le_trans (cnt_le_cell n C key k hk) (h _))

end Go.Proofs.Ytkeicfajlmhajaa.Sk
