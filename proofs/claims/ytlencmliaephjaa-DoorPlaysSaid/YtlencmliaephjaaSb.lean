/- A script of Adds: plain facts. -/
import Derived.Test.YtlencmliaephjaaSe
import Derived.Test.YtlencmliaephjaaHe
namespace Go.Proofs.Ytlencmliaephjaa.Sk
open Go Go.RowKit Go.Proofs.Ytlencmliaephjaa.K Go.Proofs.Ytlencmliaephjaa.Ha

theorem addS_range (n : Nat) (key : ByteArray) (s : List Nat × Int) (h0 : 0 ≤ s.2) (h1 : s.2 < 10 * (n : Int)) : 0 ≤ (addS n key s).2 ∧ (addS n key s).2 < 10 * (n : Int) := by
  unfold addS
  split
  · exact ⟨h0, h1⟩
  · dsimp only
    split
    · dsimp only; omega
    · dsimp only; omega

/-- The state behind the keys. -/
def play (n : Nat) (l : List ByteArray) : List Nat × Int := l.foldl (fun s key => addS n key s) (List.replicate (4 * n) 0, 0)
theorem play_snoc (n : Nat) (l : List ByteArray) (k : Nat) (s : ByteArray) (h : l[k]? = some s) : play n (l.take (k + 1)) = addS n s (play n (l.take k)) := by
  have hk : k < l.length := by
    rcases Nat.lt_or_ge k l.length with h' | h'
    · exact h'
    · rw [List.getElem?_eq_none h'] at h; cases h
  rw [List.getElem?_eq_getElem hk] at h
  cases h
  rw [List.take_succ_eq_append_getElem hk, play, List.foldl_append]; rfl
theorem play_range (n : Nat) (l : List ByteArray) (hn : 8 ≤ n) : ∀ k, k ≤ l.length → 0 ≤ (play n (l.take k)).2 ∧ (play n (l.take k)).2 < 10 * (n : Int)
  | 0, _ => by simp [play]; omega
  | k + 1, h => by
    have ih := play_range n l hn k (by omega)
    rw [play_snoc n l k l[k] (List.getElem?_eq_getElem (by omega))]
    exact addS_range n _ _ ih.1 ih.2

end Go.Proofs.Ytlencmliaephjaa.Sk
