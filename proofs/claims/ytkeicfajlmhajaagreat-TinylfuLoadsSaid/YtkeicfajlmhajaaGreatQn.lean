/- TinyLFU: what the laws ask of it in plain words. -/
import Derived.Test.YtkeicfajlmhajaaGreatWe
import Derived.Test.YtkeicfajlmhajaaGreatWf
namespace Go.Proofs.YtkeicfajlmhajaaGreat.Lw
open Go.Proofs.YtkeicfajlmhajaaGreat.Eg

theorem evict_none {c : Nat} {K : Ks} (h : len K = 0) : evict c K = (ByteArray.empty, false, K) := by unfold evict; rw [if_pos h]
theorem evict_some {c : Nat} {K : Ks} (h : Inv c K) (h0 : 0 < len K) :
    ∃ k K', evict c K = (k, true, K') ∧ k ∈ res K ∧ len K' + 1 = len K ∧ (∀ x, x ∈ res K' ↔ x ∈ res K ∧ x ≠ k) ∧ k ∉ res K' := by
  obtain ⟨k, K', h1, h2, -, h3, h4, h5⟩ := Eg.evict_facts h h0
  exact ⟨k, K', h1, h2, h3, h4, h5⟩

end Go.Proofs.YtkeicfajlmhajaaGreat.Lw
