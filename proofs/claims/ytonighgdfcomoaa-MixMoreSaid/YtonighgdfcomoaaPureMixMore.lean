/- Who looks at more looks at all that was looked at: for every number and every two rates. No condition beyond the statement's own. -/
import Derived.Test.YtonighgdfcomoaaPMixMorex1
namespace Go.Proofs.Ytonighgdfcomoaa.Pure
open Go.RowKit Go.Proofs.Ytonighgdfcomoaa.PMixMore Go.Proofs.YtonighgdfcomoaaW.PrintWords Go.Proofs.YtonighgdfcomoaaW.PrintLast

theorem MM.known (k : Nat) (hk : 2 ≤ k) : hoardlaw1_known.f k = some true := by
  obtain ⟨k, rfl⟩ : ∃ m, k = m + 2 := ⟨k - 2, by omega⟩
  kernel_rfl

theorem MixMore : hoardlaw1_MixMore.Pure := by
  intro h a b _ _ _
  refine ⟨2, ?_⟩
  unfold hoardlaw1_MixMore.f
  by_cases hab : a > b
  · rw [if_pos hab, MM.known _ (by omega)]; rfl
  · rw [if_neg hab]
    unfold mix_Sampled.f
    simp only [Option.bind_some, MM.known 2 (by omega)]
    by_cases h1 : wrap64 (Int.tmod h 16777216) < a
    · have h2 : wrap64 (Int.tmod h 16777216) < b := by omega
      simp [h1, h2]
    · simp [h1]

end Go.Proofs.Ytonighgdfcomoaa.Pure
