/- Of any number, among any number of places and at any rate: the program's place and its answer whether the number is looked at are the reference's, and the place is in its bounds. No condition beyond the statement's own. -/
import Derived.Test.YtonighgdfcomoaaPMixPlacesx1
import Derived.Laws.Bits64b
import Derived.IntWalk
namespace Go.Proofs.Ytonighgdfcomoaa.Pure
open Go.RowKit Go.Proofs.Ytonighgdfcomoaa.PMixPlaces Go.Proofs.YtonighgdfcomoaaW.PrintWords Go.Proofs.YtonighgdfcomoaaW.PrintLast
namespace MP

theorem known (k : Nat) (hk : 2 ≤ k) : hoardlaw1_known.f k = some true := by
  obtain ⟨k, rfl⟩ : ∃ m, k = m + 2 := ⟨k - 2, by omega⟩
  kernel_rfl

theorem place (h n : Int) (h0 : 0 ≤ h) (n1 : n < 9223372036854775808) :
    ∃ p, mix_Place.f h n = some p ∧ hoardref1_Place.f h n = some p ∧ 0 ≤ p ∧ (1 ≤ n → p < n) := by
  unfold mix_Place.f hoardref1_Place.f
  by_cases hn : n < 1
  · rw [if_pos hn]; exact ⟨0, rfl, rfl, by omega, by omega⟩
  · have hw : IntKind.u64.wrap n = n := Go.IntWalk.u64_in n ⟨by omega, by omega⟩
    rw [if_neg hn, hw, if_neg (by omega)]
    have ht : Int.tmod h n = h % n := Int.tmod_eq_emod_of_nonneg h0
    have a := Int.emod_nonneg h (show n ≠ 0 by omega)
    have b := Int.emod_lt_of_pos h (show 0 < n by omega)
    have hv : wrap64 (h % n) = h % n := by unfold wrap64; omega
    rw [ht, hv]
    exact ⟨_, rfl, rfl, a, fun _ => b⟩

theorem sampled (h r : Int) (h0 : 0 ≤ h) (h1 : h < 18446744073709551616) : mix_Sampled.f h r = hoardref1_Sampled.f h r := by
  unfold mix_Sampled.f hoardref1_Sampled.f
  have ht : Int.tmod h 16777216 = h % 16777216 := Int.tmod_eq_emod_of_nonneg h0
  have e : Go.bits .and .u64 h 16777215 = h % 16777216 := by
    obtain ⟨a, rfl⟩ := Int.eq_ofNat_of_zero_le h0
    have := Go.bits_and_u64_nat a 16777215 (by omega) (by omega)
    rw [show ((16777215 : Nat) : Int) = 16777215 from rfl] at this
    rw [this]
    have := Nat.and_two_pow_sub_one_eq_mod a 24
    rw [show (2 ^ 24 - 1 : Nat) = 16777215 from rfl, show (2 ^ 24 : Nat) = 16777216 from rfl] at this
    rw [this]; omega
  rw [ht, e]

end MP

theorem MixPlaces : hoardlaw1_MixPlaces.Pure := by
  intro h n r w0 w1 _
  have a : 0 ≤ h ∧ h ≤ 18446744073709551615 := by simpa [Lit.wf, IntKind.min, IntKind.max, IntKind.bits, IntKind.signed] using w0
  have b : -9223372036854775808 ≤ n ∧ n ≤ 9223372036854775807 := by simpa [Lit.wf, IntKind.min, IntKind.max, IntKind.bits, IntKind.signed] using w1
  refine ⟨2, ?_⟩
  unfold hoardlaw1_MixPlaces.f
  obtain ⟨p, hp, hq, p0, p1⟩ := MP.place h n (by omega) (by omega)
  have hs := MP.sampled h r (by omega) (by omega)
  obtain ⟨s, he⟩ : ∃ s, hoardref1_Sampled.f h r = some s := ⟨_, rfl⟩
  rw [hp, hq, hs, he]
  simp only [Option.bind_some, if_true, beq_self_eq_true]
  rw [if_pos p0]
  rw [MP.known _ (by omega)]
  by_cases hn : n < 1
  · rw [if_pos hn]; rfl
  · rw [if_neg hn, if_pos (p1 (by omega))]; rfl

end Go.Proofs.Ytonighgdfcomoaa.Pure
