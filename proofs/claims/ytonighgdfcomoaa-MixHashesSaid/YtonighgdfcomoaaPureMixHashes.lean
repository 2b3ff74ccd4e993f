/- Of any text of at most 200 bytes and any seed the program's number is the reference's, and so is the seed mixed. No condition beyond the statement's own. -/
import Derived.Test.YtonighgdfcomoaaPMixHashesx1
namespace Go.Proofs.Ytonighgdfcomoaa.Pure
open Go.RowKit Go.Proofs.Ytonighgdfcomoaa.PMixHashes Go.Proofs.YtonighgdfcomoaaW.PrintWords Go.Proofs.YtonighgdfcomoaaW.PrintLast
namespace MH

theorem mix_some (x : Int) : ∃ r, mix_Mix.f x = some r ∧ hoardref1_Mix.f x = some r := ⟨_, rfl, rfl⟩

theorem loops (s : ByteArray) (hn : s.size ≤ 140737488351232) (d : Nat) : ∀ (k : Nat) (h i : Int), 0 ≤ i → i ≤ s.size → (s.size : Int) - i = d → d < k →
    ∃ r, mix_Hash.l0 k s h (s.size : Int) i = some r ∧ hoardref1_Hash.l0 k s h i = some r := by
  induction d with
  | zero =>
    intro k h i h0 h1 hd hk
    obtain ⟨k, rfl⟩ : ∃ m, k = m + 1 := ⟨k - 1, by omega⟩
    refine ⟨h, ?_, ?_⟩
    · simp only [mix_Hash.l0]; rw [if_neg (by omega)]
    · simp only [hoardref1_Hash.l0]; rw [if_neg (by omega)]
  | succ d ih =>
    intro k h i h0 h1 hd hk
    obtain ⟨k, rfl⟩ : ∃ m, k = m + 1 := ⟨k - 1, by omega⟩
    obtain ⟨t, ht, ht'⟩ := mix_some (IntKind.u64.wrap ((Go.bits .xor .u64 h (IntKind.u64.wrap (bt s i))) + 11400714819323198485))
    have hw : wrap64 (i + 1) = i + 1 := by unfold wrap64; omega
    obtain ⟨r, hr, hr'⟩ := ih k t (i + 1) (by omega) (by omega) (by omega) (by omega)
    refine ⟨r, ?_, ?_⟩
    · simp only [mix_Hash.l0]; rw [if_pos (by omega), if_pos h0, if_pos (by omega), ht]; simp only [Option.bind_some]; rw [hw]; exact hr
    · simp only [hoardref1_Hash.l0]; rw [if_pos (by omega), if_pos h0, ht']; simp only [Option.bind_some]; rw [hw]; exact hr'

theorem known (k : Nat) (hk : 2 ≤ k) : hoardlaw1_known.f k = some true := by
  obtain ⟨k, rfl⟩ : ∃ m, k = m + 2 := ⟨k - 2, by omega⟩
  kernel_rfl

end MH

theorem MixHashes : hoardlaw1_MixHashes.Pure := by
  intro a s _ hn
  refine ⟨s.size + 2, ?_⟩
  unfold hoardlaw1_MixHashes.f
  by_cases h : (s.size : Int) > 200
  · rw [if_pos h]
  · rw [if_neg h]
    obtain ⟨t, ht, ht'⟩ := MH.mix_some (Go.bits .xor .u64 a (IntKind.u64.wrap ((s.size : Int))))
    obtain ⟨r, hr, hr'⟩ := MH.loops s hn s.size (s.size + 2) t 0 (by omega) (by omega) (by omega) (by omega)
    obtain ⟨m, hm, hm'⟩ := MH.mix_some a
    unfold mix_Hash.f hoardref1_Hash.f
    rw [ht, ht']; simp only [Option.bind_some]; rw [hr, hr']; simp only [Option.bind_some, if_true]; rw [hm, hm']; simp only [Option.bind_some, if_true]
    rw [MH.known _ (by omega)]; rfl

end Go.Proofs.Ytonighgdfcomoaa.Pure
