/- The laws of an engine alone: OfNothing, Counts. -/
import Derived.Test.YtkeicfajlmhajaaGreatQk
namespace Go.Proofs.YtkeicfajlmhajaaGreat.Lw
open Go Go.RowKit Go.Proofs.YtkeicfajlmhajaaGreat.K Go.Proofs.YtkeicfajlmhajaaGreat.Sl
open Go.Proofs.YtkeicfajlmhajaaGreat.Li (more more_lt own_form')
open Go.Proofs.YtkeicfajlmhajaaGreat.Rw (cell_below cell_upd own_mono own_below)
open Go.Proofs.YtkeicfajlmhajaaGreat.Eg (Ks Eng access remove evict has stext res gho len cof init Inv AccPost Gone Texts)

theorem eng_state_nil (w : World) : Calls Tryz.prog 27 #[.pointer none] w fun e w' => e = .returned (.string ByteArray.empty) ∧ w = w' := by
  go_enter Tryz.func27, Tryz.ntmps27
  go_wp2_with fail
  go_ret
  exact ⟨rfl, rfl⟩
theorem eng_load_nil (key : ByteArray) (w : World) : Calls Tryz.prog 23 #[.pointer none, .string key] w fun e w' => e = .returned (.bool false) ∧ ∃ n, w' = w.drewN n := by
  go_enter Tryz.func23, Tryz.ntmps23
  go_wp2_with fail
  go_quiet (fail)
  go_wp2_with fail
  go_ret
  exact ⟨rfl, _, rfl⟩

/-- Access, by its three cases. -/
theorem acc_cases {c : Nat} {K : Ks} (hi : Inv c K) {key : ByteArray} (hk : key.size ≤ 40) : ∃ hit l K', (∀ b F w, Eng w b F c K → Calls Tryz.prog 40 #[.pointer (some ⟨b, 0, none⟩), .string key] w (Gone l (fun v => .tuple #[.bool hit, v]) b F c K' w)) ∧ Inv c K' ∧
    ((key ∈ res K ∧ hit = true ∧ l = [] ∧ (∀ x, x ∈ res K' ↔ x ∈ res K) ∧ len K' = len K) ∨
     (key ∉ res K ∧ hit = false ∧ l = [] ∧ len K < c ∧ (∀ x, x ∈ res K' ↔ x = key ∨ x ∈ res K) ∧ len K' = len K + 1) ∨
     (key ∉ res K ∧ hit = false ∧ len K = c ∧ ∃ k, l = [k] ∧ k ∈ res K ∧ (∀ x, x ∈ res K' ↔ x = key ∨ (x ∈ res K ∧ x ≠ k)) ∧ len K' = len K)) := by
  have A := Eg.access_facts hi hk
  refine ⟨_, _, _, fun b F w h => Eg.eng_access h hk, A.inv, ?_⟩
  by_cases hm : key ∈ res K
  · obtain ⟨h1, h2, h3⟩ := A.yes hm
    exact .inl ⟨hm, by rw [A.hit_]; exact Eg.has_iff.2 hm, h1, h2, h3⟩
  · have hf : (access c K key).1 = false := by rw [A.hit_, Bool.eq_false_iff]; exact fun e => hm (Eg.has_iff.1 e)
    rcases A.no hm with ⟨h1, h2, h3, h4⟩ | ⟨h1, h2⟩
    · exact .inr (.inl ⟨hm, hf, h2, h1, h3, h4⟩)
    · exact .inr (.inr ⟨hm, hf, h1, h2⟩)

end Go.Proofs.YtkeicfajlmhajaaGreat.Lw
