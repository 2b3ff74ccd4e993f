/- Whether keys are more than is looked at. -/
import Derived.Test.YtlencmliaephjaaStr
import Derived.Test.YtlencmliaephjaaPSketchPlaysx1
namespace Go.Proofs.Ytlencmliaephjaa.He
open Go Go.RowKit Go.Proofs.Ytlencmliaephjaa.K Go.Proofs.Ytlencmliaephjaa.PSketchPlays Go.Proofs.YtlencmliaephjaaW.PrintWords

/-- Whether keys are more than is looked at. -/
theorem heavy_tells (l : List ByteArray) (hl : l.length ≤ 8796093021952) (d : Nat) : ∀ (k : Nat) (i : Nat), i ≤ l.length → l.length - i = d → 2 * d + 2 ≤ k →
    ∃ r, hoardlaw7_heavy.l0 k l (i : Int) = some r ∧ (r = false → ∀ j s, i ≤ j → j < 300 → l[j]? = some s → s.size ≤ 60) := by
  induction d with
  | zero =>
    intro k i h1 hd hk
    obtain ⟨k, rfl⟩ : ∃ m, k = m + 2 := ⟨k - 2, by omega⟩
    refine ⟨false, ?_, fun _ j s h2 _ hs => by rw [List.getElem?_eq_none (by omega)] at hs; cases hs⟩
    rw [hoardlaw7_heavy.l0, if_neg (by omega), hoardlaw7_heavy.j1, if_neg (by decide)]
  | succ d ih =>
    intro k i h1 hd hk
    obtain ⟨k, rfl⟩ : ∃ m, k = m + 2 := ⟨k - 2, by omega⟩
    have hi : i < l.length := by omega
    by_cases h3 : (i : Int) < 300
    · by_cases h6 : ((rdOf ByteArray.empty l (i : Int)).size : Int) > 60
      · refine ⟨true, ?_, by simp⟩
        rw [hoardlaw7_heavy.l0, if_pos (by omega), hoardlaw7_heavy.j1, if_pos (by simpa using h3), if_pos (by omega), if_pos (by omega), if_pos h6]
      · obtain ⟨r, hr, hrr⟩ := ih k (i + 1) (by omega) (by omega) (by omega)
        refine ⟨r, ?_, fun hf j s h2 hj hs => ?_⟩
        · rw [hoardlaw7_heavy.l0, if_pos (by omega), hoardlaw7_heavy.j1, if_pos (by simpa using h3), if_pos (by omega), if_pos (by omega), if_neg h6]
          have : wrap64 ((i : Int) + 1) = ((i + 1 : Nat) : Int) := by unfold wrap64; omega
          rw [this]; exact hr
        · by_cases e : j = i
          · subst e
            have : rdOf ByteArray.empty l (j : Int) = s := by simp [rdOf, List.getD_eq_getElem?_getD, hs]
            rw [this] at h6
            omega
          · exact hrr hf j s (by omega) hj hs
    · refine ⟨false, ?_, fun _ j s h2 hj _ => by omega⟩
      rw [hoardlaw7_heavy.l0, if_pos (by omega), hoardlaw7_heavy.j1, if_neg (by simpa using h3)]

theorem kd_of {w : World} {A : Option Addr} {l : List ByteArray} (h : RStr w A l) : Kd.C Kd.string w A l.length l := by
  refine ⟨rfl, by have := h.len; omega, fun h0 => ?_⟩
  obtain ⟨b, o, rfl, -⟩ := h.get 0 _ (List.getElem?_eq_getElem h0)
  refine ⟨_, rfl, fun j p hp => ⟨[.string p], rfl, rfl, fun i u hu => ?_⟩⟩
  obtain ⟨b', o', he, hc⟩ := h.get j p hp
  cases he
  cases i with
  | zero =>
    cases hu
    rw [K.add_plain]
    show w.cell? ⟨b, o + (j * 1 + 0), none⟩ = _
    rw [Nat.mul_one, Nat.add_zero]; exact hc
  | succ i => simp at hu

/-- The heavy test: nothing is heavier than 60 where it says no. -/
theorem heavy_any (A : Option Addr) (cap : Nat) (l : List ByteArray) (hlen : l.length ≤ 8796093021952) (hcap : l.length ≤ cap) :
    ∃ r : Bool, (∀ w, RStr w A l → Calls Try.prog 12 #[.slice A l.length cap] w fun e w' => e = .returned (.bool r) ∧ ∃ k, w' = w.drewN k) ∧
      (r = false → ∀ j s, j < 300 → l[j]? = some s → s.size ≤ 60) := by
  obtain ⟨r, hr, hs⟩ := heavy_tells l hlen l.length (2 * l.length + 2) 0 (by omega) (by omega) (by omega)
  exact ⟨r, fun w h => (hoardlaw7_heavy.calls (2 * l.length + 2) A cap l r w (kd_of h) hcap hr).mono fun _ _ ⟨he, ⟨n, hn⟩⟩ => ⟨he, n, hn⟩, fun hf j s h1 h2 => hs hf j s (by omega) h1 h2⟩

end Go.Proofs.Ytlencmliaephjaa.He
