/- A slice of strings that came in: what of it is read. Plain lemmas over any program. -/
import Derived.Test.YtkeicfajlmhajaaGreatK
import Derived.SliceStrings
import Derived.SizedLaws
import Derived.ProofKit
import Derived.Carry
namespace Go.Proofs.YtkeicfajlmhajaaGreat.K
open Go Go.RowKit Go.ChangeShapes Go.WideShapes

/-- The slice at A holds the strings xs, in memory that w has. -/
structure RStr (w : World) (A : Option Addr) (xs : List ByteArray) : Prop where
  len : xs.length ≤ 8796093021952
  get : ∀ i s, xs[i]? = some s → ∃ b o, A = some ⟨b, o, none⟩ ∧ w.cell? ⟨b, o + i, none⟩ = some (.string s)

theorem add_plain (b o i : Nat) : (⟨b, o, none⟩ : Addr).add i = ⟨b, o + i, none⟩ := by unfold Addr.add; split <;> simp_all

theorem cell_plain {w : World} {a : Addr} {v : Value} (h : w.cell? a = some v) : ∃ b o, a = ⟨b, o, none⟩ := by
  obtain ⟨b, o, s⟩ := a
  cases s with
  | none => exact ⟨b, o, rfl⟩
  | some s => unfold World.cell? at h; split at h <;> simp at h

theorem RStr.below {w w' : World} {A : Option Addr} {xs : List ByteArray} (h : RStr w A xs) (hb : Below w.heap.size w w') : RStr w' A xs :=
  ⟨h.len, fun i s hs => by
    obtain ⟨b, o, rfl, hc⟩ := h.get i s hs
    exact ⟨b, o, rfl, by rw [hb.cell (p := ⟨b, o + i, none⟩) (World.block_lt_of_cell? w _ hc)]; exact hc⟩⟩

variable {H : Type} {enc : TypeId × Value → H} {P : Program} {W : World} {base : Nat} {spare : Nat → Bool} {held : Bool} {t e : TypeId} {A : Option Addr} {len cap : Nat} {d : DataW H} {ps : List MemPlace}

theorem open_strs {ts : List TypeId} {ds : List (DataW H)} {j : Nat} (hsz : (DataW.weightsEach P ts ds).all (· ≤ reachBytes) = true) (ht : ts[j]? = some t) (hd : ds[j]? = some d)
    (hu : P.underlying t = some (.slice e)) (he : P.underlying e = some .string) (hc : P.cellsOf e = 1) (hB : P.bytesOf e = 16) (h : DataW.Trod enc P W base spare held t (.slice A len cap) d ps) :
    ∃ xs : List ByteArray, len = xs.length ∧ RStr W A xs ∧ xs.length ≤ cap ∧ ∀ s ∈ xs, s.size ≤ maxLen := by
  obtain ⟨fuel, hf⟩ := h
  rcases open_strings hu he hc hf with ⟨hcs, _⟩ | ⟨a, l, c, ss, hcs, _, hl, _, hz, hx, hcell, hws⟩
  · simp [Value.cells] at hcs
    obtain ⟨rfl, rfl, rfl⟩ := hcs
    exact ⟨[], rfl, ⟨by simp, by simp⟩, by simp, by simp⟩
  · simp [Value.cells] at hcs
    obtain ⟨rfl, rfl, rfl⟩ := hcs
    obtain ⟨hx, _⟩ := Prod.mk.inj hx
    subst hx
    have z := sized_slice hsz ht hd hu
    rw [hB] at z
    have hl2 : len ≤ ss.length := by
      rw [hz]
      split
      · exact hl
      · exact Nat.le_refl _
    have h1 : (strs (H := H) (ss.take len)).length + (strs (H := H) (ss.drop len)).length = ss.length := by
      simp [strs]
      omega
    rw [h1] at z
    have hlen : (ss.take len).length = len := by simp; omega
    refine ⟨ss.take len, hlen.symm, ⟨by rw [hlen]; unfold reachBytes at z; omega, ?_⟩, by rw [hlen]; exact hl, fun s hs => hws s (List.mem_of_mem_take hs)⟩
    intro i s hs
    rw [List.getElem?_take] at hs
    split at hs
    · rename_i hi
      have hi' : i < ss.length := by omega
      have h0 := hcell 0 (by omega)
      have h00 : a.add 0 = a := rfl
      rw [h00] at h0
      obtain ⟨b, o, rfl⟩ := cell_plain h0
      have hi2 := hcell i hi'
      rw [add_plain, List.getD_eq_getElem?_getD, hs] at hi2
      exact ⟨b, o, rfl, hi2⟩
    · cases hs

end Go.Proofs.YtkeicfajlmhajaaGreat.K
