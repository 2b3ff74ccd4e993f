/- A slice of whole numbers that came in: what of it is read. Plain lemmas over any program. -/
import Derived.Test.YtkeicfajlmhajaaGreatK
import Derived.SizedLaws
import Derived.ProofKit
import Derived.Carry
namespace Go.Proofs.YtkeicfajlmhajaaGreat.K
open Go Go.RowKit Go.ChangeShapes Go.WideShapes

/-- The slice at A holds the numbers xs. -/
structure RInt (w : World) (A : Option Addr) (xs : List Int) : Prop where
  len : xs.length * 8 ≤ 140737488351232
  get : ∀ i x, xs[i]? = some x → ∃ b o, A = some ⟨b, o, none⟩ ∧ w.cell? ⟨b, o + i, none⟩ = some (.int .i64 x)

theorem add_plain' (b o i : Nat) : (⟨b, o, none⟩ : Addr).add i = ⟨b, o + i, none⟩ := by unfold Addr.add; split <;> simp_all

theorem cell_plain' {w : World} {a : Addr} {v : Value} (h : w.cell? a = some v) : ∃ b o, a = ⟨b, o, none⟩ := by
  obtain ⟨b, o, s⟩ := a
  cases s with
  | none => exact ⟨b, o, rfl⟩
  | some s => unfold World.cell? at h; split at h <;> simp at h

theorem RInt.below {w w' : World} {A : Option Addr} {xs : List Int} (h : RInt w A xs) (hb : Below w.heap.size w w') : RInt w' A xs :=
  ⟨h.len, fun i s hs => by
    obtain ⟨b, o, rfl, hc⟩ := h.get i s hs
    exact ⟨b, o, rfl, by rw [hb.cell (p := ⟨b, o + i, none⟩) (World.block_lt_of_cell? w _ hc)]; exact hc⟩⟩

/-- What the call owns is read so, too. -/
theorem RInt.of_own {w : World} {base e n : Nat} {v : Value} {xs : List Int} (h : w.ownsRow base e 1 v n (xs.map (Value.int .i64))) (hn : xs.length * 8 ≤ 140737488351232) :
    ∃ A c, v = .slice A xs.length c ∧ RInt w A xs := by
  have hl := h.1
  rw [List.length_map, Nat.mul_one] at hl
  rcases h.2 with ⟨rfl, h0⟩ | ⟨g, cap, cur, rfl, _, hg, _, _, _, htake⟩
  · subst h0
    have : xs = [] := List.eq_nil_of_length_eq_zero hl
    subst this
    exact ⟨none, 0, rfl, hn, by simp⟩
  · subst hl
    refine ⟨_, cap, rfl, hn, fun i x hx => ⟨g, 0, rfl, ?_⟩⟩
    have := h.cells (g := g) rfl i (.int .i64 x) (by rw [List.getElem?_map, hx]; rfl)
    rw [add_plain'] at this
    exact this

variable {H : Type} {enc : TypeId × Value → H} {P : Program} {W : World} {base : Nat} {spare : Nat → Bool} {held : Bool} {t e : TypeId} {A : Option Addr} {len cap : Nat} {d : DataW H} {ps : List MemPlace}

theorem open_nums {ts : List TypeId} {ds : List (DataW H)} {j : Nat} (hsz : (DataW.weightsEach P ts ds).all (· ≤ reachBytes) = true) (ht : ts[j]? = some t) (hd : ds[j]? = some d)
    (hu : P.underlying t = some (.slice e)) (he : P.underlying e = some (.int .i64)) (hc : P.cellsOf e = 1) (hB : P.bytesOf e = 8) (h : DataW.Trod enc P W base spare held t (.slice A len cap) d ps) :
    ∃ xs : List Int, len = xs.length ∧ RInt W A xs ∧ xs.length ≤ cap ∧ ∀ x ∈ xs, (Lit.int .i64 x).wf = true := by
  obtain ⟨fuel, hf⟩ := h
  rcases open_ints hu he hc hf with ⟨hcs, _⟩ | ⟨a, l, c, zs, hcs, _, hl, hm, hz, hx, hcell, hwz⟩
  · simp [Value.cells] at hcs
    obtain ⟨rfl, rfl, rfl⟩ := hcs
    exact ⟨[], rfl, ⟨by simp, by simp⟩, by simp, by simp⟩
  · simp [Value.cells] at hcs
    obtain ⟨rfl, rfl, rfl⟩ := hcs
    obtain ⟨hx, _⟩ := Prod.mk.inj hx
    subst hx
    have z := sized_slice hsz ht hd hu
    rw [hB] at z
    have hl2 : len ≤ zs.length := by
      rw [hz]
      split
      · exact hl
      · exact Nat.le_refl _
    have h1 : (lits (H := H) .i64 (zs.take len)).length + (lits (H := H) .i64 (zs.drop len)).length = zs.length := by
      simp [lits]
      omega
    rw [h1] at z
    have hlen : (zs.take len).length = len := by simp; omega
    refine ⟨zs.take len, hlen.symm, ⟨by rw [hlen]; unfold reachBytes at z; omega, ?_⟩, by rw [hlen]; exact hl, fun s hs => hwz s (List.mem_of_mem_take hs)⟩
    intro i s hs
    rw [List.getElem?_take] at hs
    split at hs
    · rename_i hi
      have hi' : i < zs.length := by omega
      have h0 := hcell 0 (by omega)
      have h00 : a.add 0 = a := rfl
      rw [h00] at h0
      obtain ⟨b, o, rfl⟩ := cell_plain' h0
      have hi2 := hcell i hi'
      rw [add_plain', List.getD_eq_getElem?_getD, hs] at hi2
      exact ⟨b, o, rfl, hi2⟩
    · cases hs

end Go.Proofs.YtkeicfajlmhajaaGreat.K
