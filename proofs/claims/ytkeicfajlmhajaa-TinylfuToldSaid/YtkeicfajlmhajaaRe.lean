/- The rows of an engine: oldest. -/
import Derived.Test.YtkeicfajlmhajaaRd
namespace Go.Proofs.Ytkeicfajlmhajaa.Rw
open Go Go.RowKit Go.Proofs.Ytkeicfajlmhajaa.K
open Go.Proofs.Ytkeicfajlmhajaa.Li (Lst more more_lt hdl)
open Go.Proofs.Ytkeicfajlmhajaa.In (Idx V)

section
variable {R : Nat} {w : World} {v : Value} {F : Nat → Prop} {K : Nat → List ByteArray}

set_option maxHeartbeats 800000 in
theorem rows_oldest (h : Rows R w v F K) {r : Nat} (hr : r < R) {key : ByteArray} {rest : List ByteArray} (hK : K r = key :: rest) :
    Calls Try.prog 31 #[v, .int .i64 (r : Int)] w fun e w' => e = .returned (.string key) ∧ Below w.heap.size w w' := by
  obtain ⟨s, cap, bx, n, l, X, Fx, Fr, M, rfl, h2, h3, h4, h5, h6, h7⟩ := h
  have hX : ∃ i t, X r = (i, key) :: t := by
    have e := h3 r hr
    rw [hK] at e
    cases hx : X r with
    | nil => rw [hx] at e; cases e
    | cons x t =>
      rw [hx, List.map_cons] at e
      injection e with e1 e2
      exact ⟨x.1, t, by rw [e1]⟩
  obtain ⟨i, t, hX⟩ := hX
  have hb2 : Below w.heap.size w (w.alloc (.cells #[.slice (some ⟨s, 0, none⟩) R cap, .pointer (some ⟨bx, 0, none⟩)] 42)) := (Below.refl _ _).alloc (Nat.le_refl _) _
  have hw2 := h2.below (by omega) hb2
  have HV := Lib.hid (block_new w (.cells #[.slice (some ⟨s, 0, none⟩) R cap, .pointer (some ⟨bx, 0, none⟩)] 42))
  have FR := Lib.hid (Li.lst_front ((hw2.lst r hr).drewN 1))
  have GT := Lib.hid (Li.lst_get ((hw2.lst r hr).drewN 1) (x := (i, key)) (by rw [hX]; simp))
  have hh : hdl (X r) = i := by rw [hX]; rfl
  rw [hh] at FR
  have hc := hw2.cell hr
  have z0 : (0 : Int) ≤ (r : Int) := by omega
  have z1 : (r : Int) < (R : Int) := by omega
  have HB2 := Lib.hid hb2
  clear h2 h3 h4 h5 h6 h7 hX hw2 hb2 hh hK
  unfold rv
  go_enter Try.func31, Try.ntmps31
  go_wp2_with fail
  generalize w.alloc (.cells #[.slice (some ⟨s, 0, none⟩) R cap, .pointer (some ⟨bx, 0, none⟩)] 42) = w2 at *
  obtain ⟨b0, b1, fb⟩ := In.two_cells HV.out
  go_region_held3 (fun w' => w'.cell? ⟨w.heap.size, 0, none⟩ = some (.slice (some ⟨s, 0, none⟩) R cap) ∧ w'.cell? ⟨s, r, none⟩ = some (.pointer (some ⟨l r, 0, none⟩)))
    (first | (go_keep; done) | exact ⟨by assumption, by assumption⟩)
    (first | (go_at_call 50; refine FR.out.mono ?_; rintro e w4 ⟨rfl, rfl⟩) | (go_at_call 49; refine GT.out.mono ?_; rintro e w4 ⟨rfl, rfl⟩))
  go_wp2_with fail
  go_ret
  exact ⟨rfl, below_drewN HB2.out 1⟩
end

end Go.Proofs.Ytkeicfajlmhajaa.Rw
