/- The walk of the law RouteMany. -/
import Derived.Test.YtlnpjcamcefbkaaRk
namespace Go.Proofs.Ytlnpjcamcefbkaa.Rw
open Go Go.RowKit Go.Proofs.Ytlnpjcamcefbkaa.K Go.Proofs.Ytlnpjcamcefbkaa.Ro Go.Proofs.Ytlnpjcamcefbkaa.PRouteShards Go.Proofs.YtlnpjcamcefbkaaW.PrintWords

theorem rint_nil (w : World) : RInt w none [] := ⟨by decide, by simp⟩

/-- An order that tells of nobody. -/
theorem order_none (A : Option Addr) (ca : Nat) (cs : List Int) (w : World) (hc : RInt w A cs) (ho : ord cs [] = []) :
    Calls Try.prog 10 #[.slice A cs.length ca, .slice none 0 0] w fun e w' => ∃ A' c, e = .returned (.slice A' 0 c) ∧ Below w.heap.size w w' := by
  refine (order_calls A none ca 0 cs [] w hc (rint_nil w)).mono ?_
  rintro e w' ⟨v, rfl, hv, hb⟩
  rw [ho] at hv
  obtain ⟨A', c, rfl⟩ := own_form hv
  exact ⟨A', c, rfl, hb⟩

theorem many_calls (n : Int) (w : World) : Calls Try.prog 5 #[.int .i64 n] w fun e w' => e = .returned (.bool true) ∧ Below w.heap.size w w' := by
  by_cases h1 : n < 0
  · go_enter Try.func5, Try.ntmps5
    go_wp2_with (go_at_call 12; refine (known_calls _).mono ?_; rintro e w1 ⟨rfl, hb⟩)
    go_ret
    exact ⟨rfl, hb⟩
  by_cases h2 : 1152921504606846976 < n
  · go_enter Try.func5, Try.ntmps5
    go_wp2_with (go_at_call 12; refine (known_calls _).mono ?_; rintro e w1 ⟨rfl, hb⟩)
    go_ret
    exact ⟨rfl, hb⟩
  have h1' : 0 ≤ n := by omega
  have h2' : n ≤ 1152921504606846976 := by omega
  clear h1 h2
  have o1 : ord [65536, 1 + n] [] = [] := by unfold ord; rw [if_pos]; simp only [tot]; omega
  have o2 : ord [-n, -1] [] = [] := by
    unfold ord
    have : tot [-n, -1] = 0 := by simp only [tot]; omega
    rw [this]; rfl
  have O1 := Lib.hid o1
  have O2 := Lib.hid o2
  clear o1 o2
  go_enter Try.func5, Try.ntmps5
  go_wp2_with fail
  refine (order_none _ 2 [65536, 1 + n] _ (rint_new (block_new _ _) (by simp)) O1.out).mono ?_
  rintro e w1 ⟨A1, c1, rfl, hb1⟩
  have HB1 := Lib.hid hb1
  clear hb1
  go_wp2_with fail
  refine (order_none _ 2 [-n, -1] _ (rint_new (block_new _ _) (by simp)) O2.out).mono ?_
  rintro e w2 ⟨A2, c2, rfl, hb2⟩
  have HB2 := Lib.hid hb2
  clear hb2
  go_wp2_with (go_at_call 12; refine (known_calls _).mono ?_; rintro e w3 ⟨rfl, hb⟩)
  go_ret
  refine ⟨rfl, ?_⟩
  have e1 : Below w.heap.size w w1 := ((Below.refl _ _).alloc (Nat.le_refl _) _).trans (HB1.out.mono (by simp))
  have e2 : Below w.heap.size w w2 := (e1.alloc e1.size _).trans (HB2.out.mono (by have := e1.size; simp; omega))
  exact e2.trans (hb.mono e2.size)

end Go.Proofs.Ytlnpjcamcefbkaa.Rw
