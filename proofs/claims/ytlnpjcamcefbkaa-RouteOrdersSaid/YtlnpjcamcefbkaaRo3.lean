/- The walk of the law RouteOrders. -/
import Derived.Test.YtlnpjcamcefbkaaRq
import Derived.Test.YtlnpjcamcefbkaaRa
namespace Go.Proofs.Ytlnpjcamcefbkaa.Rw
open Go Go.RowKit Go.Proofs.Ytlnpjcamcefbkaa.K Go.Proofs.Ytlnpjcamcefbkaa.Ro Go.Proofs.Ytlnpjcamcefbkaa.Ra

/-- A slice that came in, behind an empty literal. -/
theorem append_copy {ops : Array Oper} {rest : List Oper} {o : Oper} {a : Act} {Q : Exit → Act → World → Prop} {w : World} (hgd : o.guard = none) (s x : Operand)
    (ho : o.op = .call { callee := .builtin .append, args := #[s, x], argTypes := #[22, 22] }) (B g : Nat) (hs : a.eval s = .slice (some ⟨g, 0, none⟩) 0 0)
    (hg : w.heap[g]? = some (.cells #[] 3 (0, 0))) (hBg : B ≤ g) (A : Option Addr) (c : Nat) (xs : List Int) (hx : a.eval x = .slice A xs.length c) (hr : RInt w A xs)
    (h : ∀ v w', w'.ownsRow B 3 1 v xs.length (ints xs) → Upd (· = g) w w' → wpList Try.prog ops Q rest (a.put o.dst v) w') :
    wpList Try.prog ops Q (o :: rest) a w := by
  obtain ⟨i0, hi, hz0, hz1, hz2⟩ := info_parts info3
  have hown : w.ownsRow B 3 1 (.slice (some ⟨g, 0, none⟩) 0 0) 0 [] := ⟨rfl, .inr ⟨g, 0, #[], rfl, hBg, hg, Nat.le_refl _, by decide, rfl, rfl⟩⟩
  have hlen := hr.len
  cases A with
  | none =>
    have : xs = [] := by
      cases xs with
      | nil => rfl
      | cons x t => obtain ⟨b, o, he, _⟩ := hr.get 0 x rfl; cases he
    subst this
    refine wpList_plain hgd fun K hK => ?_
    unfold Oper.wp execOp
    simp only [ho, resolve, invoke, builtin, Sem.run_bind, Sem.run_pure, Result.andThen_ok, List.map_toArray, List.map_cons, List.map_nil, hs, hx]
    have hrun : (Builtin.append_ #[22, 22] o.type #[.slice (some ⟨g, 0, none⟩) 0 0, .slice none 0 c]).run Try.prog w = .ok (.slice (some ⟨g, 0, none⟩) 0 0) w := by
      simp [Builtin.append_, run_underlying Try.underlying22, sizeOf, typeInfo, hi, Builtin.lenOf, Builtin.firstCells, storeCells]
    rw [List.length_nil, hrun]
    exact hK _ _ (h _ w hown (Upd.refl _ _))
  | some ad =>
    refine wpList_append_own _ hgd s x 22 ho B 3 i0 (.int .i64 0) 1 8 Try.underlying22 hi hz0 hz1 hz2 rfl (by decide) _ 0 [] hs hown ad xs.length c (ints xs) hx (by simp [ints]) ?_ ?_ (by unfold maxLen; omega) (by omega) (Nat.le_trans hBg (Nat.le_of_lt (lt_of_block hg))) ?_
    · intro j u hu
      unfold ints at hu
      rw [List.getElem?_map] at hu
      cases hj : xs[j]? with
      | none => rw [hj] at hu; cases hu
      | some y =>
        rw [hj] at hu
        cases hu
        obtain ⟨b, o', he, hc⟩ := hr.get j y hj
        cases he
        rw [add_plain']
        exact hc
    · intro u hu
      obtain ⟨y, _, rfl⟩ := List.mem_map.1 hu
      rfl
    · intro v w' h1 h2 _
      rw [Nat.zero_add, List.nil_append] at h1
      exact h v w' h1 ((Upd.of_grown h2).mono (fun i _ e => by simpa [Value.ownBlock] using e.symm))

theorem of_own2 {w : World} {B n : Nat} {v : Value} {xs : List Int} (h : w.ownsRow B 3 1 v n (ints xs)) (hn : xs.length * 8 ≤ 140737488351232) :
    ∃ A c, v = .slice A xs.length c ∧ RInt w A xs ∧ xs.length ≤ c := by
  obtain ⟨A, c, rfl, hR⟩ := RInt.of_own h hn
  refine ⟨A, c, rfl, hR, ?_⟩
  have hl := h.1
  rw [ints, List.length_map, Nat.mul_one] at hl
  rcases h.2 with ⟨hh, h0⟩ | ⟨g, cap, cur, hh, _, _, hnc, _⟩
  · omega
  · injection hh with _ _ h3
    subst h3
    omega

set_option maxHeartbeats 1600000 in
set_option maxRecDepth 100000 in
theorem orders_calls (A C : Option Addr) (ca cc : Nat) (cs ps : List Int) (w : World) (hA : RInt w A cs) (hC : RInt w C ps) (hca : cs.length ≤ ca) :
    Calls Try.prog 3 #[.slice A cs.length ca, .slice C ps.length cc] w fun e w' => e = .returned (.bool true) ∧ Below w.heap.size w w' := by
  obtain ⟨r, hr, hs⟩ := small_calls A ca cs w hA hca
  have HS := Lib.hid hs
  have HA := Lib.hid hA
  have HC := Lib.hid hC
  clear hs hA hC hca
  cases r with
  | false =>
    clear hr
    go_enter Try.func3, Try.ntmps3
    go_wp2_with fail
    refine HS.out.mono ?_
    rintro e w1 ⟨rfl, b1⟩
    go_wp2
    go_ret
    exact ⟨rfl, b1⟩
  | true =>
    obtain ⟨ht, hl20⟩ := hr rfl
    by_cases hp : (500 : Int) < ps.length
    · go_enter Try.func3, Try.ntmps3
      go_wp2_with fail
      refine HS.out.mono ?_
      rintro e w1 ⟨rfl, b1⟩
      go_wp2
      go_ret
      exact ⟨rfl, b1⟩
    · have H20 := Lib.hid hl20
      clear hl20 ht hr
      go_enter Try.func3, Try.ntmps3
      go_wp2_with fail
      refine HS.out.mono ?_
      rintro e w1 ⟨rfl, b1⟩
      have B1 := Lib.hid b1
      clear b1
      go_upto_region 3 with (fail)
      go_wp2_with (first
        | (at_builtin; refine append_copy rfl _ _ rfl w1.heap.size w1.heap.size rfl (block_new _ _) (Nat.le_refl _) A ca cs rfl ((HA.out.below B1.out).below ((Below.refl _ _).alloc (Nat.le_refl _) _)) ?_; intro v1 w2 ho1 hu1; have B2 := Lib.hid (Upd.onto (B1.out.alloc B1.out.size _) hu1 (Nat.le_refl _) B1.out.size); have O1 := Lib.hid ho1; have SZ := Lib.hid hu1.size; clear ho1 hu1)
        | (at_builtin; refine append_copy rfl _ _ rfl w2.heap.size w2.heap.size rfl (block_new _ _) (Nat.le_refl _) C cc ps rfl ((HC.out.below B2.out).below ((Below.refl _ _).alloc (Nat.le_refl _) _)) ?_; intro v2 w3 ho2 hu2; have B3 := Lib.hid (Upd.onto (B2.out.alloc B2.out.size _) hu2 (Nat.le_refl _) B2.out.size); have O2 := Lib.hid ho2; have U2 := Lib.hid hu2; clear ho2 hu2))
      have o1 : w3.ownsRow w1.heap.size 3 1 v1 cs.length (ints cs) := own_upd (O1.out.alloc _) U2.out (fun k hk he => by
        have := (O1.out.lt k hk).2
        omega)
      obtain ⟨A1, c1, rfl, R1, _⟩ := of_own2 o1 HA.out.len
      obtain ⟨A2, c2, rfl, R2, _⟩ := of_own2 O2.out HC.out.len
      clear o1 O1 O2 U2
      refine (order_calls A1 A2 c1 c2 cs ps _ R1 R2).mono ?_
      rintro e w4 ⟨v3, rfl, hv3, b4⟩
      have B4 := Lib.hid (B3.out.trans (b4.mono B3.out.size))
      rw [nats_ints] at hv3
      have hlen : (((ord cs ps).map fun n : Nat => (n : Int))).length * 8 ≤ 140737488351232 := by
        rw [List.length_map]
        unfold ord
        split
        · decide
        · rw [ordF_length]; omega
      have HLEN := Lib.hid hlen
      obtain ⟨A3, c3, rfl, R3, hc3⟩ := of_own2 hv3 hlen
      have HR3 := Lib.hid R3
      have HC3 := Lib.hid hc3
      clear R1 R2 b4 hv3 hlen R3 hc3
      go_wp2_with fail
      refine (ref_calls A C ca cc cs ps _ (HA.out.below B4.out) (HC.out.below B4.out) H20.out).mono ?_
      rintro e w5 ⟨v4, rfl, hv4, b5⟩
      have B5 := Lib.hid (B4.out.trans (b5.mono B4.out.size))
      have HR3' := Lib.hid (HR3.out.below b5)
      rw [nats_ints] at hv4
      obtain ⟨A4, c4, rfl, R4, hc4⟩ := of_own2 hv4 HLEN.out
      have HR4 := Lib.hid R4
      have HC4 := Lib.hid hc4
      clear b5 hv4 R4 hc4 HR3
      have HOL := Lib.hid (show (ord cs ps).length = ((ord cs ps).map fun n : Nat => (n : Int)).length by simp)
      generalize ((ord cs ps).map fun n : Nat => (n : Int)) = zs at *
      go_wp2_with fail
      rw [HOL.out]
      refine (numbers_calls A3 A4 c3 c4 zs zs _ HR3'.out HR4.out HC3.out HC4.out).mono ?_
      rintro e w6 ⟨rfl, n6, rfl⟩
      rw [decide_eq_true (rfl : zs = zs)]
      go_wp2_with (go_at_call 12; refine (known_calls _).mono ?_; rintro e w7 ⟨rfl, hb⟩)
      go_ret
      exact ⟨rfl, (below_drewN B5.out n6).trans (hb.mono B5.out.size)⟩

end Go.Proofs.Ytlnpjcamcefbkaa.Rw
