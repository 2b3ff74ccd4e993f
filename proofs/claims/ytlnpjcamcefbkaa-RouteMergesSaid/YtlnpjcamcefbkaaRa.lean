/- The walk of the law RouteAll: each client comes just as often as it has operations. -/
import Derived.Test.YtlnpjcamcefbkaaRk
import Derived.Test.YtlnpjcamcefbkaaPRouteAllx1
namespace Go.Proofs.Ytlnpjcamcefbkaa.Ra
open Go Go.RowKit Go.Proofs.Ytlnpjcamcefbkaa.K Go.Proofs.Ytlnpjcamcefbkaa.Ro Go.Proofs.Ytlnpjcamcefbkaa.Rw Go.Proofs.Ytlnpjcamcefbkaa.PRouteAll Go.Proofs.YtlnpjcamcefbkaaW.PrintWords

theorem max_le_tot : ∀ (l : List Int) (W : Nat) (x : Int), l[W]? = some x → max 0 x ≤ tot l
  | [], _, _, h => by simp at h
  | n :: l, 0, x, h => by
    simp at h
    subst h
    have := tot_nonneg l
    simp only [tot]; omega
  | n :: l, W + 1, x, h => by
    have := max_le_tot l W x (by simpa using h)
    simp only [tot]; omega

theorem count_ordF (ps : List Int) : ∀ (k i : Nat) (left : List Int), (k : Int) = tot left → ∀ j x, left[j]? = some x → ((ordF k i left ps).count j : Int) = max 0 x := by
  intro k
  induction k with
  | zero =>
    intro i left hk j x hx
    have := max_le_tot left j x hx
    simp only [ordF, List.count_nil]; omega
  | succ k ih =>
    intro i left hk j x hx
    obtain ⟨y, h1, h2, h3, h4⟩ := who_spec (ps := ps) (i := i) (left := left) (by omega)
    have ht := after_tot (ps := ps) (i := i) (left := left) (by omega)
    rw [ordF, List.count_cons]
    by_cases e : who left ps i = j
    · subst e
      rw [hx] at h2
      cases h2
      have := ih (i + 1) (after left ps i) (by omega) (who left ps i) (x - 1) (by rw [h4, List.getElem?_set_self (lt_of_get hx)])
      simp only [beq_self_eq_true, if_true]
      omega
    · have := ih (i + 1) (after left ps i) (by omega) j x (by rw [h4, List.getElem?_set_ne e]; exact hx)
      have e' : (who left ps i == j) = false := by simp [e]
      rw [e']
      simp only [Bool.false_eq_true, if_false]
      omega

theorem count_ord (cs ps : List Int) (h : tot cs ≤ 65536) (j : Nat) (x : Int) (hx : cs[j]? = some x) : ((ord cs ps).count j : Int) = max 0 x := by
  unfold ord
  rw [if_neg (by omega)]
  have := tot_nonneg cs
  exact count_ordF ps _ 0 cs (by omega) j x hx

/-- Are there few, of all together? -/
theorem small_tells (l : List Int) (d : Nat) : ∀ (k i : Nat), i ≤ l.length → i ≤ 21 → l.length - i = d → 2 * d + 2 ≤ k → tot (l.take i) ≤ 200 * i →
    ∃ r, hoardlaw25_small.l0 k l (tot (l.take i)) (i : Int) = some r ∧ (r = true → tot l ≤ 400 ∧ l.length ≤ 20) := by
  induction d with
  | zero =>
    intro k i h1 h21 hd hk ht
    obtain ⟨k, rfl⟩ : ∃ m, k = m + 2 := ⟨k - 2, by omega⟩
    have e : l.take i = l := List.take_of_length_le (by omega)
    rw [hoardlaw25_small.l0, if_neg (by omega), hoardlaw25_small.j1, if_neg (by decide)]
    by_cases h20 : (l.length : Int) ≤ 20
    · rw [if_pos h20]
      refine ⟨_, rfl, fun h => ?_⟩
      have := of_decide_eq_true h
      rw [e] at this
      exact ⟨this, by omega⟩
    · rw [if_neg h20]; exact ⟨false, rfl, by simp⟩
  | succ d ih =>
    intro k i h1 h21 hd hk ht
    obtain ⟨k, rfl⟩ : ∃ m, k = m + 2 := ⟨k - 2, by omega⟩
    have hi : i < l.length := by omega
    have g1 : i + 1 ≤ l.length := hi
    have g2 : l.length - (i + 1) = d := by omega
    have g3 : 2 * d + 2 ≤ k := by omega
    have r1 : rd l (i : Int) = l[i] := by simp [rd, List.getD_eq_getElem?_getD, List.getElem?_eq_getElem hi]
    rw [hoardlaw25_small.l0, if_pos (by omega), hoardlaw25_small.j1]
    by_cases h20 : (i : Int) ≤ 20
    · rw [if_pos (by simpa using h20), if_pos (by omega), if_pos (by omega), r1]
      by_cases h2 : l[i] > 200
      · rw [if_pos h2]; exact ⟨false, rfl, by simp⟩
      · have hs := tot_succ l i l[i] (List.getElem?_eq_getElem hi)
        have h0 := tot_nonneg (l.take i)
        have e1 : wrap64 (tot (l.take i) + mx 0 l[i]) = tot (l.take (i + 1)) := by rw [hs]; unfold wrap64 mx; omega
        have e2 : wrap64 ((i : Int) + 1) = ((i + 1 : Nat) : Int) := by unfold wrap64; omega
        have g4 : i + 1 ≤ 21 := by clear e1 e2; omega
        have g5 : tot (l.take (i + 1)) ≤ 200 * ((i + 1 : Nat) : Int) := by clear e1 e2; omega
        rw [if_neg h2, e1, e2]
        exact ih k (i + 1) g1 g4 g2 g3 g5
    · rw [if_neg (by simpa using h20)]
      rw [if_neg (by omega)]
      exact ⟨false, rfl, by simp⟩

theorem small_calls (A : Option Addr) (c : Nat) (l : List Int) (w : World) (hA : RInt w A l) (hc : l.length ≤ c) :
    ∃ r : Bool, (r = true → tot l ≤ 400 ∧ l.length ≤ 20) ∧ Calls Try.prog 8 #[.slice A l.length c] w fun e w' => e = .returned (.bool r) ∧ Below w.heap.size w w' := by
  obtain ⟨r, hr, h⟩ := small_tells l l.length (2 * l.length + 2) 0 (by omega) (by omega) (by omega) (by omega) (by simp [tot])
  exact ⟨r, h, hoardlaw25_small.calls _ A c l r w (kd_of hA) hc (by simpa [hoardlaw25_small.f, tot] using hr)⟩

set_option maxHeartbeats 1600000 in
set_option maxRecDepth 100000 in
theorem all_calls (A C : Option Addr) (ca cc : Nat) (cs ps : List Int) (w : World) (hA : RInt w A cs) (hC : RInt w C ps) (hca : cs.length ≤ ca) :
    Calls Try.prog 4 #[.slice A cs.length ca, .slice C ps.length cc] w fun e w' => e = .returned (.bool true) ∧ Below w.heap.size w w' := by
  obtain ⟨r, hr, hs⟩ := small_calls A ca cs w hA hca
  have HS := Lib.hid hs
  have HA := Lib.hid hA
  have HC := Lib.hid hC
  clear hs hA hC hca
  cases r with
  | false =>
    clear hr
    go_enter Try.func4, Try.ntmps4
    go_wp2_with fail
    refine HS.out.mono ?_
    rintro e w1 ⟨rfl, b1⟩
    go_wp2
    go_ret
    exact ⟨rfl, b1⟩
  | true =>
    obtain ⟨ht, hl20⟩ := hr rfl
    by_cases hp : (500 : Int) < ps.length
    · go_enter Try.func4, Try.ntmps4
      go_wp2_with fail
      refine HS.out.mono ?_
      rintro e w1 ⟨rfl, b1⟩
      go_wp2
      go_ret
      exact ⟨rfl, b1⟩
    · go_enter Try.func4, Try.ntmps4
      go_wp2_with fail
      refine HS.out.mono ?_
      rintro e w1 ⟨rfl, b1⟩
      have B1 := Lib.hid b1
      clear b1
      go_wp2_with fail
      refine (order_calls A C ca cc cs ps _ (HA.out.below B1.out) (HC.out.below B1.out)).mono ?_
      rintro e w2 ⟨v, rfl, hv, b2⟩
      have B2 := Lib.hid (B1.out.trans (b2.mono B1.out.size))
      have hol : (ord cs ps).length = (tot cs).toNat := by unfold ord; rw [if_neg (by omega), ordF_length]
      have hov : w2.ownsRow w1.heap.size 3 1 v (ord cs ps).length (nats (ord cs ps)) := hv
      obtain ⟨oA, oc, rfl⟩ := own_form hv
      have HV := Lib.hid hov
      have RA := Lib.hid (HA.out.below B2.out)
      have cnt : ∀ j x, cs[j]? = some x → ((ord cs ps).count j : Int) = max 0 x := fun j x hx => count_ord cs ps (by omega) j x hx
      have CNT := Lib.hid cnt
      have hlen : (ord cs ps).length ≤ 400 := by have := tot_nonneg cs; omega
      have HL := Lib.hid hlen
      have H20 := Lib.hid hl20
      clear hv b2 hov cnt hlen hl20 hol ht hr
      generalize ord cs ps = os at *
      go_wp2_with fail
      go_loop [6] (fun v => ∃ i : Nat, i ≤ cs.length ∧ v = .int .i64 i) (fun v => cs.length - (intOf v).toNat)
      case atStart => exact ⟨0, by omega, rfl⟩
      case round =>
        obtain ⟨i, hi, rfl⟩ := hrel
        by_cases hlt : i < cs.length
        · obtain ⟨x, hx⟩ : ∃ x, cs[i]? = some x := ⟨_, List.getElem?_eq_getElem hlt⟩
          obtain ⟨b, o, rfl, hc⟩ := RA.out.get i x hx
          have hcn := CNT.out i x hx
          have i0 : (0 : Int) ≤ (i : Int) := by omega
          have i1 : (i : Int) < (cs.length : Int) := by omega
          have i2 : (i : Int) ≤ 20 := by have := H20.out; omega
          have HCN := Lib.hid hcn
          clear hcn hx
          go_wp2_with fail
          go_loop [7, 8] (fun t v => ∃ k : Nat, k ≤ os.length ∧ v = .int .i64 k ∧ t = .int .i64 ((os.take k).count i : Int)) (fun _ v => os.length - (intOf v).toNat)
          case atStart => exact ⟨0, by omega, rfl, by simp⟩
          case round =>
            obtain ⟨k, hk, rfl, rfl⟩ := hrel
            by_cases hk2 : k < os.length
            · obtain ⟨y, hy⟩ : ∃ y, os[k]? = some y := ⟨_, List.getElem?_eq_getElem hk2⟩
              obtain ⟨g, cap, hf, _, hcy, _⟩ := own_at_nat HV.out hy
              injection hf with hf1 _ hf3
              subst hf1 hf3
              have j0 : (0 : Int) ≤ (k : Int) := by omega
              have j1 : (k : Int) < (os.length : Int) := by omega
              have j2 : (k : Int) < 400 := by have := HL.out; omega
              have hcnt : (os.take (k + 1)).count i = (os.take k).count i + if y = i then 1 else 0 := by
                rw [List.take_add_one, hy, List.count_append]
                simp [List.count_cons]
              have hcb : ((os.take k).count i : Int) ≤ 400 := by
                have := List.count_le_length (a := i) (l := os.take k)
                have h2 : (os.take k).length ≤ k := List.length_take_le _ _
                omega
              have hcb0 : 0 ≤ ((os.take k).count i : Int) := by omega
              have HCT := Lib.hid hcnt
              clear hcnt hy
              by_cases e : y = i
              · have ei : ((y : Int) == (i : Int)) = true := by simp [e]
                have HE := Lib.hid e
                clear e
                go_wp2_with fail
                go_round
                case rel => exact ⟨k + 1, by omega, by go_num, by rw [HCT.out, if_pos HE.out]; go_num⟩
                case measure => simp [intOf]; omega
              · have ei : ((y : Int) == (i : Int)) = false := by simp; omega
                have HE := Lib.hid e
                clear e
                go_wp2_with fail
                go_round
                case rel => exact ⟨k + 1, by omega, by go_num, by rw [HCT.out, if_neg HE.out]; go_num⟩
                case measure => simp [intOf]; omega
            · have ek : os.take k = os := List.take_of_length_le (by omega)
              rw [ek]
              have hb1 : ((os.count i : Int) != max 0 x) = false := by rw [HCN.out]; simp
              go_wp2_with fail
              go_round
              case rel => exact ⟨i + 1, by omega, by go_num⟩
              case measure => simp [intOf]; omega
        · go_wp2_with (go_at_call 12; refine (known_calls _).mono ?_; rintro e w3 ⟨rfl, hb⟩)
          go_ret
          exact ⟨rfl, B2.out.trans (hb.mono B2.out.size)⟩

end Go.Proofs.Ytlnpjcamcefbkaa.Ra
