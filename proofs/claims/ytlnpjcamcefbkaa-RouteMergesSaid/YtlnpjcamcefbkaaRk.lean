/- Two rows of numbers; what is known of two clients. -/
import Derived.Test.YtlnpjcamcefbkaaRw
import Derived.Test.YtlnpjcamcefbkaaPRouteShardsx1
namespace Go.Proofs.Ytlnpjcamcefbkaa.Rw
open Go Go.RowKit Go.Proofs.Ytlnpjcamcefbkaa.K Go.Proofs.Ytlnpjcamcefbkaa.Ro Go.Proofs.Ytlnpjcamcefbkaa.PRouteShards Go.Proofs.YtlnpjcamcefbkaaW.PrintWords

theorem kd_of {w : World} {A : Option Addr} {l : List Int} (h : RInt w A l) : Kd.C (Kd.int .i64) w A l.length l := by
  refine ⟨rfl, by have := h.len; omega, fun h0 => ?_⟩
  obtain ⟨b, o, rfl, -⟩ := h.get 0 _ (List.getElem?_eq_getElem h0)
  refine ⟨_, rfl, fun j p hp => ⟨[.int .i64 p], rfl, rfl, fun i u hu => ?_⟩⟩
  obtain ⟨b', o', he, hc⟩ := h.get j p hp
  cases he
  cases i with
  | zero =>
    cases hu
    rw [K.add_plain']
    show w.cell? ⟨b, o + (j * 1 + 0), none⟩ = _
    rw [Nat.mul_one, Nat.add_zero]; exact hc
  | succ i => simp at hu

theorem numbers_l (l m : List Int) (hl : l.length = m.length) (hb : l.length * 8 ≤ 140737488351232) (d : Nat) : ∀ (k i : Nat), i ≤ l.length → l.length - i = d → d < k → l.take i = m.take i →
    hoardlaw25_numbers.l0 k l m (i : Int) = some (decide (l = m)) := by
  induction d with
  | zero =>
    intro k i h1 hd hk he
    obtain ⟨k, rfl⟩ : ∃ n, k = n + 1 := ⟨k - 1, by omega⟩
    have : l = m := by
      rw [List.take_of_length_le (by omega), List.take_of_length_le (by omega)] at he; exact he
    rw [hoardlaw25_numbers.l0, if_neg (by omega)]
    simp [this]
  | succ d ih =>
    intro k i h1 hd hk he
    obtain ⟨k, rfl⟩ : ∃ n, k = n + 1 := ⟨k - 1, by omega⟩
    have hi : i < l.length := by omega
    have hi' : i < m.length := by omega
    have r1 : rd l (i : Int) = l[i] := by simp [rd, List.getD_eq_getElem?_getD, List.getElem?_eq_getElem hi]
    have r2 : rd m (i : Int) = m[i] := by simp [rd, List.getD_eq_getElem?_getD, List.getElem?_eq_getElem hi']
    rw [hoardlaw25_numbers.l0, if_pos (by omega), if_pos (by omega), if_pos (by omega), r1, r2]
    by_cases e : l[i] = m[i]
    · have hw : wrap64 ((i : Int) + 1) = ((i + 1 : Nat) : Int) := by unfold wrap64; omega
      rw [if_pos e, hw]
      have ht : l.take (i + 1) = m.take (i + 1) := by
        rw [List.take_succ_eq_append_getElem hi, List.take_succ_eq_append_getElem hi', he, e]
      have h2 : i + 1 ≤ l.length := hi
      have h3 : l.length - (i + 1) = d := by rw [Nat.sub_add_eq, hd]; rfl
      have h4 : d < k := Nat.lt_of_succ_lt_succ hk
      exact ih k (i + 1) h2 h3 h4 ht
    · rw [if_neg e]
      have hne : ¬ l = m := fun h => e (by simp only [h])
      rw [decide_eq_false hne]

theorem numbers_calls (A B : Option Addr) (c d : Nat) (l m : List Int) (w : World) (hA : RInt w A l) (hB : RInt w B m) (hc : l.length ≤ c) (hd : m.length ≤ d) :
    Calls Try.prog 9 #[.slice A l.length c, .slice B m.length d] w fun e w' => e = .returned (.bool (decide (l = m))) ∧ ∃ n, w' = w.drewN n := by
  have hf : hoardlaw25_numbers.f (l.length + 1) l m = some (decide (l = m)) := by
    unfold hoardlaw25_numbers.f
    by_cases hl : l.length = m.length
    · rw [if_pos (by omega)]
      exact numbers_l l m hl hA.len l.length _ 0 (by omega) (by omega) (by omega) (by simp)
    · rw [if_neg (by omega)]
      have : l ≠ m := by rintro rfl; exact hl rfl
      simp [this]
  exact (hoardlaw25_numbers.calls _ A c l B d m _ w (kd_of hA) hc (kd_of hB) hd hf).mono fun _ _ ⟨he, ⟨n, hn⟩⟩ => ⟨he, n, hn⟩

theorem rint_new {w : World} {b : Nat} {xs : List Int} (h : w.heap[b]? = some (.cells (ints xs).toArray 3 (0, 0))) (hl : xs.length * 8 ≤ 140737488351232) : RInt w (some ⟨b, 0, none⟩) xs :=
  ⟨hl, fun i x hx => ⟨b, 0, rfl, by
    rw [cell_of h, Nat.zero_add]
    simp [ints, hx]⟩⟩

theorem known_calls (w : World) : Calls Try.prog 12 #[] w fun e w' => e = .returned (.bool true) ∧ Below w.heap.size w w' := by
  go_enter Try.func12, Try.ntmps12
  go_wp2_with fail
  have h1 : RInt ((w.alloc (.cells #[.int .i64 2, .int .i64 1] 3)).alloc (.cells #[.int .i64 1, .int .i64 0] 3)) (some ⟨w.heap.size, 0, none⟩) [2, 1] :=
    rint_new (block_alloc (block_new w _)) (by decide)
  have h2 : RInt ((w.alloc (.cells #[.int .i64 2, .int .i64 1] 3)).alloc (.cells #[.int .i64 1, .int .i64 0] 3)) (some ⟨w.heap.size + 1, 0, none⟩) [1, 0] :=
    rint_new (block_new' (by simp) _) (by decide)
  refine (order_calls _ _ 2 2 [2, 1] [1, 0] _ h1 h2).mono ?_
  rintro e w1 ⟨v, rfl, hv, hb⟩
  have ho : ord [2, 1] [1, 0] = [1, 0, 0] := by decide
  rw [ho] at hv
  have hv' : w1.ownsRow _ 3 1 v [1, 0, 0].length (([1, 0, 0] : List Int).map (Value.int .i64)) := hv
  obtain ⟨A, c, rfl, hA⟩ := RInt.of_own hv' (by decide)
  have hc : 3 ≤ c := by
    rcases hv'.2 with ⟨hh, h0⟩ | ⟨g, cap, cur, hh, _, _, hnc, _⟩
    · cases h0
    · injection hh with _ _ h3
      subst h3
      exact hnc
  have HA := Lib.hid (hA.below (w' := w1.alloc (.cells #[.int .i64 1, .int .i64 0, .int .i64 0] 3)) ((Below.refl _ _).alloc (Nat.le_refl _) _))
  have HB := Lib.hid (rint_new (xs := [1, 0, 0]) (block_new w1 (.cells #[.int .i64 1, .int .i64 0, .int .i64 0] 3)) (by decide))
  have HBB := Lib.hid hb
  clear hA hv hv' h1 h2 hb
  go_wp2_with (go_at_call 9; refine (numbers_calls _ _ _ _ [1, 0, 0] [1, 0, 0] _ HA.out HB.out hc (by decide)).mono ?_; rintro e w2 ⟨rfl, n, rfl⟩)
  go_ret
  refine ⟨rfl, ?_⟩
  have h0 : Below w.heap.size w ((w.alloc (.cells #[.int .i64 2, .int .i64 1] 3)).alloc (.cells #[.int .i64 1, .int .i64 0] 3)) :=
    ((Below.refl _ _).alloc (Nat.le_refl _) _).alloc (by simp) _
  have h3 := h0.trans (HBB.out.mono (by simp; omega))
  exact below_drewN (h3.alloc (Nat.le_trans (Nat.le_refl _) h3.size) _) _

end Go.Proofs.Ytlnpjcamcefbkaa.Rw
