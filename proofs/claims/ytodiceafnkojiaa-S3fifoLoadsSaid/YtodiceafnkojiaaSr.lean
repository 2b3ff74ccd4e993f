/- Slices of cells: where a key stands, a row without one cell. -/
import Derived.Test.YtodiceafnkojiaaSq
import Derived.Deep.LoopGhost
import Derived.OwnWalk
import Derived.IntWalk
namespace Go.Proofs.Ytodiceafnkojiaa.Sc
open Go Go.RowKit Go.Proofs.Ytodiceafnkojiaa.K
open Go.Proofs.Ytodiceafnkojiaa.Li (more more_lt own_form')

section
variable {w : World} {A : Option Addr} {xs : Cs} {cap : Nat}

theorem q_at_yes (h : RC w A xs) (_hc : xs.length ≤ cap) (hl : xs.length ≤ 1000000) {key : ByteArray} {i n : Nat} (hi : xs[i]? = some (key, n)) (hno : ∀ (j : Nat) (x : ByteArray × Nat), j < i → xs[j]? = some x → x.1 ≠ key) :
    Calls Try.prog 70 #[.slice A xs.length cap, .string key] w (fun e w' => e = .returned (.int .i64 (i : Int)) ∧ w = w') := by
  obtain ⟨N, hN⟩ : ∃ N, N = xs.length := ⟨_, rfl⟩
  rw [← hN] at _hc hl ⊢
  have hiN : i < N := by rw [hN]; exact lt_of_getElem? hi
  have HN := Lib.hid hN
  have H := Lib.hid h
  have HI := Lib.hid hi
  have HNO := Lib.hid hno
  clear h hN hi hno
  go_enter Try.func70, Try.ntmps70
  go_wp2_with fail
  go_loopg [5] i (fun k v5 wr => w = wr ∧ ∃ j : Nat, j ≤ i ∧ k = i - j ∧ v5 = .int .i64 (j : Int))
  case atStart => exact ⟨rfl, 0, by omega, by omega, rfl⟩
  case round =>
    obtain ⟨rfl, j, hj, hgk, rfl⟩ := hrel
    have HGK := Lib.hid hgk
    clear hgk
    have z0 : (0 : Int) ≤ (j : Int) := by omega
    have z1 : (j : Int) < (N : Int) := by omega
    rcases Nat.eq_or_lt_of_le hj with rfl | hjl
    · obtain ⟨g, o, rfl, hcell, -⟩ := H.out j _ HI.out
      dsimp only at hcell
      go_wp2_with fail
      go_ret
      exact ⟨rfl, rfl⟩
    · obtain ⟨s, hs⟩ : ∃ s, xs[j]? = some s := ⟨_, List.getElem?_eq_getElem (by rw [← HN.out]; omega)⟩
      obtain ⟨g, o, rfl, hcell, -⟩ := H.out j s hs
      have dS := Sl.ne_list (HNO.out j s hjl hs)
      clear hs
      generalize s.1 = k at *
      go_wp2_with fail
      go_roundg (i - (j + 1))
      case measure => rw [HGK.out]; omega
      case rel => exact ⟨rfl, j + 1, hjl, rfl, rfl⟩

theorem q_at_no (h : RC w A xs) (hc : xs.length ≤ cap) (hl : xs.length ≤ 1000000) {key : ByteArray} (hno : ∀ (j : Nat) (x : ByteArray × Nat), xs[j]? = some x → x.1 ≠ key) :
    Calls Try.prog 70 #[.slice A xs.length cap, .string key] w (fun e w' => e = .returned (.int .i64 (-1)) ∧ w = w') := by
  obtain ⟨N, hN⟩ : ∃ N, N = xs.length := ⟨_, rfl⟩
  rw [← hN] at hc hl ⊢
  have HN := Lib.hid hN
  have H := Lib.hid h
  have HNO := Lib.hid hno
  clear h hN hno
  go_enter Try.func70, Try.ntmps70
  go_wp2_with fail
  go_loopg [5] N (fun k v5 wr => w = wr ∧ ∃ j : Nat, j ≤ N ∧ k = N - j ∧ v5 = .int .i64 (j : Int))
  case atStart => exact ⟨rfl, 0, by omega, by omega, rfl⟩
  case round =>
    obtain ⟨rfl, j, hj, hgk, rfl⟩ := hrel
    have HGK := Lib.hid hgk
    clear hgk
    rcases Nat.eq_or_lt_of_le hj with rfl | hjl
    · go_wp2_with fail
      go_ret
      exact ⟨rfl, rfl⟩
    · obtain ⟨s, hs⟩ : ∃ s, xs[j]? = some s := ⟨_, List.getElem?_eq_getElem (by rw [← HN.out]; omega)⟩
      obtain ⟨g, o, rfl, hcell, -⟩ := H.out j s hs
      have dS := Sl.ne_list (HNO.out j s hs)
      have z0 : (0 : Int) ≤ (j : Int) := by omega
      have z1 : (j : Int) < (N : Int) := by omega
      clear hs
      generalize s.1 = k at *
      go_wp2_with fail
      go_roundg (N - (j + 1))
      case measure => rw [HGK.out]; omega
      case rel => exact ⟨rfl, j + 1, hjl, rfl, rfl⟩

/-- What without leaves. -/
def WPost (xs : Cs) (i : Nat) (w : World) (e : Ending) (w' : World) : Prop :=
  ∃ v, e = .returned v ∧ w'.ownsRow w.heap.size 77 2 v (xs.length - 1) (fl (xs.eraseIdx i)) ∧ Below w.heap.size w w'

theorem fl_take_get {i j : Nat} {u : Value} (h : (fl (xs.take i))[j]? = some u) : (fl xs)[j]? = some u := by
  have e : fl xs = fl (xs.take i) ++ fl (xs.drop i) := by rw [← fl_append, List.take_append_drop]
  rw [e, List.getElem?_append_left (lt_of_getElem? h)]
  exact h
theorem fl_drop_get {i j : Nat} {u : Value} (hi : i ≤ xs.length) (h : (fl (xs.drop i))[j]? = some u) : (fl xs)[i * 2 + j]? = some u := by
  have e : fl xs = fl (xs.take i) ++ fl (xs.drop i) := by rw [← fl_append, List.take_append_drop]
  have hl : (fl (xs.take i)).length = i * 2 := by rw [fl_length, List.length_take]; congr 1; omega
  rw [e, List.getElem?_append_right (by omega), hl, Nat.add_sub_cancel_left]
  exact h

set_option maxHeartbeats 800000 in
theorem q_without {F : Nat → Prop} (h : Sc w (.slice A xs.length cap) F xs) {i : Nat} (hi : i < xs.length) (hl : xs.length ≤ 100000) :
    Calls Try.prog 72 #[.slice A xs.length cap, .int .i64 (i : Int)] w (WPost xs i w) := by
  rcases h with ⟨h1, rfl⟩ | ⟨g, o, cap', cur, h1, h2, h3, h4, h5, h6, h7⟩
  · simp at hi
  cases h1
  unfold maxLen at h4
  have hc : ∀ j u, (fl xs)[j]? = some u → w.cell? ⟨g, o + j, none⟩ = some u := fun j u hj => by rw [cell_of h2]; exact h6 j u hj
  have W0 : Hid (Below w.heap.size w (w.alloc (.cells #[] 77)).drew) := Lib.hid (((Below.refl _ _).alloc (Nat.le_refl _) _).trans (below_drewN (Below.refl _ _) 1))
  have hcb : ∀ w', Below w.heap.size w w' → ∀ j u, (fl xs)[j]? = some u → w'.cell? ⟨g, o + j, none⟩ = some u := fun w' hb j u hj => by
    have := hc j u hj
    rw [hb.cell (p := ⟨g, o + j, none⟩) (World.block_lt_of_cell? w _ this)]; exact this
  have C1 : Hid (∀ w', Below w.heap.size w w' → ∀ j u, (fl (xs.take i))[j]? = some u → w'.cell? ⟨g, o + j, none⟩ = some u) := Lib.hid (fun w' hb j u hj => hcb w' hb j u (fl_take_get hj))
  have C2 : Hid (∀ w', Below w.heap.size w w' → ∀ j u, (fl (xs.drop (i + 1)))[j]? = some u → w'.cell? ⟨g, o + (i + 1) * 2 + j, none⟩ = some u) := Lib.hid (fun w' hb j u hj => by
    have := hcb w' hb _ u (fl_drop_get (by omega) hj)
    rw [Nat.add_assoc]; exact this)
  have OW : Hid ((w.alloc (.cells #[] 77)).drew.ownsRow w.heap.size 77 2 (.slice (some ⟨w.heap.size, 0, none⟩) 0 0) 0 []) := Lib.hid (World.ownsRow_lit w #[] 0 (Nat.le_refl _) (by unfold maxLen; omega) rfl)
  have L1 : Hid (i = (xs.take i).length) := Lib.hid (by simp; omega)
  have L2 : Hid (xs.length - (i + 1) = (xs.drop (i + 1)).length) := Lib.hid (by simp)
  have HE : Hid (fl (xs.take i) ++ fl (xs.drop (i + 1)) = fl (xs.eraseIdx i) ∧ (xs.take i).length + (xs.drop (i + 1)).length = xs.length - 1) := Lib.hid ⟨by rw [← fl_append, List.eraseIdx_eq_take_drop_succ], by simp; omega⟩
  obtain ⟨N, hN⟩ : ∃ N, N = xs.length := ⟨_, rfl⟩
  have b1 : (xs.take i).length ≤ 1000000 := by simp; omega
  have b2 : (xs.drop (i + 1)).length ≤ 1000000 := by simp; omega
  rw [← hN] at hi hl h3 L2
  have HN := Lib.hid hN
  unfold WPost
  rw [← hN]
  rw [← hN] at HE
  clear hc hcb h2 h5 h6 h7 hN
  generalize xs.take i = ys at *
  generalize xs.drop (i + 1) = zs at *
  generalize fl (xs.eraseIdx i) = E at *
  obtain ⟨m, hm⟩ : ∃ m, m = i + 1 := ⟨_, rfl⟩
  rw [← hm] at C2 L2
  have z0 : (0 : Int) ≤ (i : Int) := by omega
  have z1 : (i : Int) ≤ (cap : Int) := by omega
  have z2 : (m : Int) ≤ (N : Int) := by omega
  have z3 : (0 : Int) ≤ (m : Int) := by omega
  have z4 : (i : Int) ≤ (m : Int) := by omega
  have hw : IntKind.i64.wrap ((i : Int) + 1) = (m : Int) := by rw [show IntKind.i64.wrap ((i : Int) + 1) = (i : Int) + 1 from IntWalk.i64_in _ (by omega)]; omega
  clear hm
  by_cases hcap : cap = m
  · have hz : zs = [] := by
      have := L2.out
      exact List.length_eq_zero_iff.1 (by omega)
    have C3 : Hid (∀ w' : World, ∀ j u, (fl zs)[j]? = some u → w'.cell? ⟨g, o + j, none⟩ = some u) := Lib.hid (fun w' j u hj => by rw [hz] at hj; simp [fl] at hj)
    go_enter Try.func72, Try.ntmps72
    go_wp2_with fail
    refine wp_region_held_drew (S := fun _ => True) (by kernel_rfl) ?_ (fun hHeld => ?_)
    · trivial
    refine wpAnyH_take (i := 1) (v := ?_) rfl (by kernel_rfl) (by kernel_rfl) (by kernel_rfl) (fun _ _ _ h => h) (Or.inl ⟨by rfl, ?_⟩) (by assumption) ?_
    rotate_left
    · (intro w hSw; (try dsimp only at hSw); go_simp; first | done | with_reducible rfl)
    simp only [Act.put, List.getElem_toArray, List.getElem_cons_zero, List.getElem_cons_succ, List.setIfInBounds_toArray, List.set_cons_zero, List.set_cons_succ]
    refine wpAnyH_take (i := 2) (v := ?_) rfl (by kernel_rfl) (by kernel_rfl) (by kernel_rfl) (fun _ _ _ h => h) (Or.inl ⟨by rfl, ?_⟩) (by assumption) ?_
    rotate_left
    · (intro w hSw; (try dsimp only at hSw); go_simp; first | done | with_reducible rfl)
    simp only [Act.put, List.getElem_toArray, List.getElem_cons_zero, List.getElem_cons_succ, List.setIfInBounds_toArray, List.set_cons_zero, List.set_cons_succ]
    refine wpAnyH_take (i := 3) (v := ?_) rfl (by kernel_rfl) (by kernel_rfl) (by kernel_rfl) (fun _ _ _ h => h) (Or.inl ⟨by rfl, ?_⟩) (by assumption) ?_
    rotate_left
    · (intro w hSw; (try dsimp only at hSw); go_simp; first | done | with_reducible rfl)
    simp only [Act.put, List.getElem_toArray, List.getElem_cons_zero, List.getElem_cons_succ, List.setIfInBounds_toArray, List.set_cons_zero, List.set_cons_succ]
    refine wpAnyH_take (i := 5) (v := ?_) rfl (by kernel_rfl) (by kernel_rfl) (by kernel_rfl) (fun _ _ _ h => h) (Or.inl ⟨by rfl, ?_⟩) (by assumption) ?_
    rotate_left
    · (intro w hSw; (try dsimp only at hSw); go_simp; first | done | with_reducible rfl)
    simp only [Act.put, List.getElem_toArray, List.getElem_cons_zero, List.getElem_cons_succ, List.setIfInBounds_toArray, List.set_cons_zero, List.set_cons_succ]
    refine wpAnyH_take (i := 6) (v := ?_) rfl (by kernel_rfl) (by kernel_rfl) (by kernel_rfl) (fun _ _ _ h => h) (Or.inl ⟨by rfl, ?_⟩) (by assumption) ?_
    rotate_left
    · (intro w hSw; (try dsimp only at hSw); go_simp; first | done | with_reducible rfl)
    simp only [Act.put, List.getElem_toArray, List.getElem_cons_zero, List.getElem_cons_succ, List.setIfInBounds_toArray, List.set_cons_zero, List.set_cons_succ]
    refine wpAnyH_take (i := 7) (v := ?_) rfl (by kernel_rfl) (by kernel_rfl) (by kernel_rfl) (fun _ _ _ h => h) (Or.inl ⟨by rfl, ?_⟩) (by assumption) ?_
    rotate_left
    · (intro w hSw; (try dsimp only at hSw); go_simp; first | done | with_reducible rfl)
    simp only [Act.put, List.getElem_toArray, List.getElem_cons_zero, List.getElem_cons_succ, List.setIfInBounds_toArray, List.set_cons_zero, List.set_cons_succ]
    refine wpAnyH_take (i := 8) (v := ?_) rfl (by kernel_rfl) (by kernel_rfl) (by kernel_rfl) (fun _ _ _ h => h) (Or.inl ⟨by rfl, ?_⟩) (by assumption) ?_
    rotate_left
    · (intro w hSw; (try dsimp only at hSw); go_simp; first | done | with_reducible rfl)
    simp only [Act.put, List.getElem_toArray, List.getElem_cons_zero, List.getElem_cons_succ, List.setIfInBounds_toArray, List.set_cons_zero, List.set_cons_succ]
    refine wpAnyH_ready (rs := [0]) (by kernel_rfl) (by simp) ?_
    refine AllReadyH.cons rfl (fun K hK => ?_) ?_
    rotate_left
    · exact AllReadyH.nil
    go_simp
    refine hK.out _ _ ?_ (fun hHeld => ?_)
    · trivial
    clear hK K
    try simp only [Act.put, List.getElem_toArray, List.getElem_cons_zero, List.getElem_cons_succ, List.setIfInBounds_toArray, List.set_cons_zero, List.set_cons_succ]
    refine wpAnyH_ready (rs := [4]) (by kernel_rfl) (by simp) ?_
    refine AllReadyH.cons rfl (fun K hK => ?_) ?_
    rotate_left
    · exact AllReadyH.nil
    refine step_cat (by rfl) (.tmp 5) (.tmp 8) (by rfl) OW.out W0.out.size (xs := ys) (C1.out _ W0.out) (by omega) b1 _ _ L1.out (by rfl) (by rfl) ?_; intro v' w2 ho hg; have hb2 := W0.out.grown hg W0.out.size (fun g hg => (OW.out.lt g hg).1); have HO2 := Lib.hid ho; have HB2 := Lib.hid hb2; clear ho hg hb2
    refine hK.out _ _ ?_ (fun hHeld => ?_)
    · trivial
    clear hK K
    try simp only [Act.put, List.getElem_toArray, List.getElem_cons_zero, List.getElem_cons_succ, List.setIfInBounds_toArray, List.set_cons_zero, List.set_cons_succ]
    refine wpAnyH_ready (rs := [9]) (by kernel_rfl) (by simp) ?_
    refine AllReadyH.cons rfl (fun K hK => ?_) ?_
    rotate_left
    · exact AllReadyH.nil
    refine step_cat (by rfl) (.tmp 9) (.tmp 13) (by rfl) HO2.out HB2.out.size (xs := zs) (C3.out _) (by omega) b2 _ _ L2.out (by rfl) (by rfl) ?_; intro v'' w3 ho hg; have hb3 := HB2.out.grown hg HB2.out.size (fun g hg => (HO2.out.lt g hg).1); have HO3 := Lib.hid ho; have HB3 := Lib.hid hb3; clear ho hg hb3
    refine hK.out _ _ ?_ (fun hHeld => ?_)
    · trivial
    clear hK K
    try simp only [Act.put, List.getElem_toArray, List.getElem_cons_zero, List.getElem_cons_succ, List.setIfInBounds_toArray, List.set_cons_zero, List.set_cons_succ]
    refine wpAnyH_take (i := 10) (v := ?_) rfl (by kernel_rfl) (by kernel_rfl) (by kernel_rfl) (fun _ _ _ h => h) (Or.inl ⟨by rfl, ?_⟩) (by assumption) ?_
    rotate_left
    · (intro w hSw; (try dsimp only at hSw); go_simp; first | done | with_reducible rfl)
    simp only [Act.put, List.getElem_toArray, List.getElem_cons_zero, List.getElem_cons_succ, List.setIfInBounds_toArray, List.set_cons_zero, List.set_cons_succ]
    refine wpAnyH_done (by kernel_rfl) ?_ _
    go_wp2_with fail
    go_ret
    refine ⟨v'', rfl, ?_, HB3.out⟩
    have h3 := HO3.out
    rw [List.nil_append, HE.out.1, Nat.zero_add, HE.out.2] at h3
    exact h3
  · have C3 : Hid (∀ w', Below w.heap.size w w' → ∀ j u, (fl zs)[j]? = some u → w'.cell? ⟨g, o + m * 2 + j, none⟩ = some u) := C2
    go_enter Try.func72, Try.ntmps72
    go_wp2_with fail
    refine wp_region_held_drew (S := fun _ => True) (by kernel_rfl) ?_ (fun hHeld => ?_)
    · trivial
    refine wpAnyH_take (i := 1) (v := ?_) rfl (by kernel_rfl) (by kernel_rfl) (by kernel_rfl) (fun _ _ _ h => h) (Or.inl ⟨by rfl, ?_⟩) (by assumption) ?_
    rotate_left
    · (intro w hSw; (try dsimp only at hSw); go_simp; first | done | with_reducible rfl)
    simp only [Act.put, List.getElem_toArray, List.getElem_cons_zero, List.getElem_cons_succ, List.setIfInBounds_toArray, List.set_cons_zero, List.set_cons_succ]
    refine wpAnyH_take (i := 2) (v := ?_) rfl (by kernel_rfl) (by kernel_rfl) (by kernel_rfl) (fun _ _ _ h => h) (Or.inl ⟨by rfl, ?_⟩) (by assumption) ?_
    rotate_left
    · (intro w hSw; (try dsimp only at hSw); go_simp; first | done | with_reducible rfl)
    simp only [Act.put, List.getElem_toArray, List.getElem_cons_zero, List.getElem_cons_succ, List.setIfInBounds_toArray, List.set_cons_zero, List.set_cons_succ]
    refine wpAnyH_take (i := 3) (v := ?_) rfl (by kernel_rfl) (by kernel_rfl) (by kernel_rfl) (fun _ _ _ h => h) (Or.inl ⟨by rfl, ?_⟩) (by assumption) ?_
    rotate_left
    · (intro w hSw; (try dsimp only at hSw); go_simp; first | done | with_reducible rfl)
    simp only [Act.put, List.getElem_toArray, List.getElem_cons_zero, List.getElem_cons_succ, List.setIfInBounds_toArray, List.set_cons_zero, List.set_cons_succ]
    refine wpAnyH_take (i := 5) (v := ?_) rfl (by kernel_rfl) (by kernel_rfl) (by kernel_rfl) (fun _ _ _ h => h) (Or.inl ⟨by rfl, ?_⟩) (by assumption) ?_
    rotate_left
    · (intro w hSw; (try dsimp only at hSw); go_simp; first | done | with_reducible rfl)
    simp only [Act.put, List.getElem_toArray, List.getElem_cons_zero, List.getElem_cons_succ, List.setIfInBounds_toArray, List.set_cons_zero, List.set_cons_succ]
    refine wpAnyH_take (i := 6) (v := ?_) rfl (by kernel_rfl) (by kernel_rfl) (by kernel_rfl) (fun _ _ _ h => h) (Or.inl ⟨by rfl, ?_⟩) (by assumption) ?_
    rotate_left
    · (intro w hSw; (try dsimp only at hSw); go_simp; first | done | with_reducible rfl)
    simp only [Act.put, List.getElem_toArray, List.getElem_cons_zero, List.getElem_cons_succ, List.setIfInBounds_toArray, List.set_cons_zero, List.set_cons_succ]
    refine wpAnyH_take (i := 7) (v := ?_) rfl (by kernel_rfl) (by kernel_rfl) (by kernel_rfl) (fun _ _ _ h => h) (Or.inl ⟨by rfl, ?_⟩) (by assumption) ?_
    rotate_left
    · (intro w hSw; (try dsimp only at hSw); go_simp; first | done | with_reducible rfl)
    simp only [Act.put, List.getElem_toArray, List.getElem_cons_zero, List.getElem_cons_succ, List.setIfInBounds_toArray, List.set_cons_zero, List.set_cons_succ]
    refine wpAnyH_take (i := 8) (v := ?_) rfl (by kernel_rfl) (by kernel_rfl) (by kernel_rfl) (fun _ _ _ h => h) (Or.inl ⟨by rfl, ?_⟩) (by assumption) ?_
    rotate_left
    · (intro w hSw; (try dsimp only at hSw); go_simp; first | done | with_reducible rfl)
    simp only [Act.put, List.getElem_toArray, List.getElem_cons_zero, List.getElem_cons_succ, List.setIfInBounds_toArray, List.set_cons_zero, List.set_cons_succ]
    refine wpAnyH_ready (rs := [0]) (by kernel_rfl) (by simp) ?_
    refine AllReadyH.cons rfl (fun K hK => ?_) ?_
    rotate_left
    · exact AllReadyH.nil
    go_simp
    refine hK.out _ _ ?_ (fun hHeld => ?_)
    · trivial
    clear hK K
    try simp only [Act.put, List.getElem_toArray, List.getElem_cons_zero, List.getElem_cons_succ, List.setIfInBounds_toArray, List.set_cons_zero, List.set_cons_succ]
    refine wpAnyH_ready (rs := [4]) (by kernel_rfl) (by simp) ?_
    refine AllReadyH.cons rfl (fun K hK => ?_) ?_
    rotate_left
    · exact AllReadyH.nil
    refine step_cat (by rfl) (.tmp 5) (.tmp 8) (by rfl) OW.out W0.out.size (xs := ys) (C1.out _ W0.out) (by omega) b1 _ _ L1.out (by rfl) (by rfl) ?_; intro v' w2 ho hg; have hb2 := W0.out.grown hg W0.out.size (fun g hg => (OW.out.lt g hg).1); have HO2 := Lib.hid ho; have HB2 := Lib.hid hb2; clear ho hg hb2
    refine hK.out _ _ ?_ (fun hHeld => ?_)
    · trivial
    clear hK K
    try simp only [Act.put, List.getElem_toArray, List.getElem_cons_zero, List.getElem_cons_succ, List.setIfInBounds_toArray, List.set_cons_zero, List.set_cons_succ]
    refine wpAnyH_ready (rs := [9]) (by kernel_rfl) (by simp) ?_
    refine AllReadyH.cons rfl (fun K hK => ?_) ?_
    rotate_left
    · exact AllReadyH.nil
    refine step_cat (by rfl) (.tmp 9) (.tmp 13) (by rfl) HO2.out HB2.out.size (xs := zs) (C3.out _ HB2.out) (by omega) b2 _ _ L2.out (by rfl) (by rfl) ?_; intro v'' w3 ho hg; have hb3 := HB2.out.grown hg HB2.out.size (fun g hg => (HO2.out.lt g hg).1); have HO3 := Lib.hid ho; have HB3 := Lib.hid hb3; clear ho hg hb3
    refine hK.out _ _ ?_ (fun hHeld => ?_)
    · trivial
    clear hK K
    try simp only [Act.put, List.getElem_toArray, List.getElem_cons_zero, List.getElem_cons_succ, List.setIfInBounds_toArray, List.set_cons_zero, List.set_cons_succ]
    refine wpAnyH_take (i := 10) (v := ?_) rfl (by kernel_rfl) (by kernel_rfl) (by kernel_rfl) (fun _ _ _ h => h) (Or.inl ⟨by rfl, ?_⟩) (by assumption) ?_
    rotate_left
    · (intro w hSw; (try dsimp only at hSw); go_simp; first | done | with_reducible rfl)
    simp only [Act.put, List.getElem_toArray, List.getElem_cons_zero, List.getElem_cons_succ, List.setIfInBounds_toArray, List.set_cons_zero, List.set_cons_succ]
    refine wpAnyH_done (by kernel_rfl) ?_ _
    go_wp2_with fail
    go_ret
    refine ⟨v'', rfl, ?_, HB3.out⟩
    have h3 := HO3.out
    rw [List.nil_append, HE.out.1, Nat.zero_add, HE.out.2] at h3
    exact h3
end

end Go.Proofs.Ytodiceafnkojiaa.Sc
