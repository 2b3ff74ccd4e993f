/- S3-FIFO's reference in memory: Load, Remove, New. -/
import Derived.Test.YtodiceafnkojiaaZb
import Derived.Test.YtodiceafnkojiaaQf
namespace Go.Proofs.Ytodiceafnkojiaa.Rf
open Go Go.RowKit Go.Proofs.Ytodiceafnkojiaa.K Go.Proofs.Ytodiceafnkojiaa.Sl Go.Proofs.Ytodiceafnkojiaa.Eg
open Go.Proofs.Ytodiceafnkojiaa.Li (more more_lt own_form' infoS)
open Go.Proofs.Ytodiceafnkojiaa.Rw (upd upd_same upd_other less less_same less_not cell_below cell_upd own_mono own_below)
open Go.Proofs.Ytodiceafnkojiaa.Sc (Cs fl RC)

section
variable {w0 w w' : World} {b c : Nat} {F : Nat → Prop} {v : Nat → Value} {Fs : Nat → Nat → Prop} {K : Ks} {X : X3}

set_option maxHeartbeats 800000 in
theorem rload_has (h : Ref w b F c K) {key : ByteArray} (hh : has K key = true) :
    Calls Try.prog 50 #[.pointer (some ⟨b, 0, none⟩), .string key] w fun e w' => e = .returned (.bool false) ∧ Below w.heap.size w w' := by
  have L := Lib.hid (ref_has (h.drewN 1) key)
  rw [hh] at L
  have c3 : w.cell? ⟨b, 3, none⟩ = some (.int .i64 (c : Int)) := by obtain ⟨v, Fs, hm, -⟩ := h; exact hm.cells.2.2.2
  clear h hh
  go_enter Try.func50, Try.ntmps50
  go_wp2_with fail
  refine wp_region_held_drew (S := fun w' => w'.cell? ⟨b, 3, none⟩ = some (.int .i64 (c : Int))) (by kernel_rfl) ?_ (fun hHeld => ?_)
  · exact c3
  refine wpAnyH_take (i := 0) (v := ?_) rfl (by kernel_rfl) (by kernel_rfl) (by kernel_rfl) (fun _ _ _ h => h) (Or.inl ⟨by rfl, ?_⟩) (by assumption) ?_
  rotate_left
  · (intro w hSw; (try dsimp only at hSw); go_simp; first | done | with_reducible rfl)
  simp only [Act.put, List.getElem_toArray, List.getElem_cons_zero, List.setIfInBounds_toArray, List.set_cons_zero, List.set_cons_succ]
  refine wpAnyH_take (i := 1) (v := ?_) rfl (by kernel_rfl) (by kernel_rfl) (by kernel_rfl) (fun _ _ _ h => h) (Or.inl ⟨by rfl, ?_⟩) (by assumption) ?_
  rotate_left
  · (intro w hSw; (try dsimp only at hSw); go_simp; first | done | with_reducible rfl)
  simp only [Act.put, List.getElem_toArray, List.getElem_cons_zero, List.getElem_cons_succ, List.setIfInBounds_toArray, List.set_cons_zero, List.set_cons_succ]
  refine wpAnyH_ready (rs := [2]) (by kernel_rfl) (by simp) ?_
  refine AllReadyH.cons rfl (fun K hK => ?_) ?_
  rotate_left
  · exact AllReadyH.nil
  go_simp
  refine L.out.mono ?_; rintro e w1 ⟨rfl, rfl⟩; go_simp
  refine hK.out _ _ ?_ (fun hHeld => ?_)
  · exact c3
  clear hK K
  try simp only [Act.put, List.getElem_toArray, List.getElem_cons_zero, List.getElem_cons_succ, List.setIfInBounds_toArray, List.set_cons_zero, List.set_cons_succ]
  refine wpAnyH_take (i := 3) (v := ?_) rfl (by kernel_rfl) (by kernel_rfl) (by kernel_rfl) (fun _ _ _ h => h) (Or.inl ⟨by rfl, ?_⟩) (by assumption) ?_
  rotate_left
  · (intro w hSw; (try dsimp only at hSw); go_simp; first | done | with_reducible rfl)
  simp only [Act.put, List.getElem_toArray, List.getElem_cons_zero, List.getElem_cons_succ, List.setIfInBounds_toArray, List.set_cons_zero, List.set_cons_succ]
  refine wpAnyH_take (i := 4) (v := undef) rfl (by kernel_rfl) (by kernel_rfl) (by kernel_rfl) (fun _ _ _ h => h) (Or.inr ⟨by rfl, rfl⟩) (by assumption) ?_
  simp only [Act.put, List.getElem_toArray, List.getElem_cons_zero, List.getElem_cons_succ, List.setIfInBounds_toArray, List.set_cons_zero, List.set_cons_succ]
  refine wpAnyH_take (i := 5) (v := undef) rfl (by kernel_rfl) (by kernel_rfl) (by kernel_rfl) (fun _ _ _ h => h) (Or.inr ⟨by rfl, rfl⟩) (by assumption) ?_
  simp only [Act.put, List.getElem_toArray, List.getElem_cons_zero, List.getElem_cons_succ, List.setIfInBounds_toArray, List.set_cons_zero, List.set_cons_succ]
  refine wpAnyH_take (i := 6) (v := undef) rfl (by kernel_rfl) (by kernel_rfl) (by kernel_rfl) (fun _ _ _ h => h) (Or.inr ⟨by rfl, rfl⟩) (by assumption) ?_
  simp only [Act.put, List.getElem_toArray, List.getElem_cons_zero, List.getElem_cons_succ, List.setIfInBounds_toArray, List.set_cons_zero, List.set_cons_succ]
  refine wpAnyH_take (i := 7) (v := undef) rfl (by kernel_rfl) (by kernel_rfl) (by kernel_rfl) (fun _ _ _ h => h) (Or.inr ⟨by rfl, rfl⟩) (by assumption) ?_
  simp only [Act.put, List.getElem_toArray, List.getElem_cons_zero, List.getElem_cons_succ, List.setIfInBounds_toArray, List.set_cons_zero, List.set_cons_succ]
  refine wpAnyH_take (i := 8) (v := undef) rfl (by kernel_rfl) (by kernel_rfl) (by kernel_rfl) (fun _ _ _ h => h) (Or.inr ⟨by rfl, rfl⟩) (by assumption) ?_
  simp only [Act.put, List.getElem_toArray, List.getElem_cons_zero, List.getElem_cons_succ, List.setIfInBounds_toArray, List.set_cons_zero, List.set_cons_succ]
  refine wpAnyH_take (i := 9) (v := undef) rfl (by kernel_rfl) (by kernel_rfl) (by kernel_rfl) (fun _ _ _ h => h) (Or.inr ⟨by rfl, rfl⟩) (by assumption) ?_
  simp only [Act.put, List.getElem_toArray, List.getElem_cons_zero, List.getElem_cons_succ, List.setIfInBounds_toArray, List.set_cons_zero, List.set_cons_succ]
  refine wpAnyH_take (i := 10) (v := undef) rfl (by kernel_rfl) (by kernel_rfl) (by kernel_rfl) (fun _ _ _ h => h) (Or.inr ⟨by rfl, rfl⟩) (by assumption) ?_
  simp only [Act.put, List.getElem_toArray, List.getElem_cons_zero, List.getElem_cons_succ, List.setIfInBounds_toArray, List.set_cons_zero, List.set_cons_succ]
  refine wpAnyH_take (i := 11) (v := ?_) rfl (by kernel_rfl) (by kernel_rfl) (by kernel_rfl) (fun _ _ _ h => h) (Or.inl ⟨by rfl, ?_⟩) (by assumption) ?_
  rotate_left
  · (intro w hSw; (try dsimp only at hSw); go_simp; first | done | with_reducible rfl)
  simp only [Act.put, List.getElem_toArray, List.getElem_cons_zero, List.getElem_cons_succ, List.setIfInBounds_toArray, List.set_cons_zero, List.set_cons_succ]
  refine wpAnyH_done (by kernel_rfl) ?_ _
  go_wp2_with fail
  go_ret
  exact ⟨rfl, below_drewN (Below.refl _ _) 1⟩

set_option maxHeartbeats 800000 in
theorem rload_full (h : Ref w b F c K) {key : ByteArray} (hh : has K key = false) (hl : len K = c) :
    Calls Try.prog 50 #[.pointer (some ⟨b, 0, none⟩), .string key] w fun e w' => e = .returned (.bool false) ∧ Below w.heap.size w w' := by
  have L := Lib.hid (ref_has (h.drewN 1) key)
  have LN := Lib.hid (ref_len (h.drewN 1))
  rw [hh] at L
  rw [hl] at LN
  have c3 : w.cell? ⟨b, 3, none⟩ = some (.int .i64 (c : Int)) := by obtain ⟨v, Fs, hm, -⟩ := h; exact hm.cells.2.2.2
  clear h hh hl
  go_enter Try.func50, Try.ntmps50
  go_wp2_with fail
  refine wp_region_held_drew (S := fun w' => w'.cell? ⟨b, 3, none⟩ = some (.int .i64 (c : Int))) (by kernel_rfl) ?_ (fun hHeld => ?_)
  · exact c3
  refine wpAnyH_take (i := 0) (v := ?_) rfl (by kernel_rfl) (by kernel_rfl) (by kernel_rfl) (fun _ _ _ h => h) (Or.inl ⟨by rfl, ?_⟩) (by assumption) ?_
  rotate_left
  · (intro w hSw; (try dsimp only at hSw); go_simp; first | done | with_reducible rfl)
  simp only [Act.put, List.getElem_toArray, List.getElem_cons_zero, List.setIfInBounds_toArray, List.set_cons_zero, List.set_cons_succ]
  refine wpAnyH_take (i := 1) (v := ?_) rfl (by kernel_rfl) (by kernel_rfl) (by kernel_rfl) (fun _ _ _ h => h) (Or.inl ⟨by rfl, ?_⟩) (by assumption) ?_
  rotate_left
  · (intro w hSw; (try dsimp only at hSw); go_simp; first | done | with_reducible rfl)
  simp only [Act.put, List.getElem_toArray, List.getElem_cons_zero, List.getElem_cons_succ, List.setIfInBounds_toArray, List.set_cons_zero, List.set_cons_succ]
  refine wpAnyH_ready (rs := [2]) (by kernel_rfl) (by simp) ?_
  refine AllReadyH.cons rfl (fun K hK => ?_) ?_
  rotate_left
  · exact AllReadyH.nil
  go_simp
  refine L.out.mono ?_; rintro e w1 ⟨rfl, rfl⟩; go_simp
  refine hK.out _ _ ?_ (fun hHeld => ?_)
  · exact c3
  clear hK K
  try simp only [Act.put, List.getElem_toArray, List.getElem_cons_zero, List.getElem_cons_succ, List.setIfInBounds_toArray, List.set_cons_zero, List.set_cons_succ]
  refine wpAnyH_take (i := 3) (v := ?_) rfl (by kernel_rfl) (by kernel_rfl) (by kernel_rfl) (fun _ _ _ h => h) (Or.inl ⟨by rfl, ?_⟩) (by assumption) ?_
  rotate_left
  · (intro w hSw; (try dsimp only at hSw); go_simp; first | done | with_reducible rfl)
  simp only [Act.put, List.getElem_toArray, List.getElem_cons_zero, List.getElem_cons_succ, List.setIfInBounds_toArray, List.set_cons_zero, List.set_cons_succ]
  refine wpAnyH_take (i := 4) (v := ?_) rfl (by kernel_rfl) (by kernel_rfl) (by kernel_rfl) (fun _ _ _ h => h) (Or.inl ⟨by rfl, ?_⟩) (by assumption) ?_
  rotate_left
  · (intro w hSw; (try dsimp only at hSw); go_simp; first | done | with_reducible rfl)
  simp only [Act.put, List.getElem_toArray, List.getElem_cons_zero, List.getElem_cons_succ, List.setIfInBounds_toArray, List.set_cons_zero, List.set_cons_succ]
  refine wpAnyH_take (i := 6) (v := ?_) rfl (by kernel_rfl) (by kernel_rfl) (by kernel_rfl) (fun _ _ _ h => h) (Or.inl ⟨by rfl, ?_⟩) (by assumption) ?_
  rotate_left
  · (intro w hSw; (try dsimp only at hSw); go_simp; first | done | with_reducible rfl)
  simp only [Act.put, List.getElem_toArray, List.getElem_cons_zero, List.getElem_cons_succ, List.setIfInBounds_toArray, List.set_cons_zero, List.set_cons_succ]
  refine wpAnyH_take (i := 7) (v := ?_) rfl (by kernel_rfl) (by kernel_rfl) (by kernel_rfl) (fun _ _ _ h => h) (Or.inl ⟨by rfl, ?_⟩) (by assumption) ?_
  rotate_left
  · (intro w hSw; (try dsimp only at hSw); go_simp; first | done | with_reducible rfl)
  simp only [Act.put, List.getElem_toArray, List.getElem_cons_zero, List.getElem_cons_succ, List.setIfInBounds_toArray, List.set_cons_zero, List.set_cons_succ]
  refine wpAnyH_take (i := 8) (v := ?_) rfl (by kernel_rfl) (by kernel_rfl) (by kernel_rfl) (fun _ _ _ h => h) (Or.inl ⟨by rfl, ?_⟩) (by assumption) ?_
  rotate_left
  · (intro w hSw; (try dsimp only at hSw); go_simp; first | done | with_reducible rfl)
  simp only [Act.put, List.getElem_toArray, List.getElem_cons_zero, List.getElem_cons_succ, List.setIfInBounds_toArray, List.set_cons_zero, List.set_cons_succ]
  refine wpAnyH_take (i := 9) (v := ?_) rfl (by kernel_rfl) (by kernel_rfl) (by kernel_rfl) (fun _ _ _ h => h) (Or.inl ⟨by rfl, ?_⟩) (by assumption) ?_
  rotate_left
  · (intro w hSw; (try dsimp only at hSw); go_simp; first | done | with_reducible rfl)
  simp only [Act.put, List.getElem_toArray, List.getElem_cons_zero, List.getElem_cons_succ, List.setIfInBounds_toArray, List.set_cons_zero, List.set_cons_succ]
  refine wpAnyH_ready (rs := [5]) (by kernel_rfl) (by simp) ?_
  refine AllReadyH.cons rfl (fun K hK => ?_) ?_
  rotate_left
  · exact AllReadyH.nil
  go_simp
  refine LN.out.mono ?_; rintro e w2 ⟨rfl, hb2⟩; have p2 := cell_below (w := w.drew) hb2 c3; have HB2 := Lib.hid (below_on (w := w) (w1 := w) (Below.refl _ _) hb2); clear hb2; go_simp
  refine hK.out _ _ ?_ (fun hHeld => ?_)
  · exact p2
  clear hK K
  try simp only [Act.put, List.getElem_toArray, List.getElem_cons_zero, List.getElem_cons_succ, List.setIfInBounds_toArray, List.set_cons_zero, List.set_cons_succ]
  refine wpAnyH_take (i := 10) (v := ?_) rfl (by kernel_rfl) (by kernel_rfl) (by kernel_rfl) (fun _ _ _ h => h) (Or.inl ⟨by rfl, ?_⟩) (by assumption) ?_
  rotate_left
  · (intro w hSw; (try dsimp only at hSw); go_simp; first | done | with_reducible rfl)
  simp only [Act.put, List.getElem_toArray, List.getElem_cons_zero, List.getElem_cons_succ, List.setIfInBounds_toArray, List.set_cons_zero, List.set_cons_succ]
  refine wpAnyH_take (i := 11) (v := ?_) rfl (by kernel_rfl) (by kernel_rfl) (by kernel_rfl) (fun _ _ _ h => h) (Or.inl ⟨by rfl, ?_⟩) (by assumption) ?_
  rotate_left
  · (intro w hSw; (try dsimp only at hSw); go_simp; first | done | with_reducible rfl)
  simp only [Act.put, List.getElem_toArray, List.getElem_cons_zero, List.getElem_cons_succ, List.setIfInBounds_toArray, List.set_cons_zero, List.set_cons_succ]
  refine wpAnyH_done (by kernel_rfl) ?_ _
  go_wp2_with fail
  go_ret
  exact ⟨rfl, HB2.out⟩

set_option maxHeartbeats 1600000 in
theorem rload_new (h : Ref w b F c K) {key : ByteArray} (hk : key.size ≤ 40) (hh : has K key = false) (hl : len K ≠ c) :
    Calls Try.prog 50 #[.pointer (some ⟨b, 0, none⟩), .string key] w (Did (.bool true) b F c (comes K 1 key 0) w) := by
  have L := Lib.hid (ref_has (h.drewN 1) key)
  have LN := Lib.hid (ref_len (h.drewN 1))
  rw [hh] at L
  have hno : key ∉ res K := fun e => by rw [← has_iff, hh] at e; cases e
  have hi : Inv c (comes K 1 key 0) := (come h.inv (.inr rfl) hk hno (by have := h.inv.room; omega)).1
  have hinv := h.inv
  have HXC := Lib.hid (xk_comes (K := K) (q := 1) (by omega) hno)
  have hrm := h.inv.room
  have HI := Lib.hid hi
  have HLE1 : Hid ((cl K 1).length ≤ 1000000) := Lib.hid (by rw [cl_length]; have := lens hinv 1 (by omega); omega)
  obtain ⟨v, Fs, hm, -⟩ := h
  have c3 := hm.cells.2.2.2
  have KN := Lib.hid (fun w1 (hb : Below w.heap.size w w1) => known_at (hm.below hb) (gs := K.r 2) rfl (by have := hinv.len1; omega) key)
  clear hm hh hi hno hinv
  generalize len K = n at *
  have dN : decide (c ≤ n) = false := by simp; omega
  go_enter Try.func50, Try.ntmps50
  go_wp2_with fail
  refine wp_region_held_drew (S := fun w' => w'.cell? ⟨b, 3, none⟩ = some (.int .i64 (c : Int))) (by kernel_rfl) ?_ (fun hHeld => ?_)
  · exact c3
  refine wpAnyH_take (i := 0) (v := ?_) rfl (by kernel_rfl) (by kernel_rfl) (by kernel_rfl) (fun _ _ _ h => h) (Or.inl ⟨by rfl, ?_⟩) (by assumption) ?_
  rotate_left
  · (intro w hSw; (try dsimp only at hSw); go_simp; first | done | with_reducible rfl)
  simp only [Act.put, List.getElem_toArray, List.getElem_cons_zero, List.setIfInBounds_toArray, List.set_cons_zero, List.set_cons_succ]
  refine wpAnyH_take (i := 1) (v := ?_) rfl (by kernel_rfl) (by kernel_rfl) (by kernel_rfl) (fun _ _ _ h => h) (Or.inl ⟨by rfl, ?_⟩) (by assumption) ?_
  rotate_left
  · (intro w hSw; (try dsimp only at hSw); go_simp; first | done | with_reducible rfl)
  simp only [Act.put, List.getElem_toArray, List.getElem_cons_zero, List.getElem_cons_succ, List.setIfInBounds_toArray, List.set_cons_zero, List.set_cons_succ]
  refine wpAnyH_ready (rs := [2]) (by kernel_rfl) (by simp) ?_
  refine AllReadyH.cons rfl (fun K hK => ?_) ?_
  rotate_left
  · exact AllReadyH.nil
  go_simp
  refine L.out.mono ?_; rintro e w1 ⟨rfl, rfl⟩; go_simp
  refine hK.out _ _ ?_ (fun hHeld => ?_)
  · exact c3
  clear hK K
  try simp only [Act.put, List.getElem_toArray, List.getElem_cons_zero, List.getElem_cons_succ, List.setIfInBounds_toArray, List.set_cons_zero, List.set_cons_succ]
  refine wpAnyH_take (i := 3) (v := ?_) rfl (by kernel_rfl) (by kernel_rfl) (by kernel_rfl) (fun _ _ _ h => h) (Or.inl ⟨by rfl, ?_⟩) (by assumption) ?_
  rotate_left
  · (intro w hSw; (try dsimp only at hSw); go_simp; first | done | with_reducible rfl)
  simp only [Act.put, List.getElem_toArray, List.getElem_cons_zero, List.getElem_cons_succ, List.setIfInBounds_toArray, List.set_cons_zero, List.set_cons_succ]
  refine wpAnyH_take (i := 4) (v := ?_) rfl (by kernel_rfl) (by kernel_rfl) (by kernel_rfl) (fun _ _ _ h => h) (Or.inl ⟨by rfl, ?_⟩) (by assumption) ?_
  rotate_left
  · (intro w hSw; (try dsimp only at hSw); go_simp; first | done | with_reducible rfl)
  simp only [Act.put, List.getElem_toArray, List.getElem_cons_zero, List.getElem_cons_succ, List.setIfInBounds_toArray, List.set_cons_zero, List.set_cons_succ]
  refine wpAnyH_take (i := 6) (v := ?_) rfl (by kernel_rfl) (by kernel_rfl) (by kernel_rfl) (fun _ _ _ h => h) (Or.inl ⟨by rfl, ?_⟩) (by assumption) ?_
  rotate_left
  · (intro w hSw; (try dsimp only at hSw); go_simp; first | done | with_reducible rfl)
  simp only [Act.put, List.getElem_toArray, List.getElem_cons_zero, List.getElem_cons_succ, List.setIfInBounds_toArray, List.set_cons_zero, List.set_cons_succ]
  refine wpAnyH_take (i := 7) (v := ?_) rfl (by kernel_rfl) (by kernel_rfl) (by kernel_rfl) (fun _ _ _ h => h) (Or.inl ⟨by rfl, ?_⟩) (by assumption) ?_
  rotate_left
  · (intro w hSw; (try dsimp only at hSw); go_simp; first | done | with_reducible rfl)
  simp only [Act.put, List.getElem_toArray, List.getElem_cons_zero, List.getElem_cons_succ, List.setIfInBounds_toArray, List.set_cons_zero, List.set_cons_succ]
  refine wpAnyH_take (i := 8) (v := ?_) rfl (by kernel_rfl) (by kernel_rfl) (by kernel_rfl) (fun _ _ _ h => h) (Or.inl ⟨by rfl, ?_⟩) (by assumption) ?_
  rotate_left
  · (intro w hSw; (try dsimp only at hSw); go_simp; first | done | with_reducible rfl)
  simp only [Act.put, List.getElem_toArray, List.getElem_cons_zero, List.getElem_cons_succ, List.setIfInBounds_toArray, List.set_cons_zero, List.set_cons_succ]
  refine wpAnyH_take (i := 9) (v := ?_) rfl (by kernel_rfl) (by kernel_rfl) (by kernel_rfl) (fun _ _ _ h => h) (Or.inl ⟨by rfl, ?_⟩) (by assumption) ?_
  rotate_left
  · (intro w hSw; (try dsimp only at hSw); go_simp; first | done | with_reducible rfl)
  simp only [Act.put, List.getElem_toArray, List.getElem_cons_zero, List.getElem_cons_succ, List.setIfInBounds_toArray, List.set_cons_zero, List.set_cons_succ]
  refine wpAnyH_ready (rs := [5]) (by kernel_rfl) (by simp) ?_
  refine AllReadyH.cons rfl (fun K hK => ?_) ?_
  rotate_left
  · exact AllReadyH.nil
  go_simp
  refine LN.out.mono ?_; rintro e w2 ⟨rfl, hb2⟩; have p2 := cell_below (w := w.drew) hb2 c3; have HB2 := Lib.hid (below_on (w := w) (w1 := w) (Below.refl _ _) hb2); clear hb2; go_simp
  refine hK.out _ _ ?_ (fun hHeld => ?_)
  · exact p2
  clear hK K
  try simp only [Act.put, List.getElem_toArray, List.getElem_cons_zero, List.getElem_cons_succ, List.setIfInBounds_toArray, List.set_cons_zero, List.set_cons_succ]
  refine wpAnyH_take (i := 10) (v := ?_) rfl (by kernel_rfl) (by kernel_rfl) (by kernel_rfl) (fun _ _ _ h => h) (Or.inl ⟨by rfl, ?_⟩) (by assumption) ?_
  rotate_left
  · (intro w hSw; (try dsimp only at hSw); go_simp; first | done | with_reducible rfl)
  simp only [Act.put, List.getElem_toArray, List.getElem_cons_zero, List.getElem_cons_succ, List.setIfInBounds_toArray, List.set_cons_zero, List.set_cons_succ]
  refine wpAnyH_take (i := 11) (v := ?_) rfl (by kernel_rfl) (by kernel_rfl) (by kernel_rfl) (fun _ _ _ h => h) (Or.inl ⟨by rfl, ?_⟩) (by assumption) ?_
  rotate_left
  · (intro w hSw; (try dsimp only at hSw); go_simp; first | done | with_reducible rfl)
  simp only [Act.put, List.getElem_toArray, List.getElem_cons_zero, List.getElem_cons_succ, List.setIfInBounds_toArray, List.set_cons_zero, List.set_cons_succ]
  refine wpAnyH_done (by kernel_rfl) ?_ _
  go_wp2_with fail
  refine (KN.out _ HB2.out).mono ?_
  rintro e w3 ⟨rfl, v3, Fs3, hm3⟩
  have HM3 := Lib.hid hm3
  obtain ⟨A, p, hs⟩ := hm3.rs
  have d1 : w3.cell? ⟨b, 1, none⟩ = some (.slice (A 1) (cl K 1).length (p 1)) := by have := hs.c1; rw [upd_other _ _ (by omega)] at this; exact this
  have SL : Hid (Sc.Sc w3 (.slice (A 1) (cl K 1).length (p 1)) (Fs3 1) (cl K 1)) := Lib.hid (by have := hs.sl 1 (by omega); rw [upd_other _ _ (by omega)] at this; exact this)
  have LT := Lib.hid (hm3.lt 1 (by omega))
  have NB := Lib.hid (hm3.nb 1 (by omega))
  clear hm3 hs
  generalize A 1 = A1' at *
  generalize p 1 = p1' at *
  generalize decide (key ∈ K.r 2) = kn at *
  go_wp2_with (at_builtin; refine Sc.wpList_push rfl _ _ rfl SL.out HLE1.out LT.out key 0 0 rfl 1 _ rfl rfl rfl ?_; intro v' w5 hp; obtain ⟨A'', c'', hv, -⟩ := hp.sl.form; generalize (cl K 1 ++ [(key, 0)]).length = L5 at hv; subst hv; have HP := Lib.hid hp; have HB5 := Lib.hid (hp.upd.get HM3.out.blk NB.out); have q1 := cell_of HB5.out 1; have qf := free_of HB5.out; clear hp)
  go_ret
  exact ((HM3.out.pushed (r := 1) (by omega) HP.out).same HXC.out).did HI.out _

theorem ref_load (h : Ref w b F c K) {key : ByteArray} (hk : key.size ≤ 40) :
    Calls Try.prog 50 #[.pointer (some ⟨b, 0, none⟩), .string key] w (Did (.bool (Eg.load c K key).1) b F c (Eg.load c K key).2 w) := by
  unfold Eg.load
  cases hh : has K key with
  | true =>
    rw [if_pos (.inl rfl)]
    exact (rload_has h hh).mono fun _ _ ⟨h1, h2⟩ => Did.of_below h h1 h2
  | false =>
    by_cases hl : len K = c
    · rw [if_pos (.inr hl)]
      exact (rload_full h hh hl).mono fun _ _ ⟨h1, h2⟩ => Did.of_below h h1 h2
    · rw [if_neg (by rintro (e | e); cases e; exact hl e)]
      exact rload_new h hk hh hl

set_option maxHeartbeats 1600000 in
theorem rremove_0 (h : Ref w b F c K) {key : ByteArray} (h0 : key ∈ K.r 0) (h1 : key ∉ K.r 1) :
    Calls Try.prog 51 #[.pointer (some ⟨b, 0, none⟩), .string key] w (Did (.bool true) b F c (goes K key) w) := by
  have hi := h.inv
  have HI := Lib.hid (inv_goes hi key)
  obtain ⟨v, Fs, hm, -⟩ := h
  obtain ⟨A0, A1, p0, p1, ht, -, -⟩ := hm.rt
  have hl0 := lens hi 0 (by omega)
  have hl1 := lens hi 1 (by omega)
  obtain ⟨i, hgi, H0⟩ := at_yes (A := A0) ht.l0 hl0 h0
  have Q0 : Hid (∀ n, Calls Try.prog 70 #[.slice A0 (cl K 0).length p0, .string key] (w.drewN n) fun e w' => e = .returned (.int .i64 (i : Int)) ∧ w' = w.drewN n) := Lib.hid (fun n => (H0 (w.drewN n) (sc_drew ht.s0 n)).mono fun _ _ ⟨h1, h2⟩ => ⟨h1, h2.symm⟩)
  have Q1 : Hid (∀ n, Calls Try.prog 70 #[.slice A1 (cl K 1).length p1, .string key] (w.drewN n) fun e w' => e = .returned (.int .i64 (-1)) ∧ w' = w.drewN n) := Lib.hid (fun n => (at_no (A := A1) ht.l1 hl1 h1 (w.drewN n) (sc_drew ht.s1 n)).mono fun _ _ ⟨h1, h2⟩ => ⟨h1, h2.symm⟩)
  have hil : i < (cl K 0).length := by rw [cl_length]; exact lt_of_getElem? hgi
  have W0 : Hid (∀ n, Calls Try.prog 72 #[.slice A0 (cl K 0).length p0, .int .i64 (i : Int)] (w.drewN n) (Sc.WPost (cl K 0) i (w.drewN n))) := Lib.hid (fun n => Sc.q_without (ht.s0.below (below_drewN (Below.refl _ _) n)) hil (by rw [cl_length]; omega))
  have HX := Lib.hid (xk_remove hi (q := 0) (by omega) hgi)
  have HM := Lib.hid hm
  have c0 := ht.c0
  have c1 := ht.c1
  clear hm ht hi H0 h0 h1 hgi hl0 hl1 hil
  generalize hN0 : (cl K 0).length = N0 at *
  generalize (cl K 1).length = N1 at *
  have HN0 := Lib.hid hN0
  clear hN0
  have z0 : (0 : Int) ≤ (i : Int) := by omega
  go_enter Try.func51, Try.ntmps51
  go_wp2_with fail
  go_quiet (first | (go_at_call 70; with_reducible exact Calls.quiet_of_same (Q0.out _)) | (go_at_call 70; with_reducible exact Calls.quiet_of_same (Q1.out _)))
  go_wp2_with fail
  refine (W0.out _).mono ?_
  rintro e w3 ⟨v', rfl, ho, hb3⟩
  obtain ⟨A', c', rfl⟩ := own_form' ho
  have HM3 := Lib.hid ((HM.out.drewN nq).below hb3)
  have HM4 := Lib.hid ((HM.out.drewN nq).cutted (r := 0) (by omega) hb3 ho)
  have e0 := HM3.out.cells.1
  have ef := HM3.out.wr
  clear ho hb3
  generalize (cl K 0).length - 1 = n5 at *
  go_wp2_with fail
  go_ret
  exact (HM4.out.same HX.out).did HI.out _

set_option maxHeartbeats 1600000 in
theorem rremove_1 (h : Ref w b F c K) {key : ByteArray} (h0 : key ∉ K.r 0) (h1 : key ∈ K.r 1) :
    Calls Try.prog 51 #[.pointer (some ⟨b, 0, none⟩), .string key] w (Did (.bool true) b F c (goes K key) w) := by
  have hi := h.inv
  have HI := Lib.hid (inv_goes hi key)
  obtain ⟨v, Fs, hm, -⟩ := h
  obtain ⟨A0, A1, p0, p1, ht, -, -⟩ := hm.rt
  have hl0 := lens hi 0 (by omega)
  have hl1 := lens hi 1 (by omega)
  obtain ⟨i, hgi, H1⟩ := at_yes (A := A1) ht.l1 hl1 h1
  have Q1 : Hid (∀ n, Calls Try.prog 70 #[.slice A1 (cl K 1).length p1, .string key] (w.drewN n) fun e w' => e = .returned (.int .i64 (i : Int)) ∧ w' = w.drewN n) := Lib.hid (fun n => (H1 (w.drewN n) (sc_drew ht.s1 n)).mono fun _ _ ⟨h1, h2⟩ => ⟨h1, h2.symm⟩)
  have Q0 : Hid (∀ n, Calls Try.prog 70 #[.slice A0 (cl K 0).length p0, .string key] (w.drewN n) fun e w' => e = .returned (.int .i64 (-1)) ∧ w' = w.drewN n) := Lib.hid (fun n => (at_no (A := A0) ht.l0 hl0 h0 (w.drewN n) (sc_drew ht.s0 n)).mono fun _ _ ⟨h1, h2⟩ => ⟨h1, h2.symm⟩)
  have hil : i < (cl K 1).length := by rw [cl_length]; exact lt_of_getElem? hgi
  have W0 : Hid (∀ n, Calls Try.prog 72 #[.slice A1 (cl K 1).length p1, .int .i64 (i : Int)] (w.drewN n) (Sc.WPost (cl K 1) i (w.drewN n))) := Lib.hid (fun n => Sc.q_without (ht.s1.below (below_drewN (Below.refl _ _) n)) hil (by rw [cl_length]; omega))
  have HX := Lib.hid (xk_remove hi (q := 1) (by omega) hgi)
  have HM := Lib.hid hm
  have c0 := ht.c0
  have c1 := ht.c1
  clear hm ht hi H1 h0 h1 hgi hl0 hl1 hil
  generalize (cl K 0).length = N0 at *
  generalize hN1 : (cl K 1).length = N1 at *
  clear hN1
  have z0 : (0 : Int) ≤ (i : Int) := by omega
  go_enter Try.func51, Try.ntmps51
  go_wp2_with fail
  go_quiet (first | (go_at_call 70; with_reducible exact Calls.quiet_of_same (Q0.out _)) | (go_at_call 70; with_reducible exact Calls.quiet_of_same (Q1.out _)))
  go_wp2_with fail
  refine (W0.out _).mono ?_
  rintro e w3 ⟨v', rfl, ho, hb3⟩
  obtain ⟨A', c', rfl⟩ := own_form' ho
  have HM3 := Lib.hid ((HM.out.drewN nq).below hb3)
  have HM4 := Lib.hid ((HM.out.drewN nq).cutted (r := 1) (by omega) hb3 ho)
  have e0 := HM3.out.cells.2.1
  have ef := HM3.out.wr
  clear ho hb3
  generalize (cl K 1).length - 1 = n5 at *
  go_wp2_with fail
  go_ret
  exact (HM4.out.same HX.out).did HI.out _

theorem rremove_no (h : Ref w b F c K) {key : ByteArray} (h0 : key ∉ K.r 0) (h1 : key ∉ K.r 1) :
    Calls Try.prog 51 #[.pointer (some ⟨b, 0, none⟩), .string key] w fun e w' => e = .returned (.bool false) ∧ Below w.heap.size w w' := by
  have hi := h.inv
  obtain ⟨v, Fs, hm, -⟩ := h
  obtain ⟨A0, A1, p0, p1, ht, -, -⟩ := hm.rt
  have hl0 := lens hi 0 (by omega)
  have hl1 := lens hi 1 (by omega)
  have Q0 : Hid (∀ n, Calls Try.prog 70 #[.slice A0 (cl K 0).length p0, .string key] (w.drewN n) fun e w' => e = .returned (.int .i64 (-1)) ∧ w' = w.drewN n) := Lib.hid (fun n => (at_no (A := A0) ht.l0 hl0 h0 (w.drewN n) (sc_drew ht.s0 n)).mono fun _ _ ⟨h1, h2⟩ => ⟨h1, h2.symm⟩)
  have Q1 : Hid (∀ n, Calls Try.prog 70 #[.slice A1 (cl K 1).length p1, .string key] (w.drewN n) fun e w' => e = .returned (.int .i64 (-1)) ∧ w' = w.drewN n) := Lib.hid (fun n => (at_no (A := A1) ht.l1 hl1 h1 (w.drewN n) (sc_drew ht.s1 n)).mono fun _ _ ⟨h1, h2⟩ => ⟨h1, h2.symm⟩)
  have c0 := ht.c0
  have c1 := ht.c1
  clear hm ht hi h0 h1 hl0 hl1
  generalize (cl K 0).length = N0 at *
  generalize (cl K 1).length = N1 at *
  go_enter Try.func51, Try.ntmps51
  go_wp2_with fail
  go_quiet (first | (go_at_call 70; with_reducible exact Calls.quiet_of_same (Q0.out _)) | (go_at_call 70; with_reducible exact Calls.quiet_of_same (Q1.out _)))
  go_wp2_with fail
  go_ret
  exact ⟨rfl, below_drewN (Below.refl _ _) nq⟩

theorem ref_remove (h : Ref w b F c K) {key : ByteArray} :
    Calls Try.prog 51 #[.pointer (some ⟨b, 0, none⟩), .string key] w (Did (.bool (remove K key).1) b F c (remove K key).2 w) := by
  have hi := h.inv
  unfold remove
  by_cases h0 : key ∈ K.r 0
  · rw [if_pos (by simp [has, h0])]
    exact rremove_0 h h0 (fun a => by have := hi.once 0 1 (by omega) (by omega) key h0 a; omega)
  · by_cases h1 : key ∈ K.r 1
    · rw [if_pos (by simp [has, h1])]
      exact rremove_1 h h0 h1
    · rw [if_neg (by simp [has, h0, h1])]
      exact (rremove_no h h0 h1).mono fun _ _ ⟨h1, h2⟩ => Did.of_below h h1 h2

def RNewPost (room : Int) (w : World) (e : Ending) (w' : World) : Prop :=
  ∃ b F, e = .returned (.pointer (some ⟨b, 0, none⟩)) ∧ Ref w' b F (cof room) init ∧ Below w.heap.size w w' ∧ ∀ k, F k → w.heap.size ≤ k

theorem rnew_end {c : Nat} {z : Int} {w : World} (hc : 1 ≤ c ∧ c ≤ 1024) (hz : z = (c : Int)) :
    Ref (w.alloc (.cells #[.slice none 0 0, .slice none 0 0, .slice none 0 0, .int .i64 z] 70)) w.heap.size (fun k => w.heap.size ≤ k ∧ k < w.heap.size + 1) c init ∧
      Below w.heap.size w (w.alloc (.cells #[.slice none 0 0, .slice none 0 0, .slice none 0 0, .int .i64 z] 70)) := by
  subst hz
  refine ⟨⟨fun _ => .slice none 0 0, fun _ _ => False, ⟨heap_alloc_new w _, fun r hr => ?_, fun _ _ _ _ _ _ h => h.elim, fun _ _ => id, fun _ _ _ h => h.elim, ⟨Nat.le_refl _, by omega⟩, fun k hk => by have := hk.2; simpa using this, Upd.refl _ _, fun _ _ _ h => h.elim⟩, inv_init hc.1 hc.2⟩, (Below.refl _ _).alloc (Nat.le_refl _) _⟩
  match r, hr with
  | 0, _ => exact Sc.Sc.nil _ _
  | 1, _ => exact Sc.Sc.nil _ _
  | 2, _ => exact Sl.nil _ _

theorem ref_new (room : Int) (w : World) : Calls Try.prog 26 #[.int .i64 room] w (RNewPost room w) := by
  have HC : Hid (1 ≤ cof room ∧ cof room ≤ 1024) := Lib.hid ⟨cof_1 room, cof_2 room⟩
  go_enter Try.func26, Try.ntmps26
  go_wp2_with fail
  all_goals
    go_ret
    exact ⟨w.heap.size, fun k => w.heap.size ≤ k ∧ k < w.heap.size + 1, rfl, (rnew_end HC.out (by unfold cof; omega)).1, (rnew_end HC.out (by unfold cof; omega)).2, fun k hk => hk.1⟩
end

end Go.Proofs.Ytodiceafnkojiaa.Rf
