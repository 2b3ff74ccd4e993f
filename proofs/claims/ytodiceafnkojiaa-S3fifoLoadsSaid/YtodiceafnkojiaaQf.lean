/- S3-FIFO in memory: Load, Remove, New. -/
import Derived.Test.YtodiceafnkojiaaQe
namespace Go.Proofs.Ytodiceafnkojiaa.Eg
open Go Go.RowKit Go.Proofs.Ytodiceafnkojiaa.K
open Go.Proofs.Ytodiceafnkojiaa.Li (more more_lt own_form')
open Go.Proofs.Ytodiceafnkojiaa.Rw

section
variable {w : World} {b c : Nat} {F : Nat → Prop} {K : Ks}

set_option maxHeartbeats 800000 in
theorem load_has (h : Eng w b F c K) {key : ByteArray} (hk : key.size ≤ 40) (hh : has K key = true) :
    Calls Try.prog 29 #[.pointer (some ⟨b, 0, none⟩), .string key] w fun e w' => e = .returned (.bool false) ∧ Below w.heap.size w w' := by
  have L := Lib.hid (eng_has_yes (h.drewN 1) (key := key) (by omega) hh)
  obtain ⟨s, cap, bx, y, G, H, hm⟩ := h.mid
  obtain ⟨c0, c1, c2, c3, c4, c5⟩ := hm.cells
  clear hm h hh
  go_enter Try.func29, Try.ntmps29
  go_wp2_with fail
  refine wp_region_held_drew (S := fun w' => w'.cell? ⟨b, 2, none⟩ = some (.int .i64 (c : Int))) (by kernel_rfl) ?_ (fun hHeld => ?_)
  · exact c2
  refine wpAnyH_take (i := 0) (v := ?_) rfl (by kernel_rfl) (by kernel_rfl) (by kernel_rfl) (fun _ _ _ h => h) (Or.inl ⟨by rfl, ?_⟩) (by assumption) ?_
  rotate_left
  · (intro w hSw; (try dsimp only at hSw); go_simp; first | done | with_reducible rfl)
  simp only [Act.put, List.getElem_toArray, List.getElem_cons_zero, List.setIfInBounds_toArray, List.set_cons_zero, List.set_cons_succ]
  refine wpAnyH_take (i := 1) (v := ?_) rfl (by kernel_rfl) (by kernel_rfl) (by kernel_rfl) (fun _ _ _ h => h) (Or.inl ⟨by rfl, ?_⟩) (by assumption) ?_
  rotate_left
  · (intro w hSw; (try dsimp only at hSw); go_simp; first | done | with_reducible rfl)
  simp only [Act.put, List.getElem_toArray, List.getElem_cons_zero, List.getElem_cons_succ, List.setIfInBounds_toArray, List.set_cons_zero, List.set_cons_succ]
  refine wpAnyH_take (i := 2) (v := ?_) rfl (by kernel_rfl) (by kernel_rfl) (by kernel_rfl) (fun _ _ _ h => h) (Or.inl ⟨by rfl, ?_⟩) (by assumption) ?_
  rotate_left
  · (intro w hSw; (try dsimp only at hSw); go_simp; first | done | with_reducible rfl)
  simp only [Act.put, List.getElem_toArray, List.getElem_cons_zero, List.getElem_cons_succ, List.setIfInBounds_toArray, List.set_cons_zero, List.set_cons_succ]
  refine wpAnyH_take (i := 3) (v := ?_) rfl (by kernel_rfl) (by kernel_rfl) (by kernel_rfl) (fun _ _ _ h => h) (Or.inl ⟨by rfl, ?_⟩) (by assumption) ?_
  rotate_left
  · (intro w hSw; (try dsimp only at hSw); go_simp; first | done | with_reducible rfl)
  simp only [Act.put, List.getElem_toArray, List.getElem_cons_zero, List.getElem_cons_succ, List.setIfInBounds_toArray, List.set_cons_zero, List.set_cons_succ]
  refine wpAnyH_take (i := 4) (v := ?_) rfl (by kernel_rfl) (by kernel_rfl) (by kernel_rfl) (fun _ _ _ h => h) (Or.inl ⟨by rfl, ?_⟩) (by assumption) ?_
  rotate_left
  · (intro w hSw; (try dsimp only at hSw); go_simp; first | done | with_reducible rfl)
  simp only [Act.put, List.getElem_toArray, List.getElem_cons_zero, List.getElem_cons_succ, List.setIfInBounds_toArray, List.set_cons_zero, List.set_cons_succ]
  refine wpAnyH_ready (rs := [5]) (by kernel_rfl) (by simp) ?_
  refine AllReadyH.cons rfl (fun K hK => ?_) ?_
  rotate_left
  · exact AllReadyH.nil
  go_simp
  refine L.out.mono ?_; rintro e w1 ⟨rfl, hb1⟩; have q2 := cell_below (w := w.drew) hb1 c2; have HB1 := Lib.hid hb1; clear hb1; go_simp
  refine hK.out _ _ ?_ (fun hHeld => ?_)
  · exact q2
  clear hK K
  try simp only [Act.put, List.getElem_toArray, List.getElem_cons_zero, List.getElem_cons_succ, List.setIfInBounds_toArray, List.set_cons_zero, List.set_cons_succ]
  refine wpAnyH_take (i := 6) (v := ?_) rfl (by kernel_rfl) (by kernel_rfl) (by kernel_rfl) (fun _ _ _ h => h) (Or.inl ⟨by rfl, ?_⟩) (by assumption) ?_
  rotate_left
  · (intro w hSw; (try dsimp only at hSw); go_simp; first | done | with_reducible rfl)
  simp only [Act.put, List.getElem_toArray, List.getElem_cons_zero, List.getElem_cons_succ, List.setIfInBounds_toArray, List.set_cons_zero, List.set_cons_succ]
  refine wpAnyH_take (i := 7) (v := ?_) rfl (by kernel_rfl) (by kernel_rfl) (by kernel_rfl) (fun _ _ _ h => h) (Or.inl ⟨by rfl, ?_⟩) (by assumption) ?_
  rotate_left
  · (intro w hSw; (try dsimp only at hSw); go_simp; first | done | with_reducible rfl)
  simp only [Act.put, List.getElem_toArray, List.getElem_cons_zero, List.getElem_cons_succ, List.setIfInBounds_toArray, List.set_cons_zero, List.set_cons_succ]
  refine wpAnyH_take (i := 8) (v := undef) rfl (by kernel_rfl) (by kernel_rfl) (by kernel_rfl) (fun _ _ _ h => h) (Or.inr ⟨by rfl, rfl⟩) (by assumption) ?_
  simp only [Act.put, List.getElem_toArray, List.getElem_cons_zero, List.getElem_cons_succ, List.setIfInBounds_toArray, List.set_cons_zero, List.set_cons_succ]
  refine wpAnyH_take (i := 9) (v := undef) rfl (by kernel_rfl) (by kernel_rfl) (by kernel_rfl) (fun _ _ _ h => h) (Or.inr ⟨by rfl, rfl⟩) (by assumption) ?_
  simp only [Act.put, List.getElem_toArray, List.getElem_cons_zero, List.getElem_cons_succ, List.setIfInBounds_toArray, List.set_cons_zero, List.set_cons_succ]
  refine wpAnyH_take (i := 10) (v := undef) rfl (by kernel_rfl) (by kernel_rfl) (by kernel_rfl) (fun _ _ _ h => h) (Or.inr ⟨by rfl, rfl⟩) (by assumption) ?_
  simp only [Act.put, List.getElem_toArray, List.getElem_cons_zero, List.getElem_cons_succ, List.setIfInBounds_toArray, List.set_cons_zero, List.set_cons_succ]
  refine wpAnyH_take (i := 11) (v := undef) rfl (by kernel_rfl) (by kernel_rfl) (by kernel_rfl) (fun _ _ _ h => h) (Or.inr ⟨by rfl, rfl⟩) (by assumption) ?_
  simp only [Act.put, List.getElem_toArray, List.getElem_cons_zero, List.getElem_cons_succ, List.setIfInBounds_toArray, List.set_cons_zero, List.set_cons_succ]
  refine wpAnyH_take (i := 12) (v := undef) rfl (by kernel_rfl) (by kernel_rfl) (by kernel_rfl) (fun _ _ _ h => h) (Or.inr ⟨by rfl, rfl⟩) (by assumption) ?_
  simp only [Act.put, List.getElem_toArray, List.getElem_cons_zero, List.getElem_cons_succ, List.setIfInBounds_toArray, List.set_cons_zero, List.set_cons_succ]
  refine wpAnyH_take (i := 13) (v := undef) rfl (by kernel_rfl) (by kernel_rfl) (by kernel_rfl) (fun _ _ _ h => h) (Or.inr ⟨by rfl, rfl⟩) (by assumption) ?_
  simp only [Act.put, List.getElem_toArray, List.getElem_cons_zero, List.getElem_cons_succ, List.setIfInBounds_toArray, List.set_cons_zero, List.set_cons_succ]
  refine wpAnyH_take (i := 14) (v := undef) rfl (by kernel_rfl) (by kernel_rfl) (by kernel_rfl) (fun _ _ _ h => h) (Or.inr ⟨by rfl, rfl⟩) (by assumption) ?_
  simp only [Act.put, List.getElem_toArray, List.getElem_cons_zero, List.getElem_cons_succ, List.setIfInBounds_toArray, List.set_cons_zero, List.set_cons_succ]
  refine wpAnyH_take (i := 15) (v := ?_) rfl (by kernel_rfl) (by kernel_rfl) (by kernel_rfl) (fun _ _ _ h => h) (Or.inl ⟨by rfl, ?_⟩) (by assumption) ?_
  rotate_left
  · (intro w hSw; (try dsimp only at hSw); go_simp; first | done | with_reducible rfl)
  simp only [Act.put, List.getElem_toArray, List.getElem_cons_zero, List.getElem_cons_succ, List.setIfInBounds_toArray, List.set_cons_zero, List.set_cons_succ]
  refine wpAnyH_done (by kernel_rfl) ?_ _
  go_wp2_with fail
  go_ret
  exact ⟨rfl, (below_drewN (Below.refl _ _) 1).trans HB1.out⟩

set_option maxHeartbeats 800000 in
theorem load_full (h : Eng w b F c K) {key : ByteArray} (hk : key.size ≤ 40) (hh : has K key = false) (hl : len K = c) :
    Calls Try.prog 29 #[.pointer (some ⟨b, 0, none⟩), .string key] w fun e w' => e = .returned (.bool false) ∧ Below w.heap.size w w' := by
  have L := Lib.hid (eng_has_no (h.drewN 1) (key := key) (by omega) hh)
  have LN := Lib.hid (fun w1 (h : Eng w1 b F c K) => eng_len h)
  rw [hl] at LN
  have HE := Lib.hid h
  obtain ⟨s, cap, bx, y, G, H, hm⟩ := h.mid
  obtain ⟨c0, c1, c2, c3, c4, c5⟩ := hm.cells
  clear hm h hh hl
  go_enter Try.func29, Try.ntmps29
  go_wp2_with fail
  refine wp_region_held_drew (S := fun w' => w'.cell? ⟨b, 2, none⟩ = some (.int .i64 (c : Int))) (by kernel_rfl) ?_ (fun hHeld => ?_)
  · exact c2
  refine wpAnyH_take (i := 0) (v := ?_) rfl (by kernel_rfl) (by kernel_rfl) (by kernel_rfl) (fun _ _ _ h => h) (Or.inl ⟨by rfl, ?_⟩) (by assumption) ?_
  rotate_left
  · (intro w hSw; (try dsimp only at hSw); go_simp; first | done | with_reducible rfl)
  simp only [Act.put, List.getElem_toArray, List.getElem_cons_zero, List.setIfInBounds_toArray, List.set_cons_zero, List.set_cons_succ]
  refine wpAnyH_take (i := 1) (v := ?_) rfl (by kernel_rfl) (by kernel_rfl) (by kernel_rfl) (fun _ _ _ h => h) (Or.inl ⟨by rfl, ?_⟩) (by assumption) ?_
  rotate_left
  · (intro w hSw; (try dsimp only at hSw); go_simp; first | done | with_reducible rfl)
  simp only [Act.put, List.getElem_toArray, List.getElem_cons_zero, List.getElem_cons_succ, List.setIfInBounds_toArray, List.set_cons_zero, List.set_cons_succ]
  refine wpAnyH_take (i := 2) (v := ?_) rfl (by kernel_rfl) (by kernel_rfl) (by kernel_rfl) (fun _ _ _ h => h) (Or.inl ⟨by rfl, ?_⟩) (by assumption) ?_
  rotate_left
  · (intro w hSw; (try dsimp only at hSw); go_simp; first | done | with_reducible rfl)
  simp only [Act.put, List.getElem_toArray, List.getElem_cons_zero, List.getElem_cons_succ, List.setIfInBounds_toArray, List.set_cons_zero, List.set_cons_succ]
  refine wpAnyH_take (i := 3) (v := ?_) rfl (by kernel_rfl) (by kernel_rfl) (by kernel_rfl) (fun _ _ _ h => h) (Or.inl ⟨by rfl, ?_⟩) (by assumption) ?_
  rotate_left
  · (intro w hSw; (try dsimp only at hSw); go_simp; first | done | with_reducible rfl)
  simp only [Act.put, List.getElem_toArray, List.getElem_cons_zero, List.getElem_cons_succ, List.setIfInBounds_toArray, List.set_cons_zero, List.set_cons_succ]
  refine wpAnyH_take (i := 4) (v := ?_) rfl (by kernel_rfl) (by kernel_rfl) (by kernel_rfl) (fun _ _ _ h => h) (Or.inl ⟨by rfl, ?_⟩) (by assumption) ?_
  rotate_left
  · (intro w hSw; (try dsimp only at hSw); go_simp; first | done | with_reducible rfl)
  simp only [Act.put, List.getElem_toArray, List.getElem_cons_zero, List.getElem_cons_succ, List.setIfInBounds_toArray, List.set_cons_zero, List.set_cons_succ]
  refine wpAnyH_ready (rs := [5]) (by kernel_rfl) (by simp) ?_
  refine AllReadyH.cons rfl (fun K hK => ?_) ?_
  rotate_left
  · exact AllReadyH.nil
  go_simp
  refine L.out.mono ?_; rintro e w1 ⟨rfl, hb1⟩; have q2 := cell_below (w := w.drew) hb1 c2; have HB1 := Lib.hid (below_on (w := w) (w1 := w) (Below.refl _ _) hb1); clear hb1; go_simp
  refine hK.out _ _ ?_ (fun hHeld => ?_)
  · exact q2
  clear hK K
  try simp only [Act.put, List.getElem_toArray, List.getElem_cons_zero, List.getElem_cons_succ, List.setIfInBounds_toArray, List.set_cons_zero, List.set_cons_succ]
  refine wpAnyH_take (i := 6) (v := ?_) rfl (by kernel_rfl) (by kernel_rfl) (by kernel_rfl) (fun _ _ _ h => h) (Or.inl ⟨by rfl, ?_⟩) (by assumption) ?_
  rotate_left
  · (intro w hSw; (try dsimp only at hSw); go_simp; first | done | with_reducible rfl)
  simp only [Act.put, List.getElem_toArray, List.getElem_cons_zero, List.getElem_cons_succ, List.setIfInBounds_toArray, List.set_cons_zero, List.set_cons_succ]
  refine wpAnyH_take (i := 7) (v := ?_) rfl (by kernel_rfl) (by kernel_rfl) (by kernel_rfl) (fun _ _ _ h => h) (Or.inl ⟨by rfl, ?_⟩) (by assumption) ?_
  rotate_left
  · (intro w hSw; (try dsimp only at hSw); go_simp; first | done | with_reducible rfl)
  simp only [Act.put, List.getElem_toArray, List.getElem_cons_zero, List.getElem_cons_succ, List.setIfInBounds_toArray, List.set_cons_zero, List.set_cons_succ]
  refine wpAnyH_take (i := 8) (v := ?_) rfl (by kernel_rfl) (by kernel_rfl) (by kernel_rfl) (fun _ _ _ h => h) (Or.inl ⟨by rfl, ?_⟩) (by assumption) ?_
  rotate_left
  · (intro w hSw; (try dsimp only at hSw); go_simp; first | done | with_reducible rfl)
  simp only [Act.put, List.getElem_toArray, List.getElem_cons_zero, List.getElem_cons_succ, List.setIfInBounds_toArray, List.set_cons_zero, List.set_cons_succ]
  refine wpAnyH_take (i := 10) (v := ?_) rfl (by kernel_rfl) (by kernel_rfl) (by kernel_rfl) (fun _ _ _ h => h) (Or.inl ⟨by rfl, ?_⟩) (by assumption) ?_
  rotate_left
  · (intro w hSw; (try dsimp only at hSw); go_simp; first | done | with_reducible rfl)
  simp only [Act.put, List.getElem_toArray, List.getElem_cons_zero, List.getElem_cons_succ, List.setIfInBounds_toArray, List.set_cons_zero, List.set_cons_succ]
  refine wpAnyH_take (i := 11) (v := ?_) rfl (by kernel_rfl) (by kernel_rfl) (by kernel_rfl) (fun _ _ _ h => h) (Or.inl ⟨by rfl, ?_⟩) (by assumption) ?_
  rotate_left
  · (intro w hSw; (try dsimp only at hSw); go_simp; first | done | with_reducible rfl)
  simp only [Act.put, List.getElem_toArray, List.getElem_cons_zero, List.getElem_cons_succ, List.setIfInBounds_toArray, List.set_cons_zero, List.set_cons_succ]
  refine wpAnyH_take (i := 12) (v := ?_) rfl (by kernel_rfl) (by kernel_rfl) (by kernel_rfl) (fun _ _ _ h => h) (Or.inl ⟨by rfl, ?_⟩) (by assumption) ?_
  rotate_left
  · (intro w hSw; (try dsimp only at hSw); go_simp; first | done | with_reducible rfl)
  simp only [Act.put, List.getElem_toArray, List.getElem_cons_zero, List.getElem_cons_succ, List.setIfInBounds_toArray, List.set_cons_zero, List.set_cons_succ]
  refine wpAnyH_take (i := 13) (v := ?_) rfl (by kernel_rfl) (by kernel_rfl) (by kernel_rfl) (fun _ _ _ h => h) (Or.inl ⟨by rfl, ?_⟩) (by assumption) ?_
  rotate_left
  · (intro w hSw; (try dsimp only at hSw); go_simp; first | done | with_reducible rfl)
  simp only [Act.put, List.getElem_toArray, List.getElem_cons_zero, List.getElem_cons_succ, List.setIfInBounds_toArray, List.set_cons_zero, List.set_cons_succ]
  refine wpAnyH_ready (rs := [9]) (by kernel_rfl) (by simp) ?_
  refine AllReadyH.cons rfl (fun K hK => ?_) ?_
  rotate_left
  · exact AllReadyH.nil
  go_simp
  refine (LN.out w1 (HE.out.below HB1.out)).mono ?_; rintro e w2 ⟨rfl, hb2⟩; have p2 := cell_below hb2 q2; have HB2 := Lib.hid (below_next HB1.out hb2); clear hb2; go_simp
  refine hK.out _ _ ?_ (fun hHeld => ?_)
  · exact p2
  clear hK K
  try simp only [Act.put, List.getElem_toArray, List.getElem_cons_zero, List.getElem_cons_succ, List.setIfInBounds_toArray, List.set_cons_zero, List.set_cons_succ]
  refine wpAnyH_take (i := 14) (v := ?_) rfl (by kernel_rfl) (by kernel_rfl) (by kernel_rfl) (fun _ _ _ h => h) (Or.inl ⟨by rfl, ?_⟩) (by assumption) ?_
  rotate_left
  · (intro w hSw; (try dsimp only at hSw); go_simp; first | done | with_reducible rfl)
  simp only [Act.put, List.getElem_toArray, List.getElem_cons_zero, List.getElem_cons_succ, List.setIfInBounds_toArray, List.set_cons_zero, List.set_cons_succ]
  refine wpAnyH_take (i := 15) (v := ?_) rfl (by kernel_rfl) (by kernel_rfl) (by kernel_rfl) (fun _ _ _ h => h) (Or.inl ⟨by rfl, ?_⟩) (by assumption) ?_
  rotate_left
  · (intro w hSw; (try dsimp only at hSw); go_simp; first | done | with_reducible rfl)
  simp only [Act.put, List.getElem_toArray, List.getElem_cons_zero, List.getElem_cons_succ, List.setIfInBounds_toArray, List.set_cons_zero, List.set_cons_succ]
  refine wpAnyH_done (by kernel_rfl) ?_ _
  go_wp2_with fail
  go_ret
  exact ⟨rfl, HB2.out⟩

set_option maxHeartbeats 800000 in
theorem load_new (h : Eng w b F c K) {key : ByteArray} (hk : key.size ≤ 40) (hh : has K key = false) (hl : len K ≠ c) :
    Calls Try.prog 29 #[.pointer (some ⟨b, 0, none⟩), .string key] w (Did (.bool true) b F c (comes K 1 key 0) w) := by
  have L := Lib.hid (eng_has_no (h.drewN 1) (key := key) (by omega) hh)
  have LN := Lib.hid (fun w1 (h : Eng w1 b F c K) => eng_len h)
  have hi : Inv c (comes K 1 key 0) := (come h.inv (.inr rfl) hk (fun e => by rw [← has_iff, hh] at e; cases e) (by have := h.inv.room; omega)).1
  have HE := Lib.hid h
  have HI := Lib.hid hi
  have HI0 := Lib.hid h.inv
  obtain ⟨s, cap, bx, y, G, H, hm⟩ := h.mid
  obtain ⟨c0, c1, c2, c3, c4, c5⟩ := hm.cells
  have HM := Lib.hid hm
  have CM := Lib.hid (fun w1 (h : MidK w b s cap bx y c F G H K w1) => comes_at h HI0.out hk 1 (.inr rfl) (z := 1) rfl 0 (zm := 0) rfl)
  clear hm h hh hi
  generalize len K = n at *
  have dN : ((n : Int) == (c : Int)) = false := by simp; omega
  go_enter Try.func29, Try.ntmps29
  go_wp2_with fail
  refine wp_region_held_drew (S := fun w' => w'.cell? ⟨b, 2, none⟩ = some (.int .i64 (c : Int))) (by kernel_rfl) ?_ (fun hHeld => ?_)
  · exact c2
  refine wpAnyH_take (i := 0) (v := ?_) rfl (by kernel_rfl) (by kernel_rfl) (by kernel_rfl) (fun _ _ _ h => h) (Or.inl ⟨by rfl, ?_⟩) (by assumption) ?_
  rotate_left
  · (intro w hSw; (try dsimp only at hSw); go_simp; first | done | with_reducible rfl)
  simp only [Act.put, List.getElem_toArray, List.getElem_cons_zero, List.setIfInBounds_toArray, List.set_cons_zero, List.set_cons_succ]
  refine wpAnyH_take (i := 1) (v := ?_) rfl (by kernel_rfl) (by kernel_rfl) (by kernel_rfl) (fun _ _ _ h => h) (Or.inl ⟨by rfl, ?_⟩) (by assumption) ?_
  rotate_left
  · (intro w hSw; (try dsimp only at hSw); go_simp; first | done | with_reducible rfl)
  simp only [Act.put, List.getElem_toArray, List.getElem_cons_zero, List.getElem_cons_succ, List.setIfInBounds_toArray, List.set_cons_zero, List.set_cons_succ]
  refine wpAnyH_take (i := 2) (v := ?_) rfl (by kernel_rfl) (by kernel_rfl) (by kernel_rfl) (fun _ _ _ h => h) (Or.inl ⟨by rfl, ?_⟩) (by assumption) ?_
  rotate_left
  · (intro w hSw; (try dsimp only at hSw); go_simp; first | done | with_reducible rfl)
  simp only [Act.put, List.getElem_toArray, List.getElem_cons_zero, List.getElem_cons_succ, List.setIfInBounds_toArray, List.set_cons_zero, List.set_cons_succ]
  refine wpAnyH_take (i := 3) (v := ?_) rfl (by kernel_rfl) (by kernel_rfl) (by kernel_rfl) (fun _ _ _ h => h) (Or.inl ⟨by rfl, ?_⟩) (by assumption) ?_
  rotate_left
  · (intro w hSw; (try dsimp only at hSw); go_simp; first | done | with_reducible rfl)
  simp only [Act.put, List.getElem_toArray, List.getElem_cons_zero, List.getElem_cons_succ, List.setIfInBounds_toArray, List.set_cons_zero, List.set_cons_succ]
  refine wpAnyH_take (i := 4) (v := ?_) rfl (by kernel_rfl) (by kernel_rfl) (by kernel_rfl) (fun _ _ _ h => h) (Or.inl ⟨by rfl, ?_⟩) (by assumption) ?_
  rotate_left
  · (intro w hSw; (try dsimp only at hSw); go_simp; first | done | with_reducible rfl)
  simp only [Act.put, List.getElem_toArray, List.getElem_cons_zero, List.getElem_cons_succ, List.setIfInBounds_toArray, List.set_cons_zero, List.set_cons_succ]
  refine wpAnyH_ready (rs := [5]) (by kernel_rfl) (by simp) ?_
  refine AllReadyH.cons rfl (fun K hK => ?_) ?_
  rotate_left
  · exact AllReadyH.nil
  go_simp
  refine L.out.mono ?_; rintro e w1 ⟨rfl, hb1⟩; have q2 := cell_below (w := w.drew) hb1 c2; have HB1 := Lib.hid (below_on (w := w) (w1 := w) (Below.refl _ _) hb1); clear hb1; go_simp
  refine hK.out _ _ ?_ (fun hHeld => ?_)
  · exact q2
  clear hK K
  try simp only [Act.put, List.getElem_toArray, List.getElem_cons_zero, List.getElem_cons_succ, List.setIfInBounds_toArray, List.set_cons_zero, List.set_cons_succ]
  refine wpAnyH_take (i := 6) (v := ?_) rfl (by kernel_rfl) (by kernel_rfl) (by kernel_rfl) (fun _ _ _ h => h) (Or.inl ⟨by rfl, ?_⟩) (by assumption) ?_
  rotate_left
  · (intro w hSw; (try dsimp only at hSw); go_simp; first | done | with_reducible rfl)
  simp only [Act.put, List.getElem_toArray, List.getElem_cons_zero, List.getElem_cons_succ, List.setIfInBounds_toArray, List.set_cons_zero, List.set_cons_succ]
  refine wpAnyH_take (i := 7) (v := ?_) rfl (by kernel_rfl) (by kernel_rfl) (by kernel_rfl) (fun _ _ _ h => h) (Or.inl ⟨by rfl, ?_⟩) (by assumption) ?_
  rotate_left
  · (intro w hSw; (try dsimp only at hSw); go_simp; first | done | with_reducible rfl)
  simp only [Act.put, List.getElem_toArray, List.getElem_cons_zero, List.getElem_cons_succ, List.setIfInBounds_toArray, List.set_cons_zero, List.set_cons_succ]
  refine wpAnyH_take (i := 8) (v := ?_) rfl (by kernel_rfl) (by kernel_rfl) (by kernel_rfl) (fun _ _ _ h => h) (Or.inl ⟨by rfl, ?_⟩) (by assumption) ?_
  rotate_left
  · (intro w hSw; (try dsimp only at hSw); go_simp; first | done | with_reducible rfl)
  simp only [Act.put, List.getElem_toArray, List.getElem_cons_zero, List.getElem_cons_succ, List.setIfInBounds_toArray, List.set_cons_zero, List.set_cons_succ]
  refine wpAnyH_take (i := 10) (v := ?_) rfl (by kernel_rfl) (by kernel_rfl) (by kernel_rfl) (fun _ _ _ h => h) (Or.inl ⟨by rfl, ?_⟩) (by assumption) ?_
  rotate_left
  · (intro w hSw; (try dsimp only at hSw); go_simp; first | done | with_reducible rfl)
  simp only [Act.put, List.getElem_toArray, List.getElem_cons_zero, List.getElem_cons_succ, List.setIfInBounds_toArray, List.set_cons_zero, List.set_cons_succ]
  refine wpAnyH_take (i := 11) (v := ?_) rfl (by kernel_rfl) (by kernel_rfl) (by kernel_rfl) (fun _ _ _ h => h) (Or.inl ⟨by rfl, ?_⟩) (by assumption) ?_
  rotate_left
  · (intro w hSw; (try dsimp only at hSw); go_simp; first | done | with_reducible rfl)
  simp only [Act.put, List.getElem_toArray, List.getElem_cons_zero, List.getElem_cons_succ, List.setIfInBounds_toArray, List.set_cons_zero, List.set_cons_succ]
  refine wpAnyH_take (i := 12) (v := ?_) rfl (by kernel_rfl) (by kernel_rfl) (by kernel_rfl) (fun _ _ _ h => h) (Or.inl ⟨by rfl, ?_⟩) (by assumption) ?_
  rotate_left
  · (intro w hSw; (try dsimp only at hSw); go_simp; first | done | with_reducible rfl)
  simp only [Act.put, List.getElem_toArray, List.getElem_cons_zero, List.getElem_cons_succ, List.setIfInBounds_toArray, List.set_cons_zero, List.set_cons_succ]
  refine wpAnyH_take (i := 13) (v := ?_) rfl (by kernel_rfl) (by kernel_rfl) (by kernel_rfl) (fun _ _ _ h => h) (Or.inl ⟨by rfl, ?_⟩) (by assumption) ?_
  rotate_left
  · (intro w hSw; (try dsimp only at hSw); go_simp; first | done | with_reducible rfl)
  simp only [Act.put, List.getElem_toArray, List.getElem_cons_zero, List.getElem_cons_succ, List.setIfInBounds_toArray, List.set_cons_zero, List.set_cons_succ]
  refine wpAnyH_ready (rs := [9]) (by kernel_rfl) (by simp) ?_
  refine AllReadyH.cons rfl (fun K hK => ?_) ?_
  rotate_left
  · exact AllReadyH.nil
  go_simp
  refine (LN.out w1 (HE.out.below HB1.out)).mono ?_; rintro e w2 ⟨rfl, hb2⟩; have p2 := cell_below hb2 q2; have HB2 := Lib.hid (below_next HB1.out hb2); clear hb2; go_simp
  refine hK.out _ _ ?_ (fun hHeld => ?_)
  · exact p2
  clear hK K
  try simp only [Act.put, List.getElem_toArray, List.getElem_cons_zero, List.getElem_cons_succ, List.setIfInBounds_toArray, List.set_cons_zero, List.set_cons_succ]
  refine wpAnyH_take (i := 14) (v := ?_) rfl (by kernel_rfl) (by kernel_rfl) (by kernel_rfl) (fun _ _ _ h => h) (Or.inl ⟨by rfl, ?_⟩) (by assumption) ?_
  rotate_left
  · (intro w hSw; (try dsimp only at hSw); go_simp; first | done | with_reducible rfl)
  simp only [Act.put, List.getElem_toArray, List.getElem_cons_zero, List.getElem_cons_succ, List.setIfInBounds_toArray, List.set_cons_zero, List.set_cons_succ]
  refine wpAnyH_take (i := 15) (v := ?_) rfl (by kernel_rfl) (by kernel_rfl) (by kernel_rfl) (fun _ _ _ h => h) (Or.inl ⟨by rfl, ?_⟩) (by assumption) ?_
  rotate_left
  · (intro w hSw; (try dsimp only at hSw); go_simp; first | done | with_reducible rfl)
  simp only [Act.put, List.getElem_toArray, List.getElem_cons_zero, List.getElem_cons_succ, List.setIfInBounds_toArray, List.set_cons_zero, List.set_cons_succ]
  refine wpAnyH_done (by kernel_rfl) ?_ _
  have HM2 := Lib.hid (HM.out.below HB2.out)
  go_wp2_with fail
  refine (CM.out _ HM2.out).mono ?_
  rintro e w3 ⟨rfl, G3, H3, hm3⟩
  have HM3 := Lib.hid hm3
  clear hm3
  go_wp2_with fail
  go_ret
  exact HM3.out.did HI.out _

theorem eng_load (h : Eng w b F c K) {key : ByteArray} (hk : key.size ≤ 40) :
    Calls Try.prog 29 #[.pointer (some ⟨b, 0, none⟩), .string key] w (Did (.bool (load c K key).1) b F c (load c K key).2 w) := by
  unfold load
  cases hh : has K key with
  | true =>
    rw [if_pos (.inl rfl)]
    exact (load_has h hk hh).mono fun _ _ ⟨h1, h2⟩ => Did.of_below h h1 h2
  | false =>
    by_cases hl : len K = c
    · rw [if_pos (.inr hl)]
      exact (load_full h hk hh hl).mono fun _ _ ⟨h1, h2⟩ => Did.of_below h h1 h2
    · rw [if_neg (by rintro (e | e); cases e; exact hl e)]
      exact load_new h hk hh hl

theorem eng_remove (h : Eng w b F c K) {key : ByteArray} (hk : key.size ≤ 40) :
    Calls Try.prog 31 #[.pointer (some ⟨b, 0, none⟩), .string key] w (Did (.bool (remove K key).1) b F c (remove K key).2 w) := by
  unfold remove
  cases hh : has K key with
  | false =>
    rw [if_neg (by simp)]
    have L := Lib.hid (eng_has_no h (key := key) (by omega) hh)
    have HE := Lib.hid h
    clear h hh
    go_enter Try.func31, Try.ntmps31
    go_wp2_with fail
    refine L.out.mono ?_
    rintro e w1 ⟨rfl, hb1⟩
    have HB1 := Lib.hid hb1
    clear hb1
    go_wp2_with fail
    go_ret
    exact Did.of_below HE.out rfl HB1.out
  | true =>
    rw [if_pos rfl]
    have L := Lib.hid (eng_has_yes h (key := key) (by omega) hh)
    have HI := Lib.hid (inv_goes h.inv key)
    have HI0 := Lib.hid h.inv
    have hm := has_iff.1 hh
    obtain ⟨s, cap, bx, y, G, H, hmid⟩ := h.mid
    have HM := Lib.hid hmid
    have GO := Lib.hid (fun w1 (h : MidK w b s cap bx y c F G H K w1) => goes_at h HI0.out hm)
    clear hmid h hh hm
    go_enter Try.func31, Try.ntmps31
    go_wp2_with fail
    refine L.out.mono ?_
    rintro e w1 ⟨rfl, hb1⟩
    have HM1 := Lib.hid (HM.out.below hb1)
    clear hb1
    go_wp2_with fail
    refine (GO.out _ HM1.out).mono ?_
    rintro e w2 ⟨rfl, G2, H2, hm2⟩
    have HM2 := Lib.hid hm2
    clear hm2
    go_wp2_with fail
    go_ret
    exact HM2.out.did HI.out _

theorem eng_remove_nil (key : ByteArray) (w : World) : Calls Try.prog 31 #[.pointer none, .string key] w fun e w' => e = .returned (.bool false) ∧ w = w' := by
  have L := Lib.hid (eng_has_nil key w)
  go_enter Try.func31, Try.ntmps31
  go_wp2_with fail
  refine L.out.mono ?_
  rintro e w4 ⟨rfl, rfl⟩
  go_wp2_with fail
  go_ret
  exact ⟨rfl, rfl⟩

/-- The room of an engine that is asked for so much. -/
def cof (room : Int) : Nat := (max 1 (min room 1024)).toNat
theorem cof_1 (room : Int) : 1 ≤ cof room := by unfold cof; omega
theorem cof_2 (room : Int) : cof room ≤ 1024 := by unfold cof; omega

def NewPost (room : Int) (w : World) (e : Ending) (w' : World) : Prop :=
  ∃ b F, e = .returned (.pointer (some ⟨b, 0, none⟩)) ∧ Eng w' b F (cof room) init ∧ Below w.heap.size w w' ∧ ∀ k, F k → w.heap.size ≤ k

theorem new_end {s cap bx y c : Nat} {x z : Int} {w w1 w2 : World} (hc : 1 ≤ c ∧ c ≤ 1024) (hr : Rw.Rows 3 w1 (rva s cap bx) (fun k => w.heap.size ≤ k ∧ k < w1.heap.size) (fun _ => [])) (hb : Below w.heap.size w w1)
    (hi : Yn.Idx w2 y (fun k => w1.heap.size ≤ k ∧ k < w2.heap.size) (fun _ _ => False) 0) (hb2 : Below w1.heap.size w1 w2) (hx : x = (kin c : Int)) (hz : z = (kout c : Int)) :
    Eng (w2.alloc (.cells #[.slice (some ⟨s, 0, none⟩) 3 cap, .pointer (some ⟨bx, 0, none⟩), .int .i64 (c : Int), .int .i64 x, .int .i64 z, .pointer (some ⟨y, 0, none⟩)] 59)) w2.heap.size (fun k => w.heap.size ≤ k ∧ k < w2.heap.size + 1) c init ∧
      Below w.heap.size w (w2.alloc (.cells #[.slice (some ⟨s, 0, none⟩) 3 cap, .pointer (some ⟨bx, 0, none⟩), .int .i64 (c : Int), .int .i64 x, .int .i64 z, .pointer (some ⟨y, 0, none⟩)] 59)) := by
  subst hx hz
  have hb3 : Below w2.heap.size w2 (w2.alloc (.cells #[.slice (some ⟨s, 0, none⟩) 3 cap, .pointer (some ⟨bx, 0, none⟩), .int .i64 (c : Int), .int .i64 (kin c : Int), .int .i64 (kout c : Int), .pointer (some ⟨y, 0, none⟩)] 59)) := (Below.refl _ _).alloc (Nat.le_refl _) _
  have hs := hb.size
  have hs2 := hb2.size
  refine ⟨⟨s, cap, bx, y, _, _, heap_alloc_new w2 _, (hr.below hb2).below hb3, (hi.below hb3).same ?_, inv_init hc.1 hc.2, fun h => by have := h.2; omega, fun h => by have := h.2; omega, fun k hk hj => by have := hk.2; have := hj.1; omega, fun k hk => ⟨hk.1, by have := hk.2; omega⟩, fun k hk => ⟨by have := hk.1; omega, by have := hk.2; omega⟩, ⟨by omega, by omega⟩, fun k hk => by have := hk.2; simpa using this⟩, below_next (below_next hb hb2) hb3⟩
  intro k v
  unfold cm
  simp [mem_res, init]

theorem new_of (room : Int) (c : Nat) (hc : cof room = c) (hl : room > 1024 ∧ c = 1024 ∨ room = (c : Int) ∧ 2 ≤ c ∧ c ≤ 1024 ∨ room ≤ 1 ∧ c = 1) (w : World) : Calls Try.prog 16 #[.int .i64 room] w (NewPost room w) := by
  have NR := Lib.hid (new_rows w 3 (by omega) (by omega))
  have HC := Lib.hid hc
  clear hc
  rcases hl with ⟨h1, rfl⟩ | ⟨rfl, h1, h2⟩ | ⟨h1, rfl⟩
  · go_enter Try.func16, Try.ntmps16
    go_wp2_with fail
    all_goals
      refine NR.out.mono ?_
      rintro e w1 ⟨v, rfl, hr, hb⟩
      obtain ⟨s, cap, bx, rfl⟩ : ∃ s cap bx, v = rva s cap bx := by obtain ⟨s, cap, bx, n, l, X, Fx, Fr, M, h1, _⟩ := hr; exact ⟨s, cap, bx, h1⟩
      have HR := Lib.hid hr
      have HB := Lib.hid hb
      clear hr hb
      go_wp2_with fail
      all_goals
        refine (Yn.idx_new w1).mono ?_
        rintro e w2 ⟨rfl, hi2, hb2⟩
        have HI2 := Lib.hid hi2
        have HB2 := Lib.hid hb2
        clear hi2 hb2
        go_wp2_with fail
        all_goals
          go_ret
          refine ⟨w2.heap.size, fun k => w.heap.size ≤ k ∧ k < w2.heap.size + 1, rfl, ?_, (new_end (c := 1024) (by omega) HR.out HB.out HI2.out HB2.out (by unfold kin; omega) (by unfold kout kin; omega)).2, fun k hk => hk.1⟩
          rw [HC.out]
          exact (new_end (c := 1024) (by omega) HR.out HB.out HI2.out HB2.out (by unfold kin; omega) (by unfold kout kin; omega)).1
  · go_enter Try.func16, Try.ntmps16
    go_wp2_with fail
    all_goals
      refine NR.out.mono ?_
      rintro e w1 ⟨v, rfl, hr, hb⟩
      obtain ⟨s, cap, bx, rfl⟩ : ∃ s cap bx, v = rva s cap bx := by obtain ⟨s, cap, bx, n, l, X, Fx, Fr, M, h1, _⟩ := hr; exact ⟨s, cap, bx, h1⟩
      have HR := Lib.hid hr
      have HB := Lib.hid hb
      clear hr hb
      go_wp2_with fail
      all_goals
        refine (Yn.idx_new w1).mono ?_
        rintro e w2 ⟨rfl, hi2, hb2⟩
        have HI2 := Lib.hid hi2
        have HB2 := Lib.hid hb2
        clear hi2 hb2
        go_wp2_with fail
        all_goals
          go_ret
          refine ⟨w2.heap.size, fun k => w.heap.size ≤ k ∧ k < w2.heap.size + 1, rfl, ?_, (new_end (c := c) (by omega) HR.out HB.out HI2.out HB2.out (by unfold kin; omega) (by unfold kout kin; omega)).2, fun k hk => hk.1⟩
          rw [HC.out]
          exact (new_end (c := c) (by omega) HR.out HB.out HI2.out HB2.out (by unfold kin; omega) (by unfold kout kin; omega)).1
  · go_enter Try.func16, Try.ntmps16
    go_wp2_with fail
    all_goals
      refine NR.out.mono ?_
      rintro e w1 ⟨v, rfl, hr, hb⟩
      obtain ⟨s, cap, bx, rfl⟩ : ∃ s cap bx, v = rva s cap bx := by obtain ⟨s, cap, bx, n, l, X, Fx, Fr, M, h1, _⟩ := hr; exact ⟨s, cap, bx, h1⟩
      have HR := Lib.hid hr
      have HB := Lib.hid hb
      clear hr hb
      go_wp2_with fail
      all_goals
        refine (Yn.idx_new w1).mono ?_
        rintro e w2 ⟨rfl, hi2, hb2⟩
        have HI2 := Lib.hid hi2
        have HB2 := Lib.hid hb2
        clear hi2 hb2
        go_wp2_with fail
        all_goals
          go_ret
          refine ⟨w2.heap.size, fun k => w.heap.size ≤ k ∧ k < w2.heap.size + 1, rfl, ?_, (new_end (c := 1) (by omega) HR.out HB.out HI2.out HB2.out (by unfold kin; omega) (by unfold kout kin; omega)).2, fun k hk => hk.1⟩
          rw [HC.out]
          exact (new_end (c := 1) (by omega) HR.out HB.out HI2.out HB2.out (by unfold kin; omega) (by unfold kout kin; omega)).1

theorem eng_new (room : Int) (w : World) : Calls Try.prog 16 #[.int .i64 room] w (NewPost room w) := by
  refine new_of room _ rfl ?_ w
  unfold cof
  omega
end

end Go.Proofs.Ytodiceafnkojiaa.Eg
