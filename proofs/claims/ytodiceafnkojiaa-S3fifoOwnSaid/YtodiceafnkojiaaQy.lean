/- S3-FIFO in memory: Evict. -/
import Derived.Test.YtodiceafnkojiaaQx
namespace Go.Proofs.Ytodiceafnkojiaa.Eg
open Go Go.RowKit Go.Proofs.Ytodiceafnkojiaa.K
open Go.Proofs.Ytodiceafnkojiaa.Li (more more_lt)
open Go.Proofs.Ytodiceafnkojiaa.Rw

section
variable {w : World} {b c : Nat} {F : Nat → Prop} {K : Ks}

/-- An act's end: what it says, the engine as K', its memory where it was, or new. -/
def Did (v : Value) (b : Nat) (F : Nat → Prop) (c : Nat) (K' : Ks) (w : World) (e : Ending) (w' : World) : Prop :=
  e = .returned v ∧ ∃ F', Eng w' b F' c K' ∧ Step F w F' w'
theorem Did.of_below {v : Value} {e : Ending} {w' : World} (h : Eng w b F c K) (he : e = .returned v) (hb : Below w.heap.size w w') : Did v b F c K w e w' :=
  ⟨he, F, h.below hb, Step.of_below hb⟩
theorem Mid.did {s cap bx y : Nat} {G H : Nat → Prop} {K' : Ks} {w' : World} (h : MidK w b s cap bx y c F G H K' w') (hi : Inv c K') (v : Value) : Did v b F c K' w (.returned v) w' :=
  ⟨rfl, _, (h.done hi).1, more_eq (h.done hi).2⟩

theorem evict_none (h : Eng w b F c K) (h0 : len K = 0) :
    Calls Try.prog 28 #[.pointer (some ⟨b, 0, none⟩)] w fun e w' => e = .returned (.tuple #[.string ByteArray.empty, .bool false]) ∧ Below w.heap.size w w' := by
  have L := Lib.hid (eng_len h)
  rw [h0] at L
  clear h h0
  go_enter Try.func28, Try.ntmps28
  go_wp2_with fail
  refine L.out.mono ?_
  rintro e w4 ⟨rfl, hb4⟩
  go_wp2_with fail
  go_ret2
  exact ⟨rfl, hb4⟩

theorem evict_small (h0 : 0 < len K) (h1 : kin c < (K.r 0).length ∨ (K.r 1).length = 0) :
    evict c K = match fromSmall c ((K.r 0).length + 1) K with
    | (some k, L) => (k, true, L)
    | (none, L) => ((fromMain (weight L) L).1, true, (fromMain (weight L) L).2) := by
  unfold evict
  rw [if_neg (by omega), if_pos h1]
  rfl
theorem evict_main (h0 : 0 < len K) (h1 : ¬ (kin c < (K.r 0).length ∨ (K.r 1).length = 0)) : evict c K = ((fromMain (weight K) K).1, true, (fromMain (weight K) K).2) := by
  unfold evict
  rw [if_neg (by omega), if_neg h1]

set_option maxHeartbeats 1600000 in
theorem evict_some_at (h : Eng w b F c K) (h0 : 0 < len K) :
    Calls Try.prog 28 #[.pointer (some ⟨b, 0, none⟩)] w (Did (.tuple #[.string (evict c K).1, .bool true]) b F c (evict c K).2.2 w) := by
  have L := Lib.hid (eng_len h)
  have HI := Lib.hid h.inv
  have hkin : kin c ≤ 1024 := by have := h.inv.c2; unfold kin; omega
  have hl1 := h.inv.len1
  have IV : Hid (Inv c (evict c K).2.2) := Lib.hid (by obtain ⟨k, K', e, -, hi, -⟩ := evict_facts h.inv h0; rw [e]; exact hi)
  obtain ⟨s, cap, bx, y, G, H, hm⟩ := h.mid
  have HM := Lib.hid hm
  have hp : (0 : Int) < (len K : Int) := by omega
  have M0 := Lib.hid (fun w1 (h : MidK w b s cap bx y c F G H K w1) => many_one h 0 (by omega) (z := 0) rfl (by omega))
  have M1 := Lib.hid (fun w1 (h : MidK w b s cap bx y c F G H K w1) => many_one h 1 (by omega) (z := 1) rfl (by omega))
  have FS := Lib.hid (fun w1 (h : MidK w b s cap bx y c F G H K w1) => fromSmall_at h HI.out)
  have FF := Lib.hid (fromSmall_facts (c := c) ((K.r 0).length + 1) K HI.out (by omega))
  have FM := Lib.hid (fun w1 (h : MidK w b s cap bx y c F G H K w1) (hp : 0 < (K.r 1).length) => fromMain_at h HI.out hp)
  have ES := Lib.hid (evict_small (c := c) h0)
  have EM := Lib.hid (evict_main (c := c) h0)
  have HN := Lib.hid (show len K = (K.r 0).length + (K.r 1).length from rfl)
  clear h hm h0
  generalize len K = n at *
  generalize hB : (K.r 1).length = B at *
  have HB := Lib.hid hB
  generalize fromSmall c ((K.r 0).length + 1) K = r at *
  generalize (K.r 0).length = A at *
  clear hB
  by_cases hA : kin c < A
  · have dA : decide (kin c < A) = true := by simpa using hA
    have ES' := Lib.hid (ES.out (.inl hA))
    clear ES EM
    go_enter Try.func28, Try.ntmps28
    go_wp2_with fail
    refine L.out.mono ?_
    rintro e w1 ⟨rfl, hb1⟩
    have HM1 := Lib.hid (HM.out.below hb1)
    obtain ⟨c0, c1, c2, c3, c4, c5⟩ := HM1.out.cells
    clear hb1
    go_wp2_with fail
    refine wp_region_held_drew (S := fun w' => w'.cell? ⟨b, 0, none⟩ = some (.slice (some ⟨s, 0, none⟩) 3 cap) ∧ w'.cell? ⟨b, 1, none⟩ = some (.pointer (some ⟨bx, 0, none⟩)) ∧ w'.cell? ⟨b, 3, none⟩ = some (.int .i64 (kin c : Int))) (by kernel_rfl) ?_ (fun hHeld => ?_)
    · exact ⟨c0, c1, c3⟩
    refine wpAnyH_take (i := 0) (v := ?_) rfl (by kernel_rfl) (by kernel_rfl) (by kernel_rfl) (fun _ _ _ h => h) (Or.inl ⟨by rfl, ?_⟩) (by assumption) ?_
    rotate_left
    · (intro w hSw; (try dsimp only at hSw); go_simp; first | done | with_reducible rfl)
    simp only [Act.put, List.getElem_toArray, List.getElem_cons_zero, List.setIfInBounds_toArray, List.set_cons_zero, List.set_cons_succ]
    refine wpAnyH_take (i := 1) (v := ?_) rfl (by kernel_rfl) (by kernel_rfl) (by kernel_rfl) (fun _ _ _ h => h) (Or.inl ⟨by rfl, ?_⟩) (by assumption) ?_
    rotate_left
    · (intro w hSw; (try dsimp only at hSw); go_simp; first | done | with_reducible rfl)
    simp only [Act.put, List.getElem_toArray, List.getElem_cons_zero, List.getElem_cons_succ, List.setIfInBounds_toArray, List.set_cons_zero, List.set_cons_succ]
    refine wpAnyH_take (i := 2) (v := ?_) rfl (by kernel_rfl) (by kernel_rfl) (by kernel_rfl) (fun _ _ _ h => h) (Or.inl ⟨by rfl, ?_⟩) (by assumption) ?_
    rotate_left
    · (intro w hSw; (try dsimp only at hSw); go_simp; first | done | with_reducible rfl)
    simp only [Act.put, List.getElem_toArray, List.getElem_cons_zero, List.getElem_cons_succ, List.setIfInBounds_toArray, List.set_cons_zero, List.set_cons_succ]
    refine wpAnyH_take (i := 3) (v := ?_) rfl (by kernel_rfl) (by kernel_rfl) (by kernel_rfl) (fun _ _ _ h => h) (Or.inl ⟨by rfl, ?_⟩) (by assumption) ?_
    rotate_left
    · (intro w hSw; (try dsimp only at hSw); go_simp; first | done | with_reducible rfl)
    simp only [Act.put, List.getElem_toArray, List.getElem_cons_zero, List.getElem_cons_succ, List.setIfInBounds_toArray, List.set_cons_zero, List.set_cons_succ]
    refine wpAnyH_take (i := 6) (v := ?_) rfl (by kernel_rfl) (by kernel_rfl) (by kernel_rfl) (fun _ _ _ h => h) (Or.inl ⟨by rfl, ?_⟩) (by assumption) ?_
    rotate_left
    · (intro w hSw; (try dsimp only at hSw); go_simp; first | done | with_reducible rfl)
    simp only [Act.put, List.getElem_toArray, List.getElem_cons_zero, List.getElem_cons_succ, List.setIfInBounds_toArray, List.set_cons_zero, List.set_cons_succ]
    refine wpAnyH_take (i := 7) (v := ?_) rfl (by kernel_rfl) (by kernel_rfl) (by kernel_rfl) (fun _ _ _ h => h) (Or.inl ⟨by rfl, ?_⟩) (by assumption) ?_
    rotate_left
    · (intro w hSw; (try dsimp only at hSw); go_simp; first | done | with_reducible rfl)
    simp only [Act.put, List.getElem_toArray, List.getElem_cons_zero, List.getElem_cons_succ, List.setIfInBounds_toArray, List.set_cons_zero, List.set_cons_succ]
    refine wpAnyH_take (i := 8) (v := ?_) rfl (by kernel_rfl) (by kernel_rfl) (by kernel_rfl) (fun _ _ _ h => h) (Or.inl ⟨by rfl, ?_⟩) (by assumption) ?_
    rotate_left
    · (intro w hSw; (try dsimp only at hSw); go_simp; first | done | with_reducible rfl)
    simp only [Act.put, List.getElem_toArray, List.getElem_cons_zero, List.getElem_cons_succ, List.setIfInBounds_toArray, List.set_cons_zero, List.set_cons_succ]
    refine wpAnyH_take (i := 9) (v := ?_) rfl (by kernel_rfl) (by kernel_rfl) (by kernel_rfl) (fun _ _ _ h => h) (Or.inl ⟨by rfl, ?_⟩) (by assumption) ?_
    rotate_left
    · (intro w hSw; (try dsimp only at hSw); go_simp; first | done | with_reducible rfl)
    simp only [Act.put, List.getElem_toArray, List.getElem_cons_zero, List.getElem_cons_succ, List.setIfInBounds_toArray, List.set_cons_zero, List.set_cons_succ]
    refine wpAnyH_ready (rs := [4]) (by kernel_rfl) (by simp) ?_
    refine AllReadyH.cons rfl (fun K hK => ?_) ?_
    rotate_left
    · exact AllReadyH.nil
    go_simp
    refine hK.out _ _ ?_ (fun hHeld => ?_)
    · exact ⟨cell_below ((Below.refl _ _).alloc (Nat.le_refl _) _) c0, cell_below ((Below.refl _ _).alloc (Nat.le_refl _) _) c1, cell_below ((Below.refl _ _).alloc (Nat.le_refl _) _) c3⟩
    clear hK K
    try simp only [Act.put, List.getElem_toArray, List.getElem_cons_zero, List.getElem_cons_succ, List.setIfInBounds_toArray, List.set_cons_zero, List.set_cons_succ]
    refine wpAnyH_ready (rs := [5]) (by kernel_rfl) (by simp) ?_
    refine AllReadyH.cons rfl (fun K hK => ?_) ?_
    rotate_left
    · exact AllReadyH.nil
    go_simp
    refine (M0.out w1.drew HM1.out.drew).mono ?_; rintro e w2 ⟨rfl, hb2⟩; have HM2 := Lib.hid (HM1.out.drew.below hb2); have q := HM2.out.cells; have q0 := q.1; have q1 := q.2.1; have q3 := q.2.2.2.1; clear hb2 q; go_simp
    refine hK.out _ _ ?_ (fun hHeld => ?_)
    · exact ⟨q0, q1, q3⟩
    clear hK K
    try simp only [Act.put, List.getElem_toArray, List.getElem_cons_zero, List.getElem_cons_succ, List.setIfInBounds_toArray, List.set_cons_zero, List.set_cons_succ]
    refine wpAnyH_take (i := 10) (v := ?_) rfl (by kernel_rfl) (by kernel_rfl) (by kernel_rfl) (fun _ _ _ h => h) (Or.inl ⟨by rfl, ?_⟩) (by assumption) ?_
    rotate_left
    · (intro w hSw; (try dsimp only at hSw); go_simp; first | done | with_reducible rfl)
    simp only [Act.put, List.getElem_toArray, List.getElem_cons_zero, List.getElem_cons_succ, List.setIfInBounds_toArray, List.set_cons_zero, List.set_cons_succ]
    refine wpAnyH_take (i := 11) (v := ?_) rfl (by kernel_rfl) (by kernel_rfl) (by kernel_rfl) (fun _ _ _ h => h) (Or.inl ⟨by rfl, ?_⟩) (by assumption) ?_
    rotate_left
    · (intro w hSw; (try dsimp only at hSw); go_simp; first | done | with_reducible rfl)
    simp only [Act.put, List.getElem_toArray, List.getElem_cons_zero, List.getElem_cons_succ, List.setIfInBounds_toArray, List.set_cons_zero, List.set_cons_succ]
    refine wpAnyH_take (i := 12) (v := undef) rfl (by kernel_rfl) (by kernel_rfl) (by kernel_rfl) (fun _ _ _ h => h) (Or.inr ⟨by rfl, rfl⟩) (by assumption) ?_
    simp only [Act.put, List.getElem_toArray, List.getElem_cons_zero, List.getElem_cons_succ, List.setIfInBounds_toArray, List.set_cons_zero, List.set_cons_succ]
    refine wpAnyH_take (i := 13) (v := undef) rfl (by kernel_rfl) (by kernel_rfl) (by kernel_rfl) (fun _ _ _ h => h) (Or.inr ⟨by rfl, rfl⟩) (by assumption) ?_
    simp only [Act.put, List.getElem_toArray, List.getElem_cons_zero, List.getElem_cons_succ, List.setIfInBounds_toArray, List.set_cons_zero, List.set_cons_succ]
    refine wpAnyH_take (i := 14) (v := undef) rfl (by kernel_rfl) (by kernel_rfl) (by kernel_rfl) (fun _ _ _ h => h) (Or.inr ⟨by rfl, rfl⟩) (by assumption) ?_
    simp only [Act.put, List.getElem_toArray, List.getElem_cons_zero, List.getElem_cons_succ, List.setIfInBounds_toArray, List.set_cons_zero, List.set_cons_succ]
    refine wpAnyH_take (i := 15) (v := undef) rfl (by kernel_rfl) (by kernel_rfl) (by kernel_rfl) (fun _ _ _ h => h) (Or.inr ⟨by rfl, rfl⟩) (by assumption) ?_
    simp only [Act.put, List.getElem_toArray, List.getElem_cons_zero, List.getElem_cons_succ, List.setIfInBounds_toArray, List.set_cons_zero, List.set_cons_succ]
    refine wpAnyH_take (i := 16) (v := undef) rfl (by kernel_rfl) (by kernel_rfl) (by kernel_rfl) (fun _ _ _ h => h) (Or.inr ⟨by rfl, rfl⟩) (by assumption) ?_
    simp only [Act.put, List.getElem_toArray, List.getElem_cons_zero, List.getElem_cons_succ, List.setIfInBounds_toArray, List.set_cons_zero, List.set_cons_succ]
    refine wpAnyH_take (i := 17) (v := undef) rfl (by kernel_rfl) (by kernel_rfl) (by kernel_rfl) (fun _ _ _ h => h) (Or.inr ⟨by rfl, rfl⟩) (by assumption) ?_
    simp only [Act.put, List.getElem_toArray, List.getElem_cons_zero, List.getElem_cons_succ, List.setIfInBounds_toArray, List.set_cons_zero, List.set_cons_succ]
    refine wpAnyH_take (i := 18) (v := undef) rfl (by kernel_rfl) (by kernel_rfl) (by kernel_rfl) (fun _ _ _ h => h) (Or.inr ⟨by rfl, rfl⟩) (by assumption) ?_
    simp only [Act.put, List.getElem_toArray, List.getElem_cons_zero, List.getElem_cons_succ, List.setIfInBounds_toArray, List.set_cons_zero, List.set_cons_succ]
    refine wpAnyH_take (i := 19) (v := ?_) rfl (by kernel_rfl) (by kernel_rfl) (by kernel_rfl) (fun _ _ _ h => h) (Or.inl ⟨by rfl, ?_⟩) (by assumption) ?_
    rotate_left
    · (intro w hSw; (try dsimp only at hSw); go_simp; first | done | with_reducible rfl)
    simp only [Act.put, List.getElem_toArray, List.getElem_cons_zero, List.getElem_cons_succ, List.setIfInBounds_toArray, List.set_cons_zero, List.set_cons_succ]
    refine wpAnyH_done (by kernel_rfl) ?_ _
    go_wp2_with fail
    refine (FS.out _ HM2.out).mono ?_
    rintro e w4 ⟨rfl, G4, H4, hm4⟩
    have HM4 := Lib.hid hm4
    clear hm4 FS
    obtain ⟨o, L⟩ := r
    cases o with
    | some k =>
      have IV' : Hid (Inv c L) := Lib.hid (by have := IV.out; rw [ES'.out] at this; exact this)
      simp only [Option.getD, Option.isSome]
      go_wp2_with fail
      go_ret2
      rw [ES'.out]
      exact HM4.out.did IV'.out _
    | none =>
      have hLL : Inv c L ∧ 0 < (L.r 1).length := by
        rcases FF.out with ⟨k, L', e, -⟩ | ⟨L', e, i1, i2, i3, -⟩
        · cases e
        · cases e
          refine ⟨i1, ?_⟩
          unfold len at i3
          rw [i2] at i3
          simp at i3
          omega
      have FM2 := Lib.hid (fromMain_at HM4.out hLL.1 hLL.2)
      have IV' : Hid (Inv c (fromMain (weight L) L).2) := Lib.hid (by have := IV.out; rw [ES'.out] at this; exact this)
      have ES2 : Hid (evict c K = ((fromMain (weight L) L).1, true, (fromMain (weight L) L).2)) := Lib.hid ES'.out
      simp only [Option.getD, Option.isSome]
      generalize fromMain (weight L) L = r2 at *
      go_wp2_with fail
      refine FM2.out.mono ?_
      rintro e w5 ⟨rfl, G5, H5, hm5⟩
      have HM5 := Lib.hid hm5
      clear hm5
      go_wp2_with fail
      go_ret2
      rw [ES2.out]
      exact HM5.out.did IV'.out _
  · have dA : decide (kin c < A) = false := by simpa using hA
    by_cases hB0 : B = 0
    · subst hB0
      have ES' := Lib.hid (ES.out (.inr rfl))
      clear ES EM
      go_enter Try.func28, Try.ntmps28
      go_wp2_with fail
      refine L.out.mono ?_
      rintro e w1 ⟨rfl, hb1⟩
      have HM1 := Lib.hid (HM.out.below hb1)
      obtain ⟨c0, c1, c2, c3, c4, c5⟩ := HM1.out.cells
      clear hb1
      go_wp2_with fail
      go_region_held3 (fun w' => w'.cell? ⟨b, 0, none⟩ = some (.slice (some ⟨s, 0, none⟩) 3 cap) ∧ w'.cell? ⟨b, 1, none⟩ = some (.pointer (some ⟨bx, 0, none⟩)) ∧ w'.cell? ⟨b, 3, none⟩ = some (.int .i64 (kin c : Int)))
        (first | (go_keep; done) | exact ⟨by assumption, by assumption, by assumption⟩)
        (first | (go_at_call 47; refine (M1.out w2 HM2.out).mono ?_; rintro e w3 ⟨rfl, hb3⟩; have HM3 := Lib.hid (HM2.out.below hb3); have p := HM3.out.cells; have p0 := p.1; have p1 := p.2.1; have p3 := p.2.2.2.1; clear hb3 p) | (go_at_call 47; refine (M0.out w1.drew HM1.out.drew).mono ?_; rintro e w2 ⟨rfl, hb2⟩; have HM2 := Lib.hid (HM1.out.drew.below hb2); have q := HM2.out.cells; have q0 := q.1; have q1 := q.2.1; have q3 := q.2.2.2.1; clear hb2 q))
      go_wp2_with fail
      refine (FS.out _ HM3.out).mono ?_
      rintro e w4 ⟨rfl, G4, H4, hm4⟩
      have HM4 := Lib.hid hm4
      clear hm4 FS
      obtain ⟨o, L⟩ := r
      cases o with
      | some k =>
        have IV' : Hid (Inv c L) := Lib.hid (by have := IV.out; rw [ES'.out] at this; exact this)
        simp only [Option.getD, Option.isSome]
        go_wp2_with fail
        go_ret2
        rw [ES'.out]
        exact HM4.out.did IV'.out _
      | none =>
        have hLL : Inv c L ∧ 0 < (L.r 1).length := by
          rcases FF.out with ⟨k, L', e, -⟩ | ⟨L', e, i1, i2, i3, -⟩
          · cases e
          · cases e
            refine ⟨i1, ?_⟩
            unfold len at i3
            rw [i2] at i3
            simp at i3
            omega
        have FM2 := Lib.hid (fromMain_at HM4.out hLL.1 hLL.2)
        have IV' : Hid (Inv c (fromMain (weight L) L).2) := Lib.hid (by have := IV.out; rw [ES'.out] at this; exact this)
        have ES2 : Hid (evict c K = ((fromMain (weight L) L).1, true, (fromMain (weight L) L).2)) := Lib.hid ES'.out
        simp only [Option.getD, Option.isSome]
        generalize fromMain (weight L) L = r2 at *
        go_wp2_with fail
        refine FM2.out.mono ?_
        rintro e w5 ⟨rfl, G5, H5, hm5⟩
        have HM5 := Lib.hid hm5
        clear hm5
        go_wp2_with fail
        go_ret2
        rw [ES2.out]
        exact HM5.out.did IV'.out _
    · have hB1 : 0 < B := by omega
      have dB : ((B : Int) == 0) = false := by simp; omega
      have EM' := Lib.hid (EM.out (by omega))
      have IV' : Hid (Inv c (fromMain (weight K) K).2) := Lib.hid (by have := IV.out; rw [EM'.out] at this; exact this)
      rw [EM'.out]
      clear ES EM EM' IV FS FF
      have FM' := Lib.hid (fun w1 h => FM.out w1 h hB1)
      clear FM hB1
      generalize fromMain (weight K) K = r2 at *
      go_enter Try.func28, Try.ntmps28
      go_wp2_with fail
      refine L.out.mono ?_
      rintro e w1 ⟨rfl, hb1⟩
      have HM1 := Lib.hid (HM.out.below hb1)
      obtain ⟨c0, c1, c2, c3, c4, c5⟩ := HM1.out.cells
      clear hb1
      go_wp2_with fail
      go_region_held3 (fun w' => w'.cell? ⟨b, 0, none⟩ = some (.slice (some ⟨s, 0, none⟩) 3 cap) ∧ w'.cell? ⟨b, 1, none⟩ = some (.pointer (some ⟨bx, 0, none⟩)) ∧ w'.cell? ⟨b, 3, none⟩ = some (.int .i64 (kin c : Int)))
        (first | (go_keep; done) | exact ⟨by assumption, by assumption, by assumption⟩)
        (first | (go_at_call 47; refine (M1.out w2 HM2.out).mono ?_; rintro e w3 ⟨rfl, hb3⟩; have HM3 := Lib.hid (HM2.out.below hb3); have p := HM3.out.cells; have p0 := p.1; have p1 := p.2.1; have p3 := p.2.2.2.1; clear hb3 p) | (go_at_call 47; refine (M0.out w1.drew HM1.out.drew).mono ?_; rintro e w2 ⟨rfl, hb2⟩; have HM2 := Lib.hid (HM1.out.drew.below hb2); have q := HM2.out.cells; have q0 := q.1; have q1 := q.2.1; have q3 := q.2.2.2.1; clear hb2 q))
      go_wp2_with fail
      refine (FM'.out _ HM3.out).mono ?_
      rintro e w5 ⟨rfl, G5, H5, hm5⟩
      have HM5 := Lib.hid hm5
      clear hm5
      go_wp2_with fail
      go_ret2
      exact HM5.out.did IV'.out _

theorem eng_evict (h : Eng w b F c K) :
    Calls Try.prog 28 #[.pointer (some ⟨b, 0, none⟩)] w (Did (.tuple #[.string (evict c K).1, .bool (evict c K).2.1]) b F c (evict c K).2.2 w) := by
  by_cases h0 : len K = 0
  · rw [evict_none' h0]
    exact (evict_none h h0).mono fun _ _ ⟨h1, h2⟩ => Did.of_below h h1 h2
  · have e : (evict c K).2.1 = true := by
      obtain ⟨k, K', e, -⟩ := evict_facts h.inv (by omega)
      rw [e]
    rw [e]
    exact evict_some_at h (by omega)

theorem eng_evict_nil (w : World) : Calls Try.prog 28 #[.pointer none] w fun e w' => e = .returned (.tuple #[.string ByteArray.empty, .bool false]) ∧ w = w' := by
  have L := Lib.hid (eng_len_nil w)
  go_enter Try.func28, Try.ntmps28
  go_wp2_with fail
  refine L.out.mono ?_
  rintro e w4 ⟨rfl, rfl⟩
  go_wp2_with fail
  go_ret2
  exact ⟨rfl, rfl⟩
end

end Go.Proofs.Ytodiceafnkojiaa.Eg
