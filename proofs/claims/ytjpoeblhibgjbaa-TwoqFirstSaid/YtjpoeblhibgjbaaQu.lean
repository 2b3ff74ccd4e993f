/- 2Q's reference in memory: Load, Remove, Keys, Ghosts, New. -/
import Derived.Test.YtjpoeblhibgjbaaQt
import Derived.Test.YtjpoeblhibgjbaaQf
import Derived.Deep.RegionWith
namespace Go.Proofs.Ytjpoeblhibgjbaa.Rf
open Go Go.RowKit Go.Proofs.Ytjpoeblhibgjbaa.K Go.Proofs.Ytjpoeblhibgjbaa.Sl Go.Proofs.Ytjpoeblhibgjbaa.Eg
open Go.Proofs.Ytjpoeblhibgjbaa.Li (more more_lt own_form')
open Go.Proofs.Ytjpoeblhibgjbaa.Rw (upd upd_same upd_other less less_same cell_below cell_upd own_mono own_below)

section
variable {w0 w w' : World} {b c : Nat} {F : Nat → Prop} {v : Nat → Value} {Fs : Nat → Nat → Prop} {K : Ks}

/-- One row is another slice, which was made before. -/
theorem RM.put (h : RM w0 b c F v Fs K w) {r : Nat} (hr : r < 3) {v' : Value} {F' : Nat → Prop} {xs : List ByteArray} (hs : Sl w v' F' xs)
    (hF : ∀ k, F' k → (∀ q, q < 3 → q ≠ r → ¬ Fs q k) ∧ k ≠ b ∧ (F k ∨ w0.heap.size ≤ k)) (hlt : ∀ k, F' k → k < w.heap.size) :
    RM w0 b c F (Rw.upd v r v') (Rw.upd Fs r F') (Rw.upd K r xs) (w.setCell ⟨b, r, none⟩ v') := by
  have hsz : (w.setCell ⟨b, r, none⟩ v').heap.size = w.heap.size := by simp [World.setCell]
  have hu2 : Upd (· = b) w (w.setCell ⟨b, r, none⟩ v') := (Upd.refl _ _).setB
  have hnb : ∀ q, q < 3 → ¬ Rw.upd Fs r F' q b := by
    intro q hq
    by_cases e : q = r
    · subst e
      rw [upd_same]
      exact fun hf => (hF b hf).2.1 rfl
    · rw [upd_other _ _ e]; exact h.nb q hq
  refine ⟨?_, ?_, ?_, hnb, ?_, h.fb, h.flt, h.upd.setCell (p := ⟨b, r, none⟩) (.inl h.fb) _, ?_⟩
  · rw [block_setCell h.blk]
    match r, hr with
    | 0, _ => rfl
    | 1, _ => rfl
    | 2, _ => rfl
  · intro q hq
    refine Sl.upd ?_ hu2 (fun k hk e => hnb q hq (by rw [← e]; exact hk))
    by_cases e : q = r
    · subst e; rw [upd_same, upd_same, upd_same]; exact hs
    · rw [upd_other _ _ e, upd_other _ _ e, upd_other _ _ e]
      exact h.sl q hq
  · intro p q hp hq hne k hk hk'
    by_cases e : p = r
    · subst e
      rw [upd_same] at hk
      rw [upd_other _ _ (Ne.symm hne)] at hk'
      exact (hF k hk).1 q hq (Ne.symm hne) hk'
    · rw [upd_other _ _ e] at hk
      by_cases e2 : q = r
      · rw [e2, upd_same] at hk'
        exact (hF k hk').1 p hp e hk
      · rw [upd_other _ _ e2] at hk'
        exact h.sep p q hp hq hne k hk hk'
  · intro q hq k hk
    rw [hsz]
    by_cases e : q = r
    · subst e; rw [upd_same] at hk; exact hlt k hk
    · rw [upd_other _ _ e] at hk; exact h.lt q hq k hk
  · intro q hq k hk
    by_cases e : q = r
    · subst e
      rw [upd_same] at hk
      exact (hF k hk).2.2
    · rw [upd_other _ _ e] at hk; exact h.grow q hq k hk

/-- Two rows were cut and stored. -/
theorem RM.cut2 {n0 n2 : Nat} {v0 v2 : Value} {w1 w2 : World} (h : RM w0 b c F v Fs K w) {key : ByteArray}
    (hb1 : Below w.heap.size w w1) (ho1 : w1.ownsRow w.heap.size 9 1 v0 n0 ((without (K 0) key).map .string)) (hb2 : Below w1.heap.size w1 w2) (ho2 : w2.ownsRow w1.heap.size 9 1 v2 n2 ((without (K 2) key).map .string)) :
    RM w0 b c F (Rw.upd (Rw.upd v 0 v0) 2 v2) (Rw.upd (Rw.upd Fs 0 (fun j => v0.ownBlock = some j)) 2 (fun j => v2.ownBlock = some j)) (Rw.upd (Rw.upd K 0 (without (K 0) key)) 2 (without (K 2) key)) ((w2.setCell ⟨b, 0, none⟩ v0).setCell ⟨b, 2, none⟩ v2) := by
  have hb : Below w.heap.size w w2 := below_next hb1 hb2
  have h1 := h.cutted (r := 0) (by omega) hb (own_below ho1 hb2)
  have hbl := lt_of_block h.blk
  have hsz : (w2.setCell ⟨b, 0, none⟩ v0).heap.size = w2.heap.size := by simp [World.setCell]
  have hs1 := hb1.size
  have hu : Upd (· = b) w2 (w2.setCell ⟨b, 0, none⟩ v0) := (Upd.refl _ _).setB
  refine h1.put (r := 2) (by omega) ((Sl.of_own ho2 (fun _ h => h)).upd hu (fun k hk e => ?_)) (fun k hk => ⟨?_, ?_, .inr ?_⟩) (fun k hk => ?_)
  · have := (ho2.lt k hk).1; omega
  · intro q hq hne hf
    have hk1 := (ho2.lt k hk).1
    by_cases e : q = 0
    · subst e
      rw [upd_same] at hf
      have := (ho1.lt k hf).2
      omega
    · rw [upd_other _ _ e] at hf
      have := h.lt q hq k hf
      omega
  · have := (ho2.lt k hk).1; omega
  · have := (ho2.lt k hk).1; have := h.upd.size; omega
  · rw [hsz]; exact (ho2.lt k hk).2

set_option maxHeartbeats 800000 in
theorem rload_has (h : Ref w b F c K) {key : ByteArray} (hh : has K key = true) :
    Calls Try.prog 48 #[.pointer (some ⟨b, 0, none⟩), .string key] w fun e w' => e = .returned (.bool false) ∧ Below w.heap.size w w' := by
  have L := Lib.hid (ref_has (h.drewN 1) key)
  rw [hh] at L
  have c3 : w.cell? ⟨b, 3, none⟩ = some (.int .i64 (c : Int)) := by obtain ⟨v, Fs, hm, -⟩ := h; exact hm.cells.2.2.2
  clear h hh
  go_enter Try.func48, Try.ntmps48
  go_wp2_with fail
  refine wp_region_held_drew (S := fun w' => w'.cell? ⟨b, 3, none⟩ = some (.int .i64 (c : Int))) (by kernel_rfl) ?_ (fun hHeld => ?_)
  · exact c3
  refine wpAnyH_take (i := 0) (v := ?_) rfl (by kernel_rfl) (by kernel_rfl) (by kernel_rfl) (fun _ _ _ h => h) (Or.inl ⟨by rfl, ?_⟩) (by assumption) ?_
  rotate_left
  · (intro w hSw; (try dsimp only at hSw); go_simp; first | done | with_reducible rfl)
  simp only [Act.put, List.getElem_toArray, List.getElem_cons_zero, List.setIfInBounds_toArray, List.set_cons_zero, List.set_cons_succ]
  refine wpAnyH_take (i := 1) (v := ?_) rfl (by kernel_rfl) (by kernel_rfl) (by kernel_rfl) (fun _ _ _ h => h) (Or.inl ⟨by rfl, ?_⟩) (by assumption) ?_
  rotate_left
  · (intro w hSw; (try dsimp only at hSw); go_simp; first | done | with_reducible rfl)
  simp only [Act.put, List.getElem_toArray, List.getElem_cons_zero, List.getElem_cons_succ, List.setIfInBounds_toArray, List.set_cons_zero, List.set_cons_succ]
  refine wpAnyH_ready (rs := [2]) (by kernel_rfl) (by simp) ?_
  refine AllReadyH.cons rfl (fun K hK => ?_) ?_
  rotate_left
  · exact AllReadyH.nil
  go_simp
  refine L.out.mono ?_; rintro e w1 ⟨rfl, rfl⟩; go_simp
  refine hK.out _ _ ?_ (fun hHeld => ?_)
  · exact c3
  clear hK K
  try simp only [Act.put, List.getElem_toArray, List.getElem_cons_zero, List.getElem_cons_succ, List.setIfInBounds_toArray, List.set_cons_zero, List.set_cons_succ]
  refine wpAnyH_take (i := 3) (v := ?_) rfl (by kernel_rfl) (by kernel_rfl) (by kernel_rfl) (fun _ _ _ h => h) (Or.inl ⟨by rfl, ?_⟩) (by assumption) ?_
  rotate_left
  · (intro w hSw; (try dsimp only at hSw); go_simp; first | done | with_reducible rfl)
  simp only [Act.put, List.getElem_toArray, List.getElem_cons_zero, List.getElem_cons_succ, List.setIfInBounds_toArray, List.set_cons_zero, List.set_cons_succ]
  refine wpAnyH_take (i := 4) (v := undef) rfl (by kernel_rfl) (by kernel_rfl) (by kernel_rfl) (fun _ _ _ h => h) (Or.inr ⟨by rfl, rfl⟩) (by assumption) ?_
  simp only [Act.put, List.getElem_toArray, List.getElem_cons_zero, List.getElem_cons_succ, List.setIfInBounds_toArray, List.set_cons_zero, List.set_cons_succ]
  refine wpAnyH_take (i := 5) (v := undef) rfl (by kernel_rfl) (by kernel_rfl) (by kernel_rfl) (fun _ _ _ h => h) (Or.inr ⟨by rfl, rfl⟩) (by assumption) ?_
  simp only [Act.put, List.getElem_toArray, List.getElem_cons_zero, List.getElem_cons_succ, List.setIfInBounds_toArray, List.set_cons_zero, List.set_cons_succ]
  refine wpAnyH_take (i := 6) (v := undef) rfl (by kernel_rfl) (by kernel_rfl) (by kernel_rfl) (fun _ _ _ h => h) (Or.inr ⟨by rfl, rfl⟩) (by assumption) ?_
  simp only [Act.put, List.getElem_toArray, List.getElem_cons_zero, List.getElem_cons_succ, List.setIfInBounds_toArray, List.set_cons_zero, List.set_cons_succ]
  refine wpAnyH_take (i := 7) (v := undef) rfl (by kernel_rfl) (by kernel_rfl) (by kernel_rfl) (fun _ _ _ h => h) (Or.inr ⟨by rfl, rfl⟩) (by assumption) ?_
  simp only [Act.put, List.getElem_toArray, List.getElem_cons_zero, List.getElem_cons_succ, List.setIfInBounds_toArray, List.set_cons_zero, List.set_cons_succ]
  refine wpAnyH_take (i := 8) (v := undef) rfl (by kernel_rfl) (by kernel_rfl) (by kernel_rfl) (fun _ _ _ h => h) (Or.inr ⟨by rfl, rfl⟩) (by assumption) ?_
  simp only [Act.put, List.getElem_toArray, List.getElem_cons_zero, List.getElem_cons_succ, List.setIfInBounds_toArray, List.set_cons_zero, List.set_cons_succ]
  refine wpAnyH_take (i := 9) (v := undef) rfl (by kernel_rfl) (by kernel_rfl) (by kernel_rfl) (fun _ _ _ h => h) (Or.inr ⟨by rfl, rfl⟩) (by assumption) ?_
  simp only [Act.put, List.getElem_toArray, List.getElem_cons_zero, List.getElem_cons_succ, List.setIfInBounds_toArray, List.set_cons_zero, List.set_cons_succ]
  refine wpAnyH_take (i := 10) (v := undef) rfl (by kernel_rfl) (by kernel_rfl) (by kernel_rfl) (fun _ _ _ h => h) (Or.inr ⟨by rfl, rfl⟩) (by assumption) ?_
  simp only [Act.put, List.getElem_toArray, List.getElem_cons_zero, List.getElem_cons_succ, List.setIfInBounds_toArray, List.set_cons_zero, List.set_cons_succ]
  refine wpAnyH_take (i := 11) (v := ?_) rfl (by kernel_rfl) (by kernel_rfl) (by kernel_rfl) (fun _ _ _ h => h) (Or.inl ⟨by rfl, ?_⟩) (by assumption) ?_
  rotate_left
  · (intro w hSw; (try dsimp only at hSw); go_simp; first | done | with_reducible rfl)
  simp only [Act.put, List.getElem_toArray, List.getElem_cons_zero, List.getElem_cons_succ, List.setIfInBounds_toArray, List.set_cons_zero, List.set_cons_succ]
  refine wpAnyH_done (by kernel_rfl) ?_ _
  go_wp2_with fail
  go_ret
  exact ⟨rfl, below_drewN (Below.refl _ _) 1⟩

set_option maxHeartbeats 800000 in
theorem rload_full (h : Ref w b F c K) {key : ByteArray} (hh : has K key = false) (hl : len K = c) :
    Calls Try.prog 48 #[.pointer (some ⟨b, 0, none⟩), .string key] w fun e w' => e = .returned (.bool false) ∧ Below w.heap.size w w' := by
  have L := Lib.hid (ref_has (h.drewN 1) key)
  have LN := Lib.hid (ref_len (h.drewN 1))
  rw [hh] at L
  rw [hl] at LN
  have c3 : w.cell? ⟨b, 3, none⟩ = some (.int .i64 (c : Int)) := by obtain ⟨v, Fs, hm, -⟩ := h; exact hm.cells.2.2.2
  clear h hh hl
  go_enter Try.func48, Try.ntmps48
  go_wp2_with fail
  refine wp_region_held_drew (S := fun w' => w'.cell? ⟨b, 3, none⟩ = some (.int .i64 (c : Int))) (by kernel_rfl) ?_ (fun hHeld => ?_)
  · exact c3
  refine wpAnyH_take (i := 0) (v := ?_) rfl (by kernel_rfl) (by kernel_rfl) (by kernel_rfl) (fun _ _ _ h => h) (Or.inl ⟨by rfl, ?_⟩) (by assumption) ?_
  rotate_left
  · (intro w hSw; (try dsimp only at hSw); go_simp; first | done | with_reducible rfl)
  simp only [Act.put, List.getElem_toArray, List.getElem_cons_zero, List.setIfInBounds_toArray, List.set_cons_zero, List.set_cons_succ]
  refine wpAnyH_take (i := 1) (v := ?_) rfl (by kernel_rfl) (by kernel_rfl) (by kernel_rfl) (fun _ _ _ h => h) (Or.inl ⟨by rfl, ?_⟩) (by assumption) ?_
  rotate_left
  · (intro w hSw; (try dsimp only at hSw); go_simp; first | done | with_reducible rfl)
  simp only [Act.put, List.getElem_toArray, List.getElem_cons_zero, List.getElem_cons_succ, List.setIfInBounds_toArray, List.set_cons_zero, List.set_cons_succ]
  refine wpAnyH_ready (rs := [2]) (by kernel_rfl) (by simp) ?_
  refine AllReadyH.cons rfl (fun K hK => ?_) ?_
  rotate_left
  · exact AllReadyH.nil
  go_simp
  refine L.out.mono ?_; rintro e w1 ⟨rfl, rfl⟩; go_simp
  refine hK.out _ _ ?_ (fun hHeld => ?_)
  · exact c3
  clear hK K
  try simp only [Act.put, List.getElem_toArray, List.getElem_cons_zero, List.getElem_cons_succ, List.setIfInBounds_toArray, List.set_cons_zero, List.set_cons_succ]
  refine wpAnyH_take (i := 3) (v := ?_) rfl (by kernel_rfl) (by kernel_rfl) (by kernel_rfl) (fun _ _ _ h => h) (Or.inl ⟨by rfl, ?_⟩) (by assumption) ?_
  rotate_left
  · (intro w hSw; (try dsimp only at hSw); go_simp; first | done | with_reducible rfl)
  simp only [Act.put, List.getElem_toArray, List.getElem_cons_zero, List.getElem_cons_succ, List.setIfInBounds_toArray, List.set_cons_zero, List.set_cons_succ]
  refine wpAnyH_take (i := 4) (v := ?_) rfl (by kernel_rfl) (by kernel_rfl) (by kernel_rfl) (fun _ _ _ h => h) (Or.inl ⟨by rfl, ?_⟩) (by assumption) ?_
  rotate_left
  · (intro w hSw; (try dsimp only at hSw); go_simp; first | done | with_reducible rfl)
  simp only [Act.put, List.getElem_toArray, List.getElem_cons_zero, List.getElem_cons_succ, List.setIfInBounds_toArray, List.set_cons_zero, List.set_cons_succ]
  refine wpAnyH_take (i := 6) (v := ?_) rfl (by kernel_rfl) (by kernel_rfl) (by kernel_rfl) (fun _ _ _ h => h) (Or.inl ⟨by rfl, ?_⟩) (by assumption) ?_
  rotate_left
  · (intro w hSw; (try dsimp only at hSw); go_simp; first | done | with_reducible rfl)
  simp only [Act.put, List.getElem_toArray, List.getElem_cons_zero, List.getElem_cons_succ, List.setIfInBounds_toArray, List.set_cons_zero, List.set_cons_succ]
  refine wpAnyH_take (i := 7) (v := ?_) rfl (by kernel_rfl) (by kernel_rfl) (by kernel_rfl) (fun _ _ _ h => h) (Or.inl ⟨by rfl, ?_⟩) (by assumption) ?_
  rotate_left
  · (intro w hSw; (try dsimp only at hSw); go_simp; first | done | with_reducible rfl)
  simp only [Act.put, List.getElem_toArray, List.getElem_cons_zero, List.getElem_cons_succ, List.setIfInBounds_toArray, List.set_cons_zero, List.set_cons_succ]
  refine wpAnyH_take (i := 8) (v := ?_) rfl (by kernel_rfl) (by kernel_rfl) (by kernel_rfl) (fun _ _ _ h => h) (Or.inl ⟨by rfl, ?_⟩) (by assumption) ?_
  rotate_left
  · (intro w hSw; (try dsimp only at hSw); go_simp; first | done | with_reducible rfl)
  simp only [Act.put, List.getElem_toArray, List.getElem_cons_zero, List.getElem_cons_succ, List.setIfInBounds_toArray, List.set_cons_zero, List.set_cons_succ]
  refine wpAnyH_take (i := 9) (v := ?_) rfl (by kernel_rfl) (by kernel_rfl) (by kernel_rfl) (fun _ _ _ h => h) (Or.inl ⟨by rfl, ?_⟩) (by assumption) ?_
  rotate_left
  · (intro w hSw; (try dsimp only at hSw); go_simp; first | done | with_reducible rfl)
  simp only [Act.put, List.getElem_toArray, List.getElem_cons_zero, List.getElem_cons_succ, List.setIfInBounds_toArray, List.set_cons_zero, List.set_cons_succ]
  refine wpAnyH_ready (rs := [5]) (by kernel_rfl) (by simp) ?_
  refine AllReadyH.cons rfl (fun K hK => ?_) ?_
  rotate_left
  · exact AllReadyH.nil
  go_simp
  refine LN.out.mono ?_; rintro e w2 ⟨rfl, hb2⟩; have p2 := cell_below (w := w.drew) hb2 c3; have HB2 := Lib.hid (below_on (w := w) (w1 := w) (Below.refl _ _) hb2); clear hb2; go_simp
  refine hK.out _ _ ?_ (fun hHeld => ?_)
  · exact p2
  clear hK K
  try simp only [Act.put, List.getElem_toArray, List.getElem_cons_zero, List.getElem_cons_succ, List.setIfInBounds_toArray, List.set_cons_zero, List.set_cons_succ]
  refine wpAnyH_take (i := 10) (v := ?_) rfl (by kernel_rfl) (by kernel_rfl) (by kernel_rfl) (fun _ _ _ h => h) (Or.inl ⟨by rfl, ?_⟩) (by assumption) ?_
  rotate_left
  · (intro w hSw; (try dsimp only at hSw); go_simp; first | done | with_reducible rfl)
  simp only [Act.put, List.getElem_toArray, List.getElem_cons_zero, List.getElem_cons_succ, List.setIfInBounds_toArray, List.set_cons_zero, List.set_cons_succ]
  refine wpAnyH_take (i := 11) (v := ?_) rfl (by kernel_rfl) (by kernel_rfl) (by kernel_rfl) (fun _ _ _ h => h) (Or.inl ⟨by rfl, ?_⟩) (by assumption) ?_
  rotate_left
  · (intro w hSw; (try dsimp only at hSw); go_simp; first | done | with_reducible rfl)
  simp only [Act.put, List.getElem_toArray, List.getElem_cons_zero, List.getElem_cons_succ, List.setIfInBounds_toArray, List.set_cons_zero, List.set_cons_succ]
  refine wpAnyH_done (by kernel_rfl) ?_ _
  go_wp2_with fail
  go_ret
  exact ⟨rfl, HB2.out⟩

/-- Both rows behind Load. -/
theorem upd_load {key : ByteArray} (h0 : key ∉ K 0) (h2 : key ∉ K 2) : ∀ q, q < 3 → upd (upd K 1 (without (K 1) key)) 2 (upd K 1 (without (K 1) key) 2 ++ [key]) q = push K 2 key q := by
  intro q hq
  match q, hq with
  | 0, _ => rw [upd_other _ _ (by omega), upd_other _ _ (by omega), push_ne _ _ (by omega), less_same h0]
  | 1, _ => rw [upd_other _ _ (by omega), upd_same, push_ne _ _ (by omega)]; rfl
  | 2, _ => rw [upd_same, upd_other _ _ (by omega), push_at, less_same h2]

set_option maxHeartbeats 1600000 in
theorem rload_new (h : Ref w b F c K) {key : ByteArray} (hk : key.size ≤ 40) (hh : has K key = false) (hl : len K ≠ c) :
    Calls Try.prog 48 #[.pointer (some ⟨b, 0, none⟩), .string key] w (Did (.bool true) b F c (push K 2 key) w) := by
  have L := Lib.hid (ref_has (h.drewN 1) key)
  have LN := Lib.hid (ref_len (h.drewN 1))
  rw [hh] at L
  have hno : key ∉ res K := fun e => by rw [← has_iff, hh] at e; cases e
  rw [mem_res] at hno
  have hi : Inv c (push K 2 key) := (come h.inv (.inr rfl) hk (fun e => by rw [← has_iff, hh] at e; cases e) (by have := h.inv.room; omega)).1
  have HU := Lib.hid (upd_load (fun a => hno (.inl a)) (fun a => hno (.inr a)))
  have HI0 := Lib.hid h.inv
  have hrm := h.inv.room
  have HI := Lib.hid hi
  obtain ⟨v, Fs, hm, -⟩ := h
  have c3 := hm.cells.2.2.2
  have HM := Lib.hid hm
  clear hm hh hi hno
  generalize len K = n at *
  have dN : decide (c ≤ n) = false := by simp; omega
  go_enter Try.func48, Try.ntmps48
  go_wp2_with fail
  refine wp_region_held_drew (S := fun w' => w'.cell? ⟨b, 3, none⟩ = some (.int .i64 (c : Int))) (by kernel_rfl) ?_ (fun hHeld => ?_)
  · exact c3
  refine wpAnyH_take (i := 0) (v := ?_) rfl (by kernel_rfl) (by kernel_rfl) (by kernel_rfl) (fun _ _ _ h => h) (Or.inl ⟨by rfl, ?_⟩) (by assumption) ?_
  rotate_left
  · (intro w hSw; (try dsimp only at hSw); go_simp; first | done | with_reducible rfl)
  simp only [Act.put, List.getElem_toArray, List.getElem_cons_zero, List.setIfInBounds_toArray, List.set_cons_zero, List.set_cons_succ]
  refine wpAnyH_take (i := 1) (v := ?_) rfl (by kernel_rfl) (by kernel_rfl) (by kernel_rfl) (fun _ _ _ h => h) (Or.inl ⟨by rfl, ?_⟩) (by assumption) ?_
  rotate_left
  · (intro w hSw; (try dsimp only at hSw); go_simp; first | done | with_reducible rfl)
  simp only [Act.put, List.getElem_toArray, List.getElem_cons_zero, List.getElem_cons_succ, List.setIfInBounds_toArray, List.set_cons_zero, List.set_cons_succ]
  refine wpAnyH_ready (rs := [2]) (by kernel_rfl) (by simp) ?_
  refine AllReadyH.cons rfl (fun K hK => ?_) ?_
  rotate_left
  · exact AllReadyH.nil
  go_simp
  refine L.out.mono ?_; rintro e w1 ⟨rfl, rfl⟩; go_simp
  refine hK.out _ _ ?_ (fun hHeld => ?_)
  · exact c3
  clear hK K
  try simp only [Act.put, List.getElem_toArray, List.getElem_cons_zero, List.getElem_cons_succ, List.setIfInBounds_toArray, List.set_cons_zero, List.set_cons_succ]
  refine wpAnyH_take (i := 3) (v := ?_) rfl (by kernel_rfl) (by kernel_rfl) (by kernel_rfl) (fun _ _ _ h => h) (Or.inl ⟨by rfl, ?_⟩) (by assumption) ?_
  rotate_left
  · (intro w hSw; (try dsimp only at hSw); go_simp; first | done | with_reducible rfl)
  simp only [Act.put, List.getElem_toArray, List.getElem_cons_zero, List.getElem_cons_succ, List.setIfInBounds_toArray, List.set_cons_zero, List.set_cons_succ]
  refine wpAnyH_take (i := 4) (v := ?_) rfl (by kernel_rfl) (by kernel_rfl) (by kernel_rfl) (fun _ _ _ h => h) (Or.inl ⟨by rfl, ?_⟩) (by assumption) ?_
  rotate_left
  · (intro w hSw; (try dsimp only at hSw); go_simp; first | done | with_reducible rfl)
  simp only [Act.put, List.getElem_toArray, List.getElem_cons_zero, List.getElem_cons_succ, List.setIfInBounds_toArray, List.set_cons_zero, List.set_cons_succ]
  refine wpAnyH_take (i := 6) (v := ?_) rfl (by kernel_rfl) (by kernel_rfl) (by kernel_rfl) (fun _ _ _ h => h) (Or.inl ⟨by rfl, ?_⟩) (by assumption) ?_
  rotate_left
  · (intro w hSw; (try dsimp only at hSw); go_simp; first | done | with_reducible rfl)
  simp only [Act.put, List.getElem_toArray, List.getElem_cons_zero, List.getElem_cons_succ, List.setIfInBounds_toArray, List.set_cons_zero, List.set_cons_succ]
  refine wpAnyH_take (i := 7) (v := ?_) rfl (by kernel_rfl) (by kernel_rfl) (by kernel_rfl) (fun _ _ _ h => h) (Or.inl ⟨by rfl, ?_⟩) (by assumption) ?_
  rotate_left
  · (intro w hSw; (try dsimp only at hSw); go_simp; first | done | with_reducible rfl)
  simp only [Act.put, List.getElem_toArray, List.getElem_cons_zero, List.getElem_cons_succ, List.setIfInBounds_toArray, List.set_cons_zero, List.set_cons_succ]
  refine wpAnyH_take (i := 8) (v := ?_) rfl (by kernel_rfl) (by kernel_rfl) (by kernel_rfl) (fun _ _ _ h => h) (Or.inl ⟨by rfl, ?_⟩) (by assumption) ?_
  rotate_left
  · (intro w hSw; (try dsimp only at hSw); go_simp; first | done | with_reducible rfl)
  simp only [Act.put, List.getElem_toArray, List.getElem_cons_zero, List.getElem_cons_succ, List.setIfInBounds_toArray, List.set_cons_zero, List.set_cons_succ]
  refine wpAnyH_take (i := 9) (v := ?_) rfl (by kernel_rfl) (by kernel_rfl) (by kernel_rfl) (fun _ _ _ h => h) (Or.inl ⟨by rfl, ?_⟩) (by assumption) ?_
  rotate_left
  · (intro w hSw; (try dsimp only at hSw); go_simp; first | done | with_reducible rfl)
  simp only [Act.put, List.getElem_toArray, List.getElem_cons_zero, List.getElem_cons_succ, List.setIfInBounds_toArray, List.set_cons_zero, List.set_cons_succ]
  refine wpAnyH_ready (rs := [5]) (by kernel_rfl) (by simp) ?_
  refine AllReadyH.cons rfl (fun K hK => ?_) ?_
  rotate_left
  · exact AllReadyH.nil
  go_simp
  refine LN.out.mono ?_; rintro e w2 ⟨rfl, hb2⟩; have p2 := cell_below (w := w.drew) hb2 c3; have HB2 := Lib.hid (below_on (w := w) (w1 := w) (Below.refl _ _) hb2); clear hb2; go_simp
  refine hK.out _ _ ?_ (fun hHeld => ?_)
  · exact p2
  clear hK K
  try simp only [Act.put, List.getElem_toArray, List.getElem_cons_zero, List.getElem_cons_succ, List.setIfInBounds_toArray, List.set_cons_zero, List.set_cons_succ]
  refine wpAnyH_take (i := 10) (v := ?_) rfl (by kernel_rfl) (by kernel_rfl) (by kernel_rfl) (fun _ _ _ h => h) (Or.inl ⟨by rfl, ?_⟩) (by assumption) ?_
  rotate_left
  · (intro w hSw; (try dsimp only at hSw); go_simp; first | done | with_reducible rfl)
  simp only [Act.put, List.getElem_toArray, List.getElem_cons_zero, List.getElem_cons_succ, List.setIfInBounds_toArray, List.set_cons_zero, List.set_cons_succ]
  refine wpAnyH_take (i := 11) (v := ?_) rfl (by kernel_rfl) (by kernel_rfl) (by kernel_rfl) (fun _ _ _ h => h) (Or.inl ⟨by rfl, ?_⟩) (by assumption) ?_
  rotate_left
  · (intro w hSw; (try dsimp only at hSw); go_simp; first | done | with_reducible rfl)
  simp only [Act.put, List.getElem_toArray, List.getElem_cons_zero, List.getElem_cons_succ, List.setIfInBounds_toArray, List.set_cons_zero, List.set_cons_succ]
  refine wpAnyH_done (by kernel_rfl) ?_ _
  have HM2 := Lib.hid (HM.out.below HB2.out)
  obtain ⟨A, p, hs⟩ := HM2.out.rs
  have c1 := hs.c1
  have CUT := Lib.hid (rcut HI0.out hs (r := 1) (by omega) key)
  clear hs
  go_wp2_with fail
  refine CUT.out.mono ?_
  rintro e w3 ⟨v', rfl, ho, hb3, -⟩
  obtain ⟨A', c', rfl⟩ := own_form' ho
  have HM3 := Lib.hid (HM2.out.below hb3)
  have HM4 := Lib.hid (HM2.out.cutted (by omega) hb3 ho)
  obtain ⟨A, p, hs⟩ := HM3.out.rs
  have d1 := hs.c1
  have d2 := hs.c2
  have df := HM3.out.wr
  have sl := HM4.out.sl 2 (by omega)
  rw [upd_other _ _ (by omega), hs.v_ 2 (by omega)] at sl
  have SL := Lib.hid sl
  have LT := Lib.hid (HM4.out.lt 2 (by omega))
  have LN2 : Hid ((upd K 1 (without (K 1) key) 2).length ≤ 1000000) := Lib.hid (by rw [upd_other _ _ (by omega)]; have := lens HI0.out 2 (by omega); omega)
  clear ho hb3 hs sl
  generalize A 1 = A1 at *
  generalize A 2 = A2 at *
  generalize p 1 = p1 at *
  generalize p 2 = q2 at *
  generalize (K 1).length = n1 at *
  generalize (K 2).length = n2 at *
  go_wp2_with (at_builtin; refine wpList_push rfl _ _ rfl SL.out LN2.out LT.out key 1 w3.heap.size (by simp) rfl rfl ?_; intro v' w5 hp; obtain ⟨A'', c'', hv, -⟩ := hp.sl.form; subst hv; have HP := Lib.hid hp; have HB5 := Lib.hid (hp.upd.get HM4.out.blk (HM4.out.nb 2 (by omega))); have q1 := cell_of HB5.out 2; have qf := free_of HB5.out; clear hp)
  go_ret
  have hz := ((HM4.out.pushed (by omega) HP.out).same HU.out).done HI.out
  rw [List.length_append, List.length_singleton] at hz
  exact ⟨rfl, _, hz⟩

theorem ref_load (h : Ref w b F c K) {key : ByteArray} (hk : key.size ≤ 40) :
    Calls Try.prog 48 #[.pointer (some ⟨b, 0, none⟩), .string key] w (Did (.bool (Eg.load c K key).1) b F c (Eg.load c K key).2 w) := by
  unfold Eg.load
  cases hh : has K key with
  | true =>
    rw [if_pos (.inl rfl)]
    exact (rload_has h hh).mono fun _ _ ⟨h1, h2⟩ => Did.of_below h h1 h2
  | false =>
    by_cases hl : len K = c
    · rw [if_pos (.inr hl)]
      exact (rload_full h hh hl).mono fun _ _ ⟨h1, h2⟩ => Did.of_below h h1 h2
    · rw [if_neg (by rintro (e | e); cases e; exact hl e)]
      exact rload_new h hk hh hl

theorem upd_remove (h : Sep K) {key : ByteArray} (hk : key ∈ K 0 ∨ key ∈ K 2) : ∀ q, q < 3 → upd (upd K 0 (without (K 0) key)) 2 (without (K 2) key) q = less K key q := by
  intro q hq
  match q, hq with
  | 0, _ => rw [upd_other _ _ (by omega), upd_same]; rfl
  | 1, _ =>
    rw [upd_other _ _ (by omega), upd_other _ _ (by omega)]
    rcases hk with hk | hk
    · exact (h.apart (r := 0) (by omega) hk (by omega) (by omega)).symm
    · exact (h.apart (r := 2) (by omega) hk (by omega) (by omega)).symm
  | 2, _ => rw [upd_same]; rfl

set_option maxHeartbeats 1600000 in
theorem rremove_yes (h : Ref w b F c K) {key : ByteArray} (hh : has K key = true) :
    Calls Try.prog 49 #[.pointer (some ⟨b, 0, none⟩), .string key] w (Did (.bool true) b F c (less K key) w) := by
  have L := Lib.hid (ref_has h key)
  rw [hh] at L
  have HI := Lib.hid (h.inv.less key)
  have HU := Lib.hid (upd_remove h.inv.sep (key := key) (by simpa [has] using hh))
  have CUT := Lib.hid (fun (r : Nat) (hr : r < 3) (w1 : World) (A : Nat → Option Addr) (p : Nat → Nat) v Fs (hs : RS w1 b c v Fs K A p) => rcut h.inv hs hr key)
  obtain ⟨v, Fs, hm, -⟩ := h
  obtain ⟨A, p, hs⟩ := hm.rs
  have c0 := hs.c0
  have c2 := hs.c2
  have HM := Lib.hid hm
  have C0 := Lib.hid (CUT.out 0 (by omega) w.drew A p v Fs ⟨hs.v_, hs.p_, hs.c0, hs.c1, hs.c2, hs.c3, hs.sl⟩)
  have C2 : Hid (∀ w1, Below w.heap.size w w1 → Calls Try.prog 66 #[.slice (A 2) (K 2).length (p 2), .string key] w1 (CutPost (K 2) key w1)) := Lib.hid (fun w1 hb =>
    CUT.out 2 (by omega) w1 A p v Fs ⟨hs.v_, hs.p_, cell_below hb hs.c0, cell_below hb hs.c1, cell_below hb hs.c2, cell_below hb hs.c3, fun r hr => (hs.sl r hr).below hb⟩)
  clear hm hs hh CUT
  generalize A 0 = A0 at *
  generalize A 2 = A2 at *
  generalize p 0 = p0 at *
  generalize p 2 = p2 at *
  go_enter Try.func49, Try.ntmps49
  go_wp2_with fail
  refine L.out.mono ?_
  rintro e w1 ⟨rfl, rfl⟩
  go_wp2_with fail
  go_region_with (first | (go_at_call 66; refine (C2.out w3 HB3.out).mono ?_; rintro e w4 ⟨v', rfl, ho, hb4, -⟩; obtain ⟨A'', c'', rfl⟩ := own_form' ho; have HO4 := Lib.hid ho; have HB4 := Lib.hid hb4; have HX4 := Lib.hid (((below_next HB3.out hb4).block b (lt_of_block HM.out.blk)).trans HM.out.blk); have e0 := cell_of HX4.out 0; have e2 := cell_of HX4.out 2; have ef := free_of HX4.out; clear ho hb4) | (go_at_call 66; refine C0.out.mono ?_; rintro e w3 ⟨v', rfl, ho, hb3, -⟩; obtain ⟨A', c', rfl⟩ := own_form' ho; have HO3 := Lib.hid ho; have d2 := cell_below (w := w.drew) hb3 c2; have HB3 := Lib.hid (below_on (w := w) (w1 := w) (Below.refl _ _) hb3); clear ho hb3))
  all_goals
    go_wp2_with fail
    go_ret
    exact ⟨rfl, _, ((HM.out.cut2 HB3.out HO3.out HB4.out HO4.out).same HU.out).done HI.out⟩

theorem ref_remove (h : Ref w b F c K) {key : ByteArray} :
    Calls Try.prog 49 #[.pointer (some ⟨b, 0, none⟩), .string key] w (Did (.bool (remove K key).1) b F c (remove K key).2 w) := by
  unfold remove
  cases hh : has K key with
  | false =>
    rw [if_neg (by simp)]
    have L := Lib.hid (ref_has h key)
    rw [hh] at L
    have HE := Lib.hid h
    clear h hh
    go_enter Try.func49, Try.ntmps49
    go_wp2_with fail
    refine L.out.mono ?_
    rintro e w1 ⟨rfl, rfl⟩
    go_wp2_with fail
    go_ret
    exact Did.of_below HE.out rfl (Below.refl _ _)
  | true =>
    rw [if_pos rfl]
    exact rremove_yes h hh

def RNewPost (room : Int) (w : World) (e : Ending) (w' : World) : Prop :=
  ∃ b F, e = .returned (.pointer (some ⟨b, 0, none⟩)) ∧ Ref w' b F (cof room) init ∧ Below w.heap.size w w' ∧ ∀ k, F k → w.heap.size ≤ k

theorem rnew_end {c : Nat} {z : Int} {w : World} (hc : 1 ≤ c ∧ c ≤ 1024) (hz : z = (c : Int)) :
    Ref (w.alloc (.cells #[.slice none 0 0, .slice none 0 0, .slice none 0 0, .int .i64 z] 63)) w.heap.size (fun k => w.heap.size ≤ k ∧ k < w.heap.size + 1) c init ∧
      Below w.heap.size w (w.alloc (.cells #[.slice none 0 0, .slice none 0 0, .slice none 0 0, .int .i64 z] 63)) := by
  subst hz
  refine ⟨⟨fun _ => .slice none 0 0, fun _ _ => False, ⟨heap_alloc_new w _, fun r hr => Sl.nil _ _, fun _ _ _ _ _ _ h => h.elim, fun _ _ => id, fun _ _ _ h => h.elim, ⟨Nat.le_refl _, by omega⟩, fun k hk => by have := hk.2; simpa using this, Upd.refl _ _, fun _ _ _ h => h.elim⟩, inv_init hc.1 hc.2⟩, (Below.refl _ _).alloc (Nat.le_refl _) _⟩

theorem ref_new (room : Int) (w : World) : Calls Try.prog 26 #[.int .i64 room] w (RNewPost room w) := by
  have HC : Hid (1 ≤ cof room ∧ cof room ≤ 1024) := Lib.hid ⟨cof_1 room, cof_2 room⟩
  go_enter Try.func26, Try.ntmps26
  go_wp2_with fail
  trace_state
  all_goals
    go_ret
    exact ⟨w.heap.size, fun k => w.heap.size ≤ k ∧ k < w.heap.size + 1, rfl, (rnew_end HC.out (by unfold cof; omega)).1, (rnew_end HC.out (by unfold cof; omega)).2, fun k hk => hk.1⟩
end

end Go.Proofs.Ytjpoeblhibgjbaa.Rf
