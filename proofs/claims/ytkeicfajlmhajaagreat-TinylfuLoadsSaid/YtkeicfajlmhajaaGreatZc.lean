/- TinyLFU's reference in memory: Remove. -/
import Derived.Test.YtkeicfajlmhajaaGreatZa
import Derived.Test.YtkeicfajlmhajaaGreatQu
namespace Go.Proofs.YtkeicfajlmhajaaGreat.Rf
open Go Go.RowKit Go.Proofs.YtkeicfajlmhajaaGreat.K Go.Proofs.YtkeicfajlmhajaaGreat.Sl Go.Proofs.YtkeicfajlmhajaaGreat.Eg
open Go.Proofs.YtkeicfajlmhajaaGreat.Li (more more_lt own_form' infoS)
open Go.Proofs.YtkeicfajlmhajaaGreat.Rw (upd upd_same upd_other less less_same cell_below cell_upd own_mono own_below)

section
variable {w0 w w' : World} {b c : Nat} {F : Nat → Prop} {v : Nat → Value} {Fs : Nat → Nat → Prop} {K : Rs} {kb db : Nat} {H : Nat → Prop} {N : Nt}

theorem remove_end {w5 w6 w7 : World} {y : ByteArray} {v5 v6 v7 : Value} {n5 n6 n7 : Nat} (h : RM w0 b c F v Fs K kb db H N w)
    (ho5 : w5.ownsRow w.heap.size 9 1 v5 n5 ((without (K 0) y).map .string)) (hb5 : Below w.heap.size w w5)
    (ho6 : w6.ownsRow w5.heap.size 9 1 v6 n6 ((without (K 1) y).map .string)) (hb6 : Below w5.heap.size w5 w6)
    (ho7 : w7.ownsRow w6.heap.size 9 1 v7 n7 ((without (K 2) y).map .string)) (hb7 : Below w6.heap.size w6 w7) :
    ∃ v' Fs', RM w0 b c F v' Fs' (less K y) kb db H N (((w7.setCell ⟨b, 0, none⟩ v5).setCell ⟨b, 1, none⟩ v6).setCell ⟨b, 2, none⟩ v7) := by
  have h7 := ((h.below hb5).below hb6).below hb7
  have hbl := lt_of_block h.blk
  have s0 := h.upd.size
  have s5 := hb5.size
  have s6 := hb6.size
  have s7 := hb7.size
  have o5 := own_below (own_below ho5 hb6) hb7
  have o6 := own_below ho6 hb7
  have l5 : ∀ k, v5.ownBlock = some k → w.heap.size ≤ k ∧ k < w5.heap.size := fun k hk => ho5.lt k hk
  have l6 : ∀ k, v6.ownBlock = some k → w5.heap.size ≤ k ∧ k < w6.heap.size := fun k hk => ho6.lt k hk
  have l7 : ∀ k, v7.ownBlock = some k → w6.heap.size ≤ k ∧ k < w7.heap.size := fun k hk => ho7.lt k hk
  have p0 := h7.put (r := 0) (by omega) (Sl.of_own (F := fun j => v5.ownBlock = some j) o5 (fun _ h => h)) (fun k hk => by have := l5 k hk; omega)
    (fun q hq _ k hk hf => by have := h.lt q hq k hf; have := l5 k hk; omega) (fun hk => by have := l5 b hk; omega) (fun k hk hh => by have := h.hlt k hh; have := l5 k hk; omega)
  have hu0 : Upd (· = b) w7 (w7.setCell ⟨b, 0, none⟩ v5) := (Upd.refl _ _).setB
  have z0 : (w7.setCell ⟨b, 0, none⟩ v5).heap.size = w7.heap.size := by simp [World.setCell]
  have t6 := (Sl.of_own (F := fun j => v6.ownBlock = some j) o6 (fun _ h => h)).upd hu0 (fun k hk e => by have := (l6 k hk).1; have e' : k = b := e; omega)
  have p1 := p0.put (r := 1) (by omega) t6 (fun k hk => by rw [z0]; have := l6 k hk; omega)
    (fun q hq hne k hk hf => by
      have l := l6 k hk
      by_cases e : q = 0
      · subst e; rw [upd_same] at hf; have := l5 k hf; omega
      · rw [upd_other _ _ e] at hf; have := h.lt q hq k hf; omega)
    (fun hk => by have := (l6 b hk).1; omega) (fun k hk hh => by have := h.hlt k hh; have := (l6 k hk).1; omega)
  have hu1 : Upd (· = b) (w7.setCell ⟨b, 0, none⟩ v5) ((w7.setCell ⟨b, 0, none⟩ v5).setCell ⟨b, 1, none⟩ v6) := (Upd.refl _ _).setB
  have z1 : ((w7.setCell ⟨b, 0, none⟩ v5).setCell ⟨b, 1, none⟩ v6).heap.size = w7.heap.size := by simp [World.setCell]
  have t7 := ((Sl.of_own (F := fun j => v7.ownBlock = some j) ho7 (fun _ h => h)).upd hu0 (fun k hk e => by have := (l7 k hk).1; have e' : k = b := e; omega)).upd hu1 (fun k hk e => by have := (l7 k hk).1; have e' : k = b := e; omega)
  have p2 := p1.put (r := 2) (by omega) t7 (fun k hk => by rw [z1]; have := l7 k hk; omega)
    (fun q hq hne k hk hf => by
      have l := l7 k hk
      by_cases e : q = 1
      · subst e; rw [upd_same] at hf; have := l6 k hf; omega
      · rw [upd_other _ _ e] at hf
        by_cases e2 : q = 0
        · subst e2; rw [upd_same] at hf; have := l5 k hf; omega
        · rw [upd_other _ _ e2] at hf; have := h.lt q hq k hf; omega)
    (fun hk => by have := (l7 b hk).1; omega) (fun k hk hh => by have := h.hlt k hh; have := (l7 k hk).1; omega)
  refine ⟨_, _, p2.same (fun q hq => ?_)⟩
  have : q = 0 ∨ q = 1 ∨ q = 2 := by omega
  rcases this with rfl | rfl | rfl
  · rw [upd_other _ _ (by omega), upd_other _ _ (by omega), upd_same]; rfl
  · rw [upd_other _ _ (by omega), upd_same]; rfl
  · rw [upd_same]; rfl

set_option maxRecDepth 100000 in
set_option maxHeartbeats 1600000 in
theorem rremove_yes {K : Ks} (h : Ref w b F c K) {key : ByteArray} (hh : has K key = true) :
    Calls Tryz.prog 43 #[.pointer (some ⟨b, 0, none⟩), .string key] w (Did (.bool true) b F c ⟨less K.r key, K.h⟩ w) := by
  have HS := Lib.hid (ref_has h key)
  rw [hh] at HS
  have HI := Lib.hid (h.inv.less key K.h)
  have hl := lens h.inv
  obtain ⟨v, Fs, kb, db, H, hm, -⟩ := h
  have HM := Lib.hid hm
  obtain ⟨A, p, hr⟩ := hm.rs
  have c0 := hr.c0
  have c1 := hr.c1
  have c2 := hr.c2
  have cf := hm.wr
  obtain ⟨q0, hq0⟩ : ∃ q, (without (K.r 0) key).length = q := ⟨_, rfl⟩
  obtain ⟨q1, hq1⟩ : ∃ q, (without (K.r 1) key).length = q := ⟨_, rfl⟩
  obtain ⟨q2, hq2⟩ : ∃ q, (without (K.r 2) key).length = q := ⟨_, rfl⟩
  have K0 := Lib.hid (cut_w hm hl (r := 0) (by omega) (hr.v_ 0 (by omega)) (hr.v_ 1 (by omega)) (hr.v_ 2 (by omega)) key hq0)
  have K1 := Lib.hid (cut_w hm hl (r := 1) (by omega) (hr.v_ 1 (by omega)) (hr.v_ 1 (by omega)) (hr.v_ 2 (by omega)) key hq1)
  have K2 := Lib.hid (cut_w hm hl (r := 2) (by omega) (hr.v_ 2 (by omega)) (hr.v_ 1 (by omega)) (hr.v_ 2 (by omega)) key hq2)
  have CE : Hid (∀ W, Below w.heap.size w W → W.cell? ⟨b, 0, none⟩ = w.cell? ⟨b, 0, none⟩) := Lib.hid (fun W hb => by
    have h6 := hm.below hb
    exact h6.cells.1.trans hm.cells.1.symm)
  rw [c0] at CE
  clear hm hh hl hr hq0 hq1 hq2
  generalize A 0 = A0 at *
  generalize p 0 = p0 at *
  generalize A 1 = A1 at *
  generalize p 1 = p1 at *
  generalize A 2 = A2 at *
  generalize p 2 = p2 at *
  generalize hn0 : (K.r 0).length = n0 at *
  generalize hn1 : (K.r 1).length = n1 at *
  generalize hn2 : (K.r 2).length = n2 at *
  clear hn0 hn1 hn2
  go_enter Tryz.func43, Tryz.ntmps43
  go_wp2_with fail
  refine HS.out.mono ?_
  rintro e w1 ⟨rfl, rfl⟩
  go_wp2_with fail
  go_region_law (first
    | (go_simp; go_at_call 63; refine (K2.out _ HB6.out).mono ?_; rintro e w7 ⟨A7, c7, rfl, HO7, HB7, HS7, ⟨r1, r2, rf⟩, -⟩; have r0 := CE.out _ HB7.out)
    | (go_simp; go_at_call 63; refine (K1.out _ HB5.out).mono ?_; rintro e w6 ⟨A6, c6, rfl, HO6, HB6, HS6, ⟨s1, s2, sf⟩, -⟩; have s0 := CE.out _ HB6.out)
    | (go_simp; go_at_call 63; refine (K0.out _ (by first | exact below_drewN (Below.refl _ _) 1 | exact Below.refl _ _)).mono ?_; rintro e w5 ⟨A5, c5, rfl, HO5, HB5, HS5, ⟨t1, t2, tf⟩, -⟩; have t0 := CE.out _ HB5.out))
  all_goals
    go_wp2_with fail
    go_ret
    obtain ⟨vE, FE, hE⟩ := remove_end HM.out HO5.out HB5.out HO6.out HS6.out HO7.out HS7.out
    exact ⟨rfl, _, RM.done (K := ⟨less K.r key, K.h⟩) hE HI.out⟩

theorem ref_remove {K : Ks} (h : Ref w b F c K) {key : ByteArray} :
    Calls Tryz.prog 43 #[.pointer (some ⟨b, 0, none⟩), .string key] w (Did (.bool (remove K key).1) b F c (remove K key).2 w) := by
  unfold remove
  cases hh : has K key with
  | true => rw [if_pos rfl]; exact rremove_yes h hh
  | false =>
    rw [if_neg (by simp)]
    have HS := Lib.hid (ref_has h key)
    rw [hh] at HS
    have HE := Lib.hid h
    clear h hh
    go_enter Tryz.func43, Tryz.ntmps43
    go_wp2_with fail
    refine HS.out.mono ?_
    rintro e w1 ⟨rfl, rfl⟩
    go_wp2_with fail
    go_ret
    exact ⟨rfl, F, HE.out, Step.refl _ _⟩
end

end Go.Proofs.YtkeicfajlmhajaaGreat.Rf
