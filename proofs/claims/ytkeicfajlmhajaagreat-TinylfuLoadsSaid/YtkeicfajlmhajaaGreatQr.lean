/- TinyLFU's reference in memory: three slices. What only tells; has, Len, Room. -/
import Derived.Test.YtkeicfajlmhajaaGreatQi
import Derived.Test.YtkeicfajlmhajaaGreatSp
import Derived.Test.YtkeicfajlmhajaaGreatKr
import Derived.Test.YtkeicfajlmhajaaGreatDr
import Derived.IntWalk
namespace Go.Proofs.YtkeicfajlmhajaaGreat.Rf
open Go Go.RowKit Go.Proofs.YtkeicfajlmhajaaGreat.K Go.Proofs.YtkeicfajlmhajaaGreat.Sl Go.Proofs.YtkeicfajlmhajaaGreat.Eg
open Go.Proofs.YtkeicfajlmhajaaGreat.Li (more more_lt own_form')
open Go.Proofs.YtkeicfajlmhajaaGreat.Rw (upd upd_same upd_other less less_same cell_below cell_upd)

/-- The reference's sketch and door, and where their cells lie. -/
structure Rts (w : World) (kb kc db dc c : Nat) (H : Nat → Prop) (N : Nt) : Prop where
  sq : Sr.Rf w kb kc (nn c) N.C N.s
  dq : Do.Rd w db dc (mm c) N.B
  n1 : kb ≠ db
  n2 : kc ≠ db
  n3 : kb ≠ dc
  n4 : kc ≠ dc
  h1 : H kb
  h2 : H kc
  h3 : H db
  h4 : H dc
  lt : ∀ k, H k → k < w.heap.size

theorem Rts.upd {w w' : World} {kb kc db dc c : Nat} {H J : Nat → Prop} {N : Nt} (h : Rts w kb kc db dc c H N) (hu : Upd J w w') (hH : ∀ k, H k → ¬ J k) : Rts w' kb kc db dc c H N :=
  ⟨h.sq.upd hu (hH _ h.h1) (hH _ h.h2), h.dq.upd hu (hH _ h.h3) (hH _ h.h4), h.n1, h.n2, h.n3, h.n4, h.h1, h.h2, h.h3, h.h4, fun k hk => Nat.lt_of_lt_of_le (h.lt k hk) hu.size⟩
theorem Rts.below {w w' : World} {kb kc db dc c : Nat} {H : Nat → Prop} {N : Nt} (h : Rts w kb kc db dc c H N) (hb : Below w.heap.size w w') : Rts w' kb kc db dc c H N :=
  h.upd (Upd.of_below (F := fun _ => False) hb (fun i h1 h2 => by omega)) (fun _ _ => id)

/-- The reference in the midst of an act. -/
structure RM (w0 : World) (b c : Nat) (F : Nat → Prop) (v : Nat → Value) (Fs : Nat → Nat → Prop) (K : Rs) (kb db : Nat) (H : Nat → Prop) (N : Nt) (w : World) : Prop where
  blk : w.heap[b]? = some (.cells #[v 0, v 1, v 2, .pointer (some ⟨kb, 0, none⟩), .pointer (some ⟨db, 0, none⟩), .int .i64 (c : Int)] 64 (0, 0))
  sl : ∀ r, r < 3 → Sl w (v r) (Fs r) (K r)
  sep : ∀ r q, r < 3 → q < 3 → r ≠ q → ∀ k, Fs r k → ¬ Fs q k
  nb : ∀ r, r < 3 → ¬ Fs r b
  lt : ∀ r, r < 3 → ∀ k, Fs r k → k < w.heap.size
  fb : F b
  flt : ∀ k, F k → k < w0.heap.size
  upd : Upd F w0 w
  grow : ∀ r, r < 3 → ∀ k, Fs r k → F k ∨ w0.heap.size ≤ k
  note : ∃ kc dc, Rts w kb kc db dc c H N
  nh : ∀ r, r < 3 → ∀ k, Fs r k → ¬ H k
  hb : ¬ H b
  hgrow : ∀ k, H k → F k ∨ w0.heap.size ≤ k

def Ref (w : World) (b : Nat) (F : Nat → Prop) (c : Nat) (K : Ks) : Prop := ∃ v Fs kb db H, RM w b c F v Fs K.r kb db H (nts c K.h) w ∧ Inv c K

theorem RM.hlt {w0 w : World} {b c : Nat} {F : Nat → Prop} {v : Nat → Value} {Fs : Nat → Nat → Prop} {K : Rs} {kb db : Nat} {H : Nat → Prop} {N : Nt} (h : RM w0 b c F v Fs K kb db H N w) : ∀ k, H k → k < w.heap.size := by
  obtain ⟨kc, dc, hn⟩ := h.note; exact hn.lt

section
variable {w0 w w' : World} {b c : Nat} {F : Nat → Prop} {v : Nat → Value} {Fs : Nat → Nat → Prop} {K : Rs} {kb db : Nat} {H : Nat → Prop} {N : Nt}

theorem RM.below (h : RM w0 b c F v Fs K kb db H N w) (hb : Below w.heap.size w w') : RM w0 b c F v Fs K kb db H N w' :=
  ⟨(hb.block b (lt_of_block h.blk)).trans h.blk, fun r hr => (h.sl r hr).below hb, h.sep, h.nb, fun r hr k hk => Nat.lt_of_lt_of_le (h.lt r hr k hk) hb.size, h.fb, h.flt,
   h.upd.trans ((Upd.of_below (F := fun _ => False) hb (fun i h1 h2 => by omega)).mono (fun _ _ h => h.elim)), h.grow, h.note.imp fun kc h => h.imp fun dc h => h.below hb, h.nh, h.hb, h.hgrow⟩
theorem RM.drewN (h : RM w0 b c F v Fs K kb db H N w) (n : Nat) : RM w0 b c F v Fs K kb db H N (w.drewN n) := h.below (below_drewN (Below.refl _ _) n)
theorem RM.self (h : RM w0 b c F v Fs K kb db H N w) (hl : w.heap.size = w0.heap.size) : ∀ r, r < 3 → ∀ k, Fs r k → F k := fun r hr k hk => by
  rcases h.grow r hr k hk with h1 | h1
  · exact h1
  · have := h.lt r hr k hk; omega
/-- One row is another slice. -/
theorem RM.store (h : RM w0 b c F v Fs K kb db H N w) {r : Nat} (hr : r < 3) {v' : Value} {F' : Nat → Prop} {xs : List ByteArray} (hu : Upd (Fs r) w w') (hs : Sl w' v' F' xs) (hF : ∀ k, F' k → Fs r k ∨ w.heap.size ≤ k) (hlt : ∀ k, F' k → k < w'.heap.size) :
    RM w0 b c F (Rw.upd v r v') (Rw.upd Fs r F') (Rw.upd K r xs) kb db H N (w'.setCell ⟨b, r, none⟩ v') := by
  have hb1 := hu.get h.blk (h.nb r hr)
  have hsz : (w'.setCell ⟨b, r, none⟩ v').heap.size = w'.heap.size := by simp [World.setCell]
  have hbl := lt_of_block h.blk
  have hu2 : Upd (· = b) w' (w'.setCell ⟨b, r, none⟩ v') := (Upd.refl _ _).setB
  have hnb : ∀ q, q < 3 → ¬ Rw.upd Fs r F' q b := by
    intro q hq
    by_cases e : q = r
    · subst e
      rw [upd_same]
      intro hf
      rcases hF b hf with h1 | h1
      · exact h.nb q hq h1
      · omega
    · rw [upd_other _ _ e]; exact h.nb q hq
  obtain ⟨kc, dc, hnt⟩ := h.note
  refine ⟨?_, ?_, ?_, hnb, ?_, h.fb, h.flt, ?_, ?_, ⟨kc, dc, (hnt.upd hu (fun k hk hf => h.nh r hr k hf hk)).upd hu2 (fun k hk e => h.hb (by rw [← e]; exact hk))⟩, ?_, h.hb, h.hgrow⟩
  · rw [block_setCell hb1]
    match r, hr with
    | 0, _ => rfl
    | 1, _ => rfl
    | 2, _ => rfl
  · intro q hq
    refine Sl.upd ?_ hu2 (fun k hk e => hnb q hq (by rw [← e]; exact hk))
    by_cases e : q = r
    · subst e; rw [upd_same, upd_same, upd_same]; exact hs
    · rw [upd_other _ _ e, upd_other _ _ e, upd_other _ _ e]
      exact (h.sl q hq).upd hu (fun k hk => h.sep q r hq hr e k hk)
  · intro p q hp hq hne k hk hk'
    by_cases e : p = r
    · subst e
      rw [upd_same] at hk
      rw [upd_other _ _ (Ne.symm hne)] at hk'
      rcases hF k hk with h1 | h1
      · exact h.sep p q hp hq hne k h1 hk'
      · have := h.lt q hq k hk'; omega
    · rw [upd_other _ _ e] at hk
      by_cases e2 : q = r
      · rw [e2, upd_same] at hk'
        rcases hF k hk' with h1 | h1
        · exact h.sep p r hp hr e k hk h1
        · have := h.lt p hp k hk; omega
      · rw [upd_other _ _ e2] at hk'
        exact h.sep p q hp hq hne k hk hk'
  · intro q hq k hk
    rw [hsz]
    by_cases e : q = r
    · subst e; rw [upd_same] at hk; exact hlt k hk
    · rw [upd_other _ _ e] at hk; exact Nat.lt_of_lt_of_le (h.lt q hq k hk) hu.size
  · have h1 : Upd F w0 w' := h.upd.then hu (fun i hi hf => (h.grow r hr i hf).resolve_right (by omega))
    exact h1.setCell (p := ⟨b, r, none⟩) (.inl h.fb) _
  · intro q hq k hk
    by_cases e : q = r
    · subst e
      rw [upd_same] at hk
      rcases hF k hk with h1 | h1
      · exact h.grow q hq k h1
      · exact .inr (Nat.le_trans h.upd.size h1)
    · rw [upd_other _ _ e] at hk; exact h.grow q hq k hk
  · intro q hq k hk hh
    by_cases e : q = r
    · subst e
      rw [upd_same] at hk
      rcases hF k hk with h1 | h1
      · exact h.nh q hq k h1 hh
      · have := hnt.lt k hh; omega
    · rw [upd_other _ _ e] at hk; exact h.nh q hq k hk hh
theorem RM.same {K' : Rs} (h : RM w0 b c F v Fs K kb db H N w) (hK : ∀ r, r < 3 → K r = K' r) : RM w0 b c F v Fs K' kb db H N w :=
  ⟨h.blk, fun r hr => by rw [← hK r hr]; exact h.sl r hr, h.sep, h.nb, h.lt, h.fb, h.flt, h.upd, h.grow, h.note, h.nh, h.hb, h.hgrow⟩
theorem RM.done {K : Ks} (h : RM w0 b c F v Fs K.r kb db H (nts c K.h) w) (hi : Inv c K) : Ref w b (more F w0 w) c K ∧ Step F w0 (more F w0 w) w := by
  refine ⟨⟨v, Fs, kb, db, H, ⟨h.blk, h.sl, h.sep, h.nb, h.lt, .inl h.fb, more_lt h.flt h.upd.size, Upd.refl _ _, ?_, h.note, h.nh, h.hb, ?_⟩, hi⟩, more_eq h.upd⟩
  · intro r hr k hk
    rcases h.grow r hr k hk with h1 | h1
    · exact .inl (.inl h1)
    · exact .inl (.inr ⟨h1, h.lt r hr k hk⟩)
  · intro k hk
    rcases h.hgrow k hk with h1 | h1
    · exact .inl (.inl h1)
    · exact .inl (.inr ⟨h1, h.hlt k hk⟩)

theorem Ref.lt {K : Ks} (h : Ref w b F c K) : ∀ k, F k → k < w.heap.size := by obtain ⟨v, Fs, kb, db, H, h1, _⟩ := h; exact h1.flt
theorem Ref.self {K : Ks} (h : Ref w b F c K) : F b := by obtain ⟨v, Fs, kb, db, H, h1, _⟩ := h; exact h1.fb
theorem Ref.inv {K : Ks} (h : Ref w b F c K) : Inv c K := by obtain ⟨v, Fs, kb, db, H, _, h1⟩ := h; exact h1
theorem Ref.upd {K : Ks} {J : Nat → Prop} (h : Ref w b F c K) (hu : Upd J w w') (hH : ∀ k, F k → ¬ J k) : Ref w' b F c K := by
  obtain ⟨v, Fs, kb, db, H, h1, h2⟩ := h
  have hF := h1.self rfl
  have hHF : ∀ k, H k → F k := fun k hk => (h1.hgrow k hk).resolve_right (by have := h1.hlt k hk; omega)
  obtain ⟨kc, dc, hn⟩ := h1.note
  exact ⟨v, Fs, kb, db, H, ⟨hu.get h1.blk (hH b h1.fb), fun r hr => (h1.sl r hr).upd hu (fun k hk => hH k (hF r hr k hk)), h1.sep, h1.nb, fun r hr k hk => Nat.lt_of_lt_of_le (h1.lt r hr k hk) hu.size, h1.fb, fun k hk => Nat.lt_of_lt_of_le (h1.flt k hk) hu.size, Upd.refl _ _, fun r hr k hk => .inl (hF r hr k hk),
    ⟨kc, dc, hn.upd hu (fun k hk => hH k (hHF k hk))⟩, h1.nh, h1.hb, fun k hk => .inl (hHF k hk)⟩, h2⟩
theorem Ref.below {K : Ks} (h : Ref w b F c K) (hb : Below w.heap.size w w') : Ref w' b F c K :=
  h.upd (Upd.of_below (F := fun _ => False) hb (fun i h1 h2 => by omega)) (fun _ _ => id)
theorem Ref.drewN {K : Ks} (h : Ref w b F c K) (n : Nat) : Ref (w.drewN n) b F c K := h.below (below_drewN (Below.refl _ _) n)

/-- The slices, written out, and the block's cells. -/
structure RS (w : World) (b c : Nat) (v : Nat → Value) (Fs : Nat → Nat → Prop) (K : Rs) (A : Nat → Option Addr) (p : Nat → Nat) : Prop where
  v_ : ∀ r, r < 3 → v r = .slice (A r) (K r).length (p r)
  p_ : ∀ r, r < 3 → (K r).length ≤ p r
  c0 : w.cell? ⟨b, 0, none⟩ = some (.slice (A 0) (K 0).length (p 0))
  c1 : w.cell? ⟨b, 1, none⟩ = some (.slice (A 1) (K 1).length (p 1))
  c2 : w.cell? ⟨b, 2, none⟩ = some (.slice (A 2) (K 2).length (p 2))
  c5 : w.cell? ⟨b, 5, none⟩ = some (.int .i64 (c : Int))
  sl : ∀ r, r < 3 → Sl w (.slice (A r) (K r).length (p r)) (Fs r) (K r)

theorem RM.rs (h : RM w0 b c F v Fs K kb db H N w) : ∃ A p, RS w b c v Fs K A p := by
  have hf : ∀ r, ∃ (A : Option Addr) (p : Nat), r < 3 → v r = .slice A (K r).length p ∧ (K r).length ≤ p := by
    intro r
    by_cases hr : r < 3
    · obtain ⟨A, p, h1, h2⟩ := (h.sl r hr).form
      exact ⟨A, p, fun _ => ⟨h1, h2⟩⟩
    · exact ⟨none, 0, fun h => absurd h hr⟩
  refine ⟨fun r => Classical.choose (hf r), fun r => Classical.choose (Classical.choose_spec (hf r)), ?_⟩
  have hc := fun r => Classical.choose_spec (Classical.choose_spec (hf r))
  refine ⟨fun r hr => (hc r hr).1, fun r hr => (hc r hr).2, ?_, ?_, ?_, ?_, ?_⟩
  · rw [cell_of h.blk, ← (hc 0 (by omega)).1]; rfl
  · rw [cell_of h.blk, ← (hc 1 (by omega)).1]; rfl
  · rw [cell_of h.blk, ← (hc 2 (by omega)).1]; rfl
  · rw [cell_of h.blk]; rfl
  · intro r hr
    rw [← (hc r hr).1]
    exact h.sl r hr

theorem ref_room {K : Ks} (h : Ref w b F c K) : Calls Tryz.prog 33 #[.pointer (some ⟨b, 0, none⟩)] w fun e w' => e = .returned (.int .i64 (c : Int)) ∧ w = w' := by
  obtain ⟨v, Fs, kb, db, H, hm, -⟩ := h
  obtain ⟨A, p, hs⟩ := hm.rs
  have c5 := hs.c5
  clear hm hs
  go_enter Tryz.func33, Tryz.ntmps33
  go_wp2_with fail
  go_ret
  exact ⟨rfl, rfl⟩

theorem ref_len {K : Ks} (h : Ref w b F c K) : Calls Tryz.prog 31 #[.pointer (some ⟨b, 0, none⟩)] w fun e w' => e = .returned (.int .i64 (len K : Int)) ∧ Below w.heap.size w w' := by
  have hl1 := h.inv.len1
  obtain ⟨v, Fs, kb, db, H, hm, -⟩ := h
  obtain ⟨A, p, hs⟩ := hm.rs
  have c0 := hs.c0
  have c1 := hs.c1
  have c2 := hs.c2
  clear hm hs
  have e : ((len K : Nat) : Int) = ((K.r 0).length : Int) + ((K.r 1).length : Int) + ((K.r 2).length : Int) := by unfold len ln; omega
  rw [e]
  clear e
  generalize (K.r 0).length = x at *
  generalize (K.r 1).length = y at *
  generalize (K.r 2).length = z at *
  have hxy : IntKind.i64.wrap ((x : Int) + (y : Int)) = (x : Int) + (y : Int) := IntWalk.i64_in _ (by omega)
  have hxyz : IntKind.i64.wrap ((x : Int) + (y : Int) + (z : Int)) = (x : Int) + (y : Int) + (z : Int) := IntWalk.i64_in _ (by omega)
  clear hl1
  go_enter Tryz.func31, Tryz.ntmps31
  go_wp2_with fail
  go_quiet (fail)
  go_wp2_with fail
  go_ret
  exact ⟨rfl, below_drewN (Below.refl _ _) _⟩

theorem winv {c : Nat} (h : c ≤ 1024) : (if (1 : Int) < IntKind.i64.wrap ((c : Int) / 8) then IntKind.i64.wrap ((c : Int) / 8) else 1) = (win c : Int) := by
  have e : IntKind.i64.wrap ((c : Int) / 8) = (c : Int) / 8 := IntWalk.i64_in _ (by omega)
  rw [e]
  unfold win
  split <;> omega
theorem winv' (c : Nat) : (if (1 : Int) < (c : Int) / 8 then (c : Int) / 8 else 1) = (win c : Int) := by
  unfold win
  split <;> omega

/-- window, main: of any block that has the room in its cell. -/
theorem rwin_any {c : Nat} (hc : c ≤ 1024) {w : World} {b : Nat} (h5 : w.cell? ⟨b, 5, none⟩ = some (.int .i64 (c : Int))) :
    Calls Tryz.prog 65 #[.pointer (some ⟨b, 0, none⟩)] w fun e w' => e = .returned (.int .i64 (win c : Int)) ∧ w = w' := by
  have hq := winv hc
  have hq' := winv' c
  have HW : Hid (∀ x : Int, x = (if (1 : Int) < (c : Int) / 8 then (c : Int) / 8 else 1) → x = (win c : Int)) := Lib.hid (fun x e => by rw [e, hq'])
  by_cases h1 : (1 : Int) < (c : Int) / 8
  · go_enter Tryz.func65, Tryz.ntmps65
    go_wp2_with fail
    go_ret
    refine ⟨ret_int ?_, rfl⟩
    first | exact hq | exact hq' | (unfold win; omega)
  · go_enter Tryz.func65, Tryz.ntmps65
    go_wp2_with fail
    go_ret
    refine ⟨ret_int ?_, rfl⟩
    first | exact hq | exact hq' | (unfold win; omega)
theorem rmain_any {c : Nat} (hc1 : 1 ≤ c) (hc : c ≤ 1024) {w : World} {b : Nat} (h5 : w.cell? ⟨b, 5, none⟩ = some (.int .i64 (c : Int))) :
    Calls Tryz.prog 67 #[.pointer (some ⟨b, 0, none⟩)] w fun e w' => e = .returned (.int .i64 (mainr c : Int)) ∧ ∃ n, w' = w.drewN n := by
  have W : Hid (∀ a, Calls Tryz.prog 65 #[.pointer (some ⟨b, 0, none⟩)] (w.drewN a) fun e w' => e = .returned (.int .i64 (win c : Int)) ∧ ∃ m, w' = (w.drewN a).drewN m) :=
    Lib.hid (fun a => (rwin_any (w := w.drewN a) hc h5).mono fun _ _ ⟨he, hw⟩ => ⟨he, 0, hw.symm⟩)
  have hm : ((c : Int) - (win c : Int)) = (mainr c : Int) := by unfold mainr win; omega
  have hw : IntKind.i64.wrap ((c : Int) - (win c : Int)) = (mainr c : Int) := by rw [hm]; exact IntWalk.i64_in _ (by unfold mainr win; omega)
  have HW := Lib.hid hm
  clear hm
  generalize mainr c = m at *
  generalize win c = x at *
  go_enter Tryz.func67, Tryz.ntmps67
  go_wp2_with fail
  go_quiet ((go_at_call 65; exact Do.quiet_any (W.out _)))
  go_wp2_with fail
  go_ret
  refine ⟨ret_int ?_, _, rfl⟩
  first | rfl | exact hw | exact HW.out
end

end Go.Proofs.YtkeicfajlmhajaaGreat.Rf
