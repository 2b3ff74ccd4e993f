/- The rows of an engine: drop, push, oldest. -/
import Derived.Test.YtkeicfajlmhajaaRa
namespace Go.Proofs.Ytkeicfajlmhajaa.Rw
open Go Go.RowKit Go.Proofs.Ytkeicfajlmhajaa.K
open Go.Proofs.Ytkeicfajlmhajaa.Li (Lst more more_lt hdl)
open Go.Proofs.Ytkeicfajlmhajaa.In (Idx V)

section
variable {R : Nat} {w : World} {s cap bx n : Nat} {l : Nat → Nat} {X : Nat → Row} {Fx : Nat → Prop} {Fr : Nat → Nat → Prop} {M : ByteArray → V → Prop}

theorem cell_upd {F : Nat → Prop} {w w' : World} (h : Upd F w w') {k o : Nat} {x : Value} (hF : ¬ F k) (hc : w.cell? ⟨k, o, none⟩ = some x) : w'.cell? ⟨k, o, none⟩ = some x := by
  have hk : k < w.heap.size := Nat.lt_of_not_le fun hh => by simp [World.cell?, Array.getElem?_eq_none hh] at hc
  rw [← hc]
  exact World.cell?_of_block (h.block k hk hF)

theorem row_upd {F : Nat → Prop} {w w' : World} {xs : List Value} (h : w.ownsRow 0 64 1 (.slice (some ⟨s, 0, none⟩) R cap) R xs) (hu : Upd F w w') (hs : s < w.heap.size) (hF : ¬ F s) :
    w'.ownsRow 0 64 1 (.slice (some ⟨s, 0, none⟩) R cap) R xs := by
  obtain ⟨h1, (⟨h2, -⟩ | ⟨g, c, cur, h2, h3, h4, h5⟩)⟩ := h
  · cases h2
  · cases h2
    exact ⟨h1, .inr ⟨_, _, cur, rfl, h3, (hu.block _ hs hF).trans h4, h5⟩⟩

/-- One row was changed in the worlds behind. -/
theorem Rws.turn {w' : World} {n' r : Nat} {Y : Row} {Fx' G : Nat → Prop} {M' : ByteArray → V → Prop} (h : Rws R w s cap bx n l X Fx Fr M) (hr : r < R)
    (hu : Upd (fun k => Fx k ∨ Fr r k) w w') (hl : Lst w' (l r) G Y) (hi : Idx w' bx Fx' M' n') (hG : ∀ k, G k → Fr r k ∨ w.heap.size ≤ k) (hX' : ∀ k, Fx' k → Fx k ∨ w.heap.size ≤ k) (hd : ∀ k, G k → ¬ Fx' k)
    (hm : ∀ k v, M' k v ↔ v.1 < R ∧ (v.2, k) ∈ upd X r Y v.1) (hn : n' = ((List.range R).map fun q => (upd X r Y q).length).sum) :
    Rws R w' s cap bx n' l (upd X r Y) Fx' (upd Fr r G) M' := by
  have hs := h.slt (by omega)
  have lt : ∀ q, q < R → ∀ k, Fr q k → k < w.heap.size := fun q hq => (h.lst q hq).lt
  refine ⟨row_upd h.row hu hs (by rintro (e | e); exact h.sx e; exact h.sr r hr e), ?_, hi, hm, ?_, ?_, ?_, ?_, hn⟩
  · intro q hq
    by_cases e : q = r
    · subst e; rw [upd_same, upd_same]; exact hl
    · rw [upd_other _ _ e, upd_other _ _ e]
      refine (h.lst q hq).upd hu ?_
      rintro k hk (h1 | h1)
      · exact h.sepx q hq k hk h1
      · exact h.sep q r hq hr e k hk h1
  · intro a c ha hc hac k hk hk'
    by_cases e : a = r
    · subst e
      rw [upd_same] at hk
      rw [upd_other _ _ (Ne.symm hac)] at hk'
      rcases hG k hk with h1 | h1
      · exact h.sep a c ha hc hac k h1 hk'
      · have := lt c hc k hk'; omega
    · rw [upd_other _ _ e] at hk
      by_cases e2 : c = r
      · subst e2
        rw [upd_same] at hk'
        rcases hG k hk' with h1 | h1
        · exact h.sep a c ha hc hac k hk h1
        · have := lt a ha k hk; omega
      · rw [upd_other _ _ e2] at hk'
        exact h.sep a c ha hc hac k hk hk'
  · intro q hq k hk hk'
    by_cases e : q = r
    · subst e; rw [upd_same] at hk; exact hd k hk hk'
    · rw [upd_other _ _ e] at hk
      rcases hX' k hk' with h1 | h1
      · exact h.sepx q hq k hk h1
      · have := lt q hq k hk; omega
  · intro hk
    rcases hX' s hk with h1 | h1
    · exact h.sx h1
    · omega
  · intro q hq hk
    by_cases e : q = r
    · subst e
      rw [upd_same] at hk
      rcases hG s hk with h1 | h1
      · exact h.sr q hq h1
      · omega
    · rw [upd_other _ _ e] at hk; exact h.sr q hq hk

theorem drop_no (h : Rws R w s cap bx n l X Fx Fr M) {key : ByteArray} (hk : key.size ≤ 140737488351232) (hm : ∀ v, ¬ M key v) :
    Calls Try.prog 35 #[rv s R cap bx, .string key] w fun e w' => e = .returned (.tuple #[]) ∧ Below w.heap.size w w' := by
  have hb2 : Below w.heap.size w (w.alloc (.cells #[.slice (some ⟨s, 0, none⟩) R cap, .pointer (some ⟨bx, 0, none⟩)] 42)) := (Below.refl _ _).alloc (Nat.le_refl _) _
  have G := Lib.hid (In.idx_del_no (h.idx.below hb2) hk hm)
  have HB2 := Lib.hid hb2
  clear h hb2 hm
  unfold rv
  go_enter Try.func35, Try.ntmps35
  go_wp2_with fail
  generalize w.alloc (.cells #[.slice (some ⟨s, 0, none⟩) R cap, .pointer (some ⟨bx, 0, none⟩)] 42) = w2 at *
  refine G.out.mono ?_
  rintro e w3 ⟨rfl, hb3⟩
  have HB3 := Lib.hid hb3
  clear hb3 G
  go_wp2_with fail
  go_end0
  have h1 := HB2.out.size
  have h2 := HB3.out.size
  exact ⟨rfl, (HB2.out.trans (HB3.out.mono h1)).alloc (by omega) _⟩

/-- What drop leaves. -/
def DropPost (R s cap bx m : Nat) (l : Nat → Nat) (X : Nat → Row) (Fx : Nat → Prop) (Fr : Nat → Nat → Prop) (M : ByteArray → V → Prop) (key : ByteArray) (r : Nat) (Y : Row) (w : World) (e : Ending) (w' : World) : Prop :=
  e = .returned (.tuple #[]) ∧ (∃ Fr', Rws R w' s cap bx m l (upd X r Y) Fx Fr' (fun k v => k ≠ key ∧ M k v) ∧ ∀ q k, Fr' q k → Fr q k ∨ w.heap.size ≤ k) ∧ Upd (fun k => Fx k ∨ Fr r k) w w'

set_option maxHeartbeats 800000 in
theorem drop_yes {m : Nat} (h : Rws R w s cap bx (m + 1) l X Fx Fr M) {key : ByteArray} {r i : Nat} {p q : Row} (hr : r < R) (hX : X r = p ++ (i, key) :: q) :
    Calls Try.prog 35 #[rv s R cap bx, .string key] w (DropPost R s cap bx m l X Fx Fr M key r (p ++ q) w) := by
  have hmem := drop_mem h hr hX
  have hsum := sum_upd X r (p ++ q) R hr
  have hm : M key (r, i) := (h.mem key (r, i)).2 ⟨hr, by show (i, key) ∈ X r; rw [hX]; simp⟩
  have hb2 : Below w.heap.size w (w.alloc (.cells #[.slice (some ⟨s, 0, none⟩) R cap, .pointer (some ⟨bx, 0, none⟩)] 42)) := (Below.refl _ _).alloc (Nat.le_refl _) _
  have h2 := h.below (by omega) hb2
  have G := Lib.hid (In.idx_del_yes h2.idx hm)
  have HB2 := Lib.hid hb2
  have HV := Lib.hid (block_new w (.cells #[.slice (some ⟨s, 0, none⟩) R cap, .pointer (some ⟨bx, 0, none⟩)] 42))
  have H2 := Lib.hid h2
  have HMEM := Lib.hid hmem
  have HSUM := Lib.hid hsum
  have HXR := Lib.hid hX
  have HFX := Lib.hid h.idx.lt
  have HN := Lib.hid h.n_
  have HFR := Lib.hid (fun q hq => (h.lst q hq).lt)
  have hsl := h.slt (by omega)
  have z0 : (0 : Int) ≤ (r : Int) := by omega
  have z1 : (r : Int) < (R : Int) := by omega
  clear h h2 hb2 hm hmem hsum hX
  unfold rv
  go_enter Try.func35, Try.ntmps35
  go_wp2_with fail
  generalize w.alloc (.cells #[.slice (some ⟨s, 0, none⟩) R cap, .pointer (some ⟨bx, 0, none⟩)] 42) = w2 at *
  refine G.out.mono ?_
  rintro e w3 ⟨rfl, hx3, hu3⟩
  have hz : ¬ Fx w.heap.size := fun hh => by have := HFX.out _ hh; omega
  have HB3 := Lib.hid (hu3.get HV.out hz)
  have HX3 := Lib.hid hx3
  have HU3 := Lib.hid hu3
  clear hx3 hu3 G
  go_wp2_with fail
  have H4 := Lib.hid (block_alloc (o := .cells #[.int .i64 (r : Int), .int .i64 (i : Int)] 62) HB3.out)
  have HA := Lib.hid (block_new w3 (.cells #[.int .i64 (r : Int), .int .i64 (i : Int)] 62))
  have hU4 : Upd Fx w (w3.alloc (.cells #[.int .i64 (r : Int), .int .i64 (i : Int)] 62)) := ((Upd.of_below (F := Fx) HB2.out (fun k h1 h2 => by omega)).trans HU3.out).alloc _
  have hc := (H2.out.cell hr)
  have hs2 := H2.out.slt (by omega)
  have hc4 : (w3.alloc (.cells #[.int .i64 (r : Int), .int .i64 (i : Int)] 62)).cell? ⟨s, r, none⟩ = some (.pointer (some ⟨l r, 0, none⟩)) := by
    have hu := HU3.out.alloc (.cells #[.int .i64 (r : Int), .int .i64 (i : Int)] 62)
    rw [← hc]
    exact World.cell?_of_block (hu.block s hs2 H2.out.sx)
  have hl4 : Lst (w3.alloc (.cells #[.int .i64 (r : Int), .int .i64 (i : Int)] 62)) (l r) (Fr r) (X r) :=
    (H2.out.lst r hr).upd (HU3.out.alloc _) (H2.out.sepx r hr)
  have HU24 := Lib.hid (HU3.out.alloc (.cells #[.int .i64 (r : Int), .int .i64 (i : Int)] 62))
  have HX4 := Lib.hid (HX3.out.below ((Below.refl _ _).alloc (Nat.le_refl _) (.cells #[.int .i64 (r : Int), .int .i64 (i : Int)] 62)))
  have HL4 := Lib.hid hl4
  have HU4 := Lib.hid hU4
  clear hU4 hc hl4
  generalize w3.alloc (.cells #[.int .i64 (r : Int), .int .i64 (i : Int)] 62) = w4 at *
  obtain ⟨b0, b1, fb⟩ := In.two_cells H4.out
  obtain ⟨a0, a1, fa⟩ := In.two_cells HA.out
  have RM : Hid (Calls Try.prog 54 #[.pointer (some ⟨l r, 0, none⟩), .int .i64 (i : Int)] w4.drew (Li.RemPost (l r) (Fr r) (p ++ q) key w4.drew)) := Lib.hid (by
    have hl := HL4.out
    rw [HXR.out] at hl
    exact Li.lst_remove (hl.drewN 1))
  have s4 := lt_of_block HA.out
  have s3 := HU3.out.size
  have hFr := (H2.out.lst r hr).lt
  have hFw := (HL4.out).lt
  have nw : ¬ Fr r w.heap.size := fun hh => by have := HFR.out r hr _ hh; omega
  have ns : ¬ Fr r s := H2.out.sr r hr
  have nw3 : ¬ Fr r w3.heap.size := fun hh => by have := hFr _ hh; omega
  go_region_held3 (fun w' => w'.cell? ⟨w.heap.size, 0, none⟩ = some (.slice (some ⟨s, 0, none⟩) R cap) ∧ w'.cell? ⟨s, r, none⟩ = some (.pointer (some ⟨l r, 0, none⟩)) ∧ w'.cell? ⟨w3.heap.size, 0, none⟩ = some (.int .i64 (r : Int)) ∧ w'.cell? ⟨w3.heap.size, 1, none⟩ = some (.int .i64 (i : Int)))
    (first | (go_keep; done) | exact ⟨by assumption, by assumption, by assumption, by assumption⟩)
    (first | (go_at_call 54; refine RM.out.mono ?_; rintro e w5 ⟨rfl, hl5, hu5⟩; have q0 := cell_upd hu5 nw b0; have q1 := cell_upd hu5 ns hc4; have q2 := cell_upd hu5 nw3 a0; have q3 := cell_upd hu5 nw3 a1))
  go_end0
  have hu25 : Upd (fun k => Fx k ∨ Fr r k) w2 w5 := ((HU24.out.drew).mono (fun k _ hk => .inl hk)).trans (hu5.mono (fun k _ hk => .inr hk))
  have hs5 := HU24.out.size
  have hs1 := HB2.out.size
  have hMore : ∀ k, more (Fr r) w4.drew w5 k → Fr r k ∨ w2.heap.size ≤ k := by
    rintro k (hk | hk)
    · exact .inl hk
    · have : w4.heap.size ≤ k := hk.1
      exact .inr (by omega)
  have hi5 : Idx w5 bx Fx (fun k v => k ≠ key ∧ M k v) m := (HX4.out.drewN 1).upd hu5 (fun k hk hf => H2.out.sepx r hr k hf hk)
  refine ⟨rfl, ⟨_, H2.out.turn hr hu25 hl5 hi5 hMore (fun k hk => .inl hk) ?_ HMEM.out ?_, ?_⟩, ((Upd.of_below (F := fun _ => False) HB2.out (fun k h1 h2 => by omega)).mono (fun k _ hk => hk.elim)).trans hu25⟩
  · intro k hk hf
    rcases hMore k hk with h1 | h1
    · exact H2.out.sepx r hr k h1 hf
    · have := HFX.out k hf; omega
  · have h1 := HSUM.out
    have h2 := HN.out
    have h3 := congrArg List.length HXR.out
    simp only [List.length_append, List.length_cons] at h1 h3 ⊢
    omega
  · intro a k hk
    by_cases e : a = r
    · subst e
      rw [upd_same] at hk
      rcases hMore k hk with h1 | h1
      · exact .inl h1
      · exact .inr (by omega)
    · rw [upd_other _ _ e] at hk; exact .inl hk
end

end Go.Proofs.Ytkeicfajlmhajaa.Rw
