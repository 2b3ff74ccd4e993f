/- S3-FIFO's reference in memory: two slices of cells, one of keys. What only tells; Len, Room, small, Has. -/
import Derived.Test.YtodiceafnkojiaaQe
import Derived.Test.YtodiceafnkojiaaSr
import Derived.IntWalk
namespace Go.Proofs.Ytodiceafnkojiaa.Rf
open Go Go.RowKit Go.Proofs.Ytodiceafnkojiaa.K Go.Proofs.Ytodiceafnkojiaa.Sl Go.Proofs.Ytodiceafnkojiaa.Eg
open Go.Proofs.Ytodiceafnkojiaa.Li (more more_lt own_form')
open Go.Proofs.Ytodiceafnkojiaa.Rw (upd upd_same upd_other less less_same cell_below cell_upd)

open Go.Proofs.Ytodiceafnkojiaa.Sc (Cs fl RC)

/-- The cells of a row. -/
def cl (K : Ks) (r : Nat) : Cs := (K.r r).map fun k => (k, K.n k)
abbrev X3 := Nat → Cs ⊕ List ByteArray
/-- What the three slices hold. -/
def XK (K : Ks) : X3 := fun r => if r = 2 then .inr (K.r 2) else .inl (cl K r)
def Rx (w : World) (v : Value) (F : Nat → Prop) (x : Cs ⊕ List ByteArray) : Prop := match x with
  | .inl cs => Sc.Sc w v F cs
  | .inr g => Sl w v F g
def lenx : Cs ⊕ List ByteArray → Nat
  | .inl cs => cs.length
  | .inr g => g.length
theorem Rx.upd {w w' : World} {v : Value} {F G : Nat → Prop} {x : Cs ⊕ List ByteArray} (h : Rx w v F x) (hu : Upd G w w') (hG : ∀ k, F k → ¬ G k) : Rx w' v F x := by
  cases x with
  | inl cs => exact Sc.Sc.upd h hu hG
  | inr g => exact Sl.upd h hu hG
theorem Rx.below {w w' : World} {v : Value} {F : Nat → Prop} {x : Cs ⊕ List ByteArray} (h : Rx w v F x) (hb : Below w.heap.size w w') : Rx w' v F x :=
  h.upd (Upd.of_below (F := fun _ => False) hb (fun i h1 h2 => by omega)) (fun _ _ => id)
theorem Rx.form {w : World} {v : Value} {F : Nat → Prop} {x : Cs ⊕ List ByteArray} (h : Rx w v F x) : ∃ A cap, v = .slice A (lenx x) cap ∧ lenx x ≤ cap := by
  cases x with
  | inl cs => exact Sc.Sc.form h
  | inr g => exact Sl.form h

/-- The reference in the midst of an act. -/
structure RM (w0 : World) (b c : Nat) (F : Nat → Prop) (v : Nat → Value) (Fs : Nat → Nat → Prop) (X : X3) (w : World) : Prop where
  blk : w.heap[b]? = some (.cells #[v 0, v 1, v 2, .int .i64 (c : Int)] 70 (0, 0))
  sl : ∀ r, r < 3 → Rx w (v r) (Fs r) (X r)
  sep : ∀ r q, r < 3 → q < 3 → r ≠ q → ∀ k, Fs r k → ¬ Fs q k
  nb : ∀ r, r < 3 → ¬ Fs r b
  lt : ∀ r, r < 3 → ∀ k, Fs r k → k < w.heap.size
  fb : F b
  flt : ∀ k, F k → k < w0.heap.size
  upd : Upd F w0 w
  grow : ∀ r, r < 3 → ∀ k, Fs r k → F k ∨ w0.heap.size ≤ k

def Ref (w : World) (b : Nat) (F : Nat → Prop) (c : Nat) (K : Ks) : Prop := ∃ v Fs, RM w b c F v Fs (XK K) w ∧ Inv c K

section
variable {w0 w w' : World} {b c : Nat} {F : Nat → Prop} {v : Nat → Value} {Fs : Nat → Nat → Prop} {K : Ks} {X : X3}

theorem RM.below (h : RM w0 b c F v Fs X w) (hb : Below w.heap.size w w') : RM w0 b c F v Fs X w' :=
  ⟨(hb.block b (lt_of_block h.blk)).trans h.blk, fun r hr => (h.sl r hr).below hb, h.sep, h.nb, fun r hr k hk => Nat.lt_of_lt_of_le (h.lt r hr k hk) hb.size, h.fb, h.flt,
   h.upd.trans ((Upd.of_below (F := fun _ => False) hb (fun i h1 h2 => by omega)).mono (fun _ _ h => h.elim)), h.grow⟩
theorem RM.drewN (h : RM w0 b c F v Fs X w) (n : Nat) : RM w0 b c F v Fs X (w.drewN n) := h.below (below_drewN (Below.refl _ _) n)
theorem RM.self (h : RM w0 b c F v Fs X w) (hl : w.heap.size = w0.heap.size) : ∀ r, r < 3 → ∀ k, Fs r k → F k := fun r hr k hk => by
  rcases h.grow r hr k hk with h1 | h1
  · exact h1
  · have := h.lt r hr k hk; omega
/-- One row is another slice. -/
theorem RM.store (h : RM w0 b c F v Fs X w) {r : Nat} (hr : r < 3) {v' : Value} {F' : Nat → Prop} {xs : Cs ⊕ List ByteArray} (hu : Upd (Fs r) w w') (hs : Rx w' v' F' xs) (hF : ∀ k, F' k → Fs r k ∨ w.heap.size ≤ k) (hlt : ∀ k, F' k → k < w'.heap.size) :
    RM w0 b c F (Rw.upd v r v') (Rw.upd Fs r F') (Rw.upd X r xs) (w'.setCell ⟨b, r, none⟩ v') := by
  have hb1 := hu.get h.blk (h.nb r hr)
  have hsz : (w'.setCell ⟨b, r, none⟩ v').heap.size = w'.heap.size := by simp [World.setCell]
  have hbl := lt_of_block h.blk
  have hu2 : Upd (· = b) w' (w'.setCell ⟨b, r, none⟩ v') := (Upd.refl _ _).setB
  have hnb : ∀ q, q < 3 → ¬ Rw.upd Fs r F' q b := by
    intro q hq
    by_cases e : q = r
    · subst e
      rw [upd_same]
      intro hf
      rcases hF b hf with h1 | h1
      · exact h.nb q hq h1
      · omega
    · rw [upd_other _ _ e]; exact h.nb q hq
  refine ⟨?_, ?_, ?_, hnb, ?_, h.fb, h.flt, ?_, ?_⟩
  · rw [block_setCell hb1]
    match r, hr with
    | 0, _ => rfl
    | 1, _ => rfl
    | 2, _ => rfl
  · intro q hq
    refine Rx.upd ?_ hu2 (fun k hk e => hnb q hq (by rw [← e]; exact hk))
    by_cases e : q = r
    · subst e; rw [upd_same, upd_same, upd_same]; exact hs
    · rw [upd_other _ _ e, upd_other _ _ e, upd_other _ _ e]
      exact (h.sl q hq).upd hu (fun k hk => h.sep q r hq hr e k hk)
  · intro p q hp hq hne k hk hk'
    by_cases e : p = r
    · subst e
      rw [upd_same] at hk
      rw [upd_other _ _ (Ne.symm hne)] at hk'
      rcases hF k hk with h1 | h1
      · exact h.sep p q hp hq hne k h1 hk'
      · have := h.lt q hq k hk'; omega
    · rw [upd_other _ _ e] at hk
      by_cases e2 : q = r
      · rw [e2, upd_same] at hk'
        rcases hF k hk' with h1 | h1
        · exact h.sep p r hp hr e k hk h1
        · have := h.lt p hp k hk; omega
      · rw [upd_other _ _ e2] at hk'
        exact h.sep p q hp hq hne k hk hk'
  · intro q hq k hk
    rw [hsz]
    by_cases e : q = r
    · subst e; rw [upd_same] at hk; exact hlt k hk
    · rw [upd_other _ _ e] at hk; exact Nat.lt_of_lt_of_le (h.lt q hq k hk) hu.size
  · have h1 : Upd F w0 w' := h.upd.then hu (fun i hi hf => (h.grow r hr i hf).resolve_right (by omega))
    exact h1.setCell (p := ⟨b, r, none⟩) (.inl h.fb) _
  · intro q hq k hk
    by_cases e : q = r
    · subst e
      rw [upd_same] at hk
      rcases hF k hk with h1 | h1
      · exact h.grow q hq k h1
      · exact .inr (Nat.le_trans h.upd.size h1)
    · rw [upd_other _ _ e] at hk; exact h.grow q hq k hk
theorem RM.same {X' : X3} (h : RM w0 b c F v Fs X w) (hK : ∀ r, r < 3 → X r = X' r) : RM w0 b c F v Fs X' w :=
  ⟨h.blk, fun r hr => by rw [← hK r hr]; exact h.sl r hr, h.sep, h.nb, h.lt, h.fb, h.flt, h.upd, h.grow⟩
theorem RM.done (h : RM w0 b c F v Fs (XK K) w) (hi : Inv c K) : Ref w b (more F w0 w) c K ∧ Step F w0 (more F w0 w) w := by
  refine ⟨⟨v, Fs, ⟨h.blk, h.sl, h.sep, h.nb, h.lt, .inl h.fb, more_lt h.flt h.upd.size, Upd.refl _ _, ?_⟩, hi⟩, more_eq h.upd⟩
  intro r hr k hk
  rcases h.grow r hr k hk with h1 | h1
  · exact .inl (.inl h1)
  · exact .inl (.inr ⟨h1, h.lt r hr k hk⟩)

theorem Ref.lt (h : Ref w b F c K) : ∀ k, F k → k < w.heap.size := by obtain ⟨v, Fs, h1, _⟩ := h; exact h1.flt
theorem Ref.self (h : Ref w b F c K) : F b := by obtain ⟨v, Fs, h1, _⟩ := h; exact h1.fb
theorem Ref.inv (h : Ref w b F c K) : Inv c K := by obtain ⟨v, Fs, _, h1⟩ := h; exact h1
theorem Ref.upd {H : Nat → Prop} (h : Ref w b F c K) (hu : Upd H w w') (hH : ∀ k, F k → ¬ H k) : Ref w' b F c K := by
  obtain ⟨v, Fs, h1, h2⟩ := h
  have hF := h1.self rfl
  exact ⟨v, Fs, ⟨hu.get h1.blk (hH b h1.fb), fun r hr => (h1.sl r hr).upd hu (fun k hk => hH k (hF r hr k hk)), h1.sep, h1.nb, fun r hr k hk => Nat.lt_of_lt_of_le (h1.lt r hr k hk) hu.size, h1.fb, fun k hk => Nat.lt_of_lt_of_le (h1.flt k hk) hu.size, Upd.refl _ _, fun r hr k hk => .inl (hF r hr k hk)⟩, h2⟩
theorem Ref.below (h : Ref w b F c K) (hb : Below w.heap.size w w') : Ref w' b F c K :=
  h.upd (Upd.of_below (F := fun _ => False) hb (fun i h1 h2 => by omega)) (fun _ _ => id)
theorem Ref.drewN (h : Ref w b F c K) (n : Nat) : Ref (w.drewN n) b F c K := h.below (below_drewN (Below.refl _ _) n)

/-- The slices, written out, and the block's cells. -/
structure RS (w : World) (b c : Nat) (v : Nat → Value) (Fs : Nat → Nat → Prop) (X : X3) (A : Nat → Option Addr) (p : Nat → Nat) : Prop where
  v_ : ∀ r, r < 3 → v r = .slice (A r) (lenx (X r)) (p r)
  p_ : ∀ r, r < 3 → lenx (X r) ≤ p r
  c0 : w.cell? ⟨b, 0, none⟩ = some (.slice (A 0) (lenx (X 0)) (p 0))
  c1 : w.cell? ⟨b, 1, none⟩ = some (.slice (A 1) (lenx (X 1)) (p 1))
  c2 : w.cell? ⟨b, 2, none⟩ = some (.slice (A 2) (lenx (X 2)) (p 2))
  c3 : w.cell? ⟨b, 3, none⟩ = some (.int .i64 (c : Int))
  sl : ∀ r, r < 3 → Rx w (.slice (A r) (lenx (X r)) (p r)) (Fs r) (X r)

theorem RM.rs (h : RM w0 b c F v Fs X w) : ∃ A p, RS w b c v Fs X A p := by
  have hf : ∀ r, ∃ (A : Option Addr) (p : Nat), r < 3 → v r = .slice A (lenx (X r)) p ∧ lenx (X r) ≤ p := by
    intro r
    by_cases hr : r < 3
    · obtain ⟨A, p, h1, h2⟩ := (h.sl r hr).form
      exact ⟨A, p, fun _ => ⟨h1, h2⟩⟩
    · exact ⟨none, 0, fun h => absurd h hr⟩
  refine ⟨fun r => Classical.choose (hf r), fun r => Classical.choose (Classical.choose_spec (hf r)), ?_⟩
  have hc := fun r => Classical.choose_spec (Classical.choose_spec (hf r))
  refine ⟨fun r hr => (hc r hr).1, fun r hr => (hc r hr).2, ?_, ?_, ?_, ?_, ?_⟩
  · rw [cell_of h.blk, ← (hc 0 (by omega)).1]; rfl
  · rw [cell_of h.blk, ← (hc 1 (by omega)).1]; rfl
  · rw [cell_of h.blk, ← (hc 2 (by omega)).1]; rfl
  · rw [cell_of h.blk]; rfl
  · intro r hr
    rw [← (hc r hr).1]
    exact h.sl r hr
theorem RS.below {A : Nat → Option Addr} {p : Nat → Nat} (h : RS w b c v Fs X A p) (hb : Below w.heap.size w w') : RS w' b c v Fs X A p :=
  ⟨h.v_, h.p_, cell_below hb h.c0, cell_below hb h.c1, cell_below hb h.c2, cell_below hb h.c3, fun r hr => (h.sl r hr).below hb⟩
theorem RM.cells (h : RM w0 b c F v Fs X w) : w.cell? ⟨b, 0, none⟩ = some (v 0) ∧ w.cell? ⟨b, 1, none⟩ = some (v 1) ∧ w.cell? ⟨b, 2, none⟩ = some (v 2) ∧ w.cell? ⟨b, 3, none⟩ = some (.int .i64 (c : Int)) :=
  ⟨by rw [cell_of h.blk]; rfl, by rw [cell_of h.blk]; rfl, by rw [cell_of h.blk]; rfl, by rw [cell_of h.blk]; rfl⟩
theorem RM.wr (h : RM w0 b c F v Fs X w) : ∀ o, w.frozen? ⟨b, o, none⟩ = false := free_of h.blk

theorem cl_length (K : Ks) (r : Nat) : (cl K r).length = (K.r r).length := by unfold cl; rw [List.length_map]
theorem XK_0 (K : Ks) : XK K 0 = .inl (cl K 0) := rfl
theorem XK_1 (K : Ks) : XK K 1 = .inl (cl K 1) := rfl
theorem XK_2 (K : Ks) : XK K 2 = .inr (K.r 2) := rfl
theorem cl_get {r : Nat} {j : Nat} {x : ByteArray × Nat} (h : (cl K r)[j]? = some x) : (K.r r)[j]? = some x.1 ∧ x.2 = K.n x.1 := by
  unfold cl at h
  rw [List.getElem?_map] at h
  cases hk : (K.r r)[j]? with
  | none => rw [hk] at h; cases h
  | some k => rw [hk] at h; cases h; exact ⟨rfl, rfl⟩
theorem cl_of {r : Nat} {j : Nat} {k : ByteArray} (h : (K.r r)[j]? = some k) : (cl K r)[j]? = some (k, K.n k) := by
  unfold cl
  rw [List.getElem?_map, h]
  rfl

/-- Where a key stands first. -/
theorem first_at {l : List ByteArray} {key : ByteArray} (h : key ∈ l) : ∃ i : Nat, l[i]? = some key ∧ ∀ (j : Nat) (x : ByteArray), j < i → l[j]? = some x → x ≠ key := by
  induction l with
  | nil => cases h
  | cons y t ih =>
    by_cases e : y = key
    · exact ⟨0, by rw [e]; rfl, fun j x hj => by omega⟩
    · obtain ⟨i, h1, h2⟩ := ih (by rcases List.mem_cons.1 h with h | h; exact absurd h.symm e; exact h)
      refine ⟨i + 1, h1, fun j x hj hx => ?_⟩
      cases j with
      | zero => simp at hx; rw [← hx]; exact e
      | succ j => exact h2 j x (by omega) hx

/-- at, of a row. -/
theorem at_yes {A : Option Addr} {p r : Nat} (hp : (cl K r).length ≤ p) (hl : (K.r r).length ≤ 80000) {key : ByteArray} (hk : key ∈ K.r r) :
    ∃ i : Nat, (K.r r)[i]? = some key ∧ ∀ w', RC w' A (cl K r) → Calls Try.prog 70 #[.slice A (cl K r).length p, .string key] w' (fun e w'' => e = .returned (.int .i64 (i : Int)) ∧ w' = w'') := by
  obtain ⟨i, h1, h2⟩ := first_at hk
  refine ⟨i, h1, fun w' hr => Sc.q_at_yes hr hp (by rw [cl_length]; omega) (cl_of h1) (fun j x hj hx => h2 j x.1 hj (cl_get hx).1)⟩
theorem at_no {A : Option Addr} {p r : Nat} (hp : (cl K r).length ≤ p) (hl : (K.r r).length ≤ 80000) {key : ByteArray} (hk : key ∉ K.r r) (w' : World) (hr : RC w' A (cl K r)) :
    Calls Try.prog 70 #[.slice A (cl K r).length p, .string key] w' (fun e w'' => e = .returned (.int .i64 (-1)) ∧ w' = w'') :=
  Sc.q_at_no hr hp (by rw [cl_length]; omega) (fun j x hx e => hk (by rw [← e]; exact List.mem_of_getElem? (cl_get hx).1))

theorem ref_room (h : Ref w b F c K) : Calls Try.prog 38 #[.pointer (some ⟨b, 0, none⟩)] w fun e w' => e = .returned (.int .i64 (c : Int)) ∧ w = w' := by
  obtain ⟨v, Fs, hm, -⟩ := h
  obtain ⟨A, p, hs⟩ := hm.rs
  have c3 := hs.c3
  clear hm hs
  go_enter Try.func38, Try.ntmps38
  go_wp2_with fail
  go_ret
  exact ⟨rfl, rfl⟩

theorem ref_len (h : Ref w b F c K) : Calls Try.prog 36 #[.pointer (some ⟨b, 0, none⟩)] w fun e w' => e = .returned (.int .i64 (len K : Int)) ∧ Below w.heap.size w w' := by
  have hl1 := h.inv.len1
  obtain ⟨v, Fs, hm, -⟩ := h
  obtain ⟨A, p, hs⟩ := hm.rs
  have c0 := hs.c0
  have c1 := hs.c1
  rw [XK_0] at c0
  rw [XK_1] at c1
  unfold lenx at c0 c1
  dsimp only at c0 c1
  rw [cl_length] at c0 c1
  clear hm hs
  have e : ((len K : Nat) : Int) = ((K.r 0).length : Int) + ((K.r 1).length : Int) := by unfold len; omega
  rw [e]
  clear e
  generalize (K.r 0).length = x at *
  generalize (K.r 1).length = y at *
  have hxy : IntKind.i64.wrap ((x : Int) + (y : Int)) = (x : Int) + (y : Int) := IntWalk.i64_in _ (by omega)
  clear hl1
  go_enter Try.func36, Try.ntmps36
  go_wp2_with fail
  go_quiet (fail)
  go_wp2_with fail
  go_ret
  exact ⟨rfl, below_drewN (Below.refl _ _) _⟩

theorem max10 {c : Nat} (h : c ≤ 1024) : (if (1 : Int) < IntKind.i64.wrap ((c : Int) / 10) then IntKind.i64.wrap ((c : Int) / 10) else 1) = (kin c : Int) := by
  have e : IntKind.i64.wrap ((c : Int) / 10) = (c : Int) / 10 := IntWalk.i64_in _ (by omega)
  rw [e]
  unfold kin
  split <;> omega
theorem max10' (c : Nat) : (if (1 : Int) < (c : Int) / 10 then (c : Int) / 10 else 1) = (kin c : Int) := by
  unfold kin
  split <;> omega

theorem small_any (w : World) {b c : Nat} (hc : c ≤ 1024) (c3 : w.cell? ⟨b, 3, none⟩ = some (.int .i64 (c : Int))) : Calls Try.prog 73 #[.pointer (some ⟨b, 0, none⟩)] w fun e w' => e = .returned (.int .i64 (kin c : Int)) ∧ w = w' := by
  have h1 := max10 hc
  have h2 := max10' c
  go_enter Try.func73, Try.ntmps73
  go_wp2_with fail
  go_ret
  refine ⟨?_, rfl⟩
  first | rfl | simp [h1, h2]

theorem ref_has (h : Ref w b F c K) (key : ByteArray) : Calls Try.prog 53 #[.pointer (some ⟨b, 0, none⟩), .string key] w fun e w' => e = .returned (.bool (has K key)) ∧ w = w' := by
  have hi := h.inv
  have hl0 := lens hi 0 (by omega)
  have hl1 := lens hi 1 (by omega)
  obtain ⟨v, Fs, hm, -⟩ := h
  obtain ⟨A, p, hs⟩ := hm.rs
  have c0 := hs.c0
  have c1 := hs.c1
  have s0 : Sc.Sc w (.slice (A 0) (cl K 0).length (p 0)) (Fs 0) (cl K 0) := hs.sl 0 (by omega)
  have s1 : Sc.Sc w (.slice (A 1) (cl K 1).length (p 1)) (Fs 1) (cl K 1) := hs.sl 1 (by omega)
  have p0 : (cl K 0).length ≤ p 0 := hs.p_ 0 (by omega)
  have p1 : (cl K 1).length ≤ p 1 := hs.p_ 1 (by omega)
  have c0' : w.cell? ⟨b, 0, none⟩ = some (.slice (A 0) (cl K 0).length (p 0)) := c0
  have c1' : w.cell? ⟨b, 1, none⟩ = some (.slice (A 1) (cl K 1).length (p 1)) := c1
  clear c0 c1
  by_cases h0 : key ∈ K.r 0
  · have e : has K key = true := by simp [has, h0]
    rw [e]
    obtain ⟨i, -, H0⟩ := at_yes (A := A 0) p0 hl0 h0
    have H := Lib.hid (H0 w s0.rc)
    clear hm hs hi h0 e H0
    go_enter Try.func53, Try.ntmps53
    go_wp2_with fail
    refine H.out.mono ?_
    rintro e w1 ⟨rfl, rfl⟩
    go_wp2_with fail
    go_ret
    exact ⟨rfl, rfl⟩
  · have H := Lib.hid (at_no (A := A 0) p0 hl0 h0 w s0.rc)
    by_cases h1 : key ∈ K.r 1
    · have e : has K key = true := by simp [has, h1]
      rw [e]
      obtain ⟨i, -, H1⟩ := at_yes (A := A 1) p1 hl1 h1
      have H2 := Lib.hid (H1 w s1.rc)
      clear hm hs hi h0 h1 e H1
      go_enter Try.func53, Try.ntmps53
      go_wp2_with fail
      refine H.out.mono ?_
      rintro e w1 ⟨rfl, rfl⟩
      go_wp2_with fail
      refine H2.out.mono ?_
      rintro e w1 ⟨rfl, rfl⟩
      go_wp2_with fail
      go_ret
      exact ⟨rfl, rfl⟩
    · have e : has K key = false := by simp [has, h0, h1]
      rw [e]
      have H2 := Lib.hid (at_no (A := A 1) p1 hl1 h1 w s1.rc)
      clear hm hs hi h0 h1 e
      go_enter Try.func53, Try.ntmps53
      go_wp2_with fail
      refine H.out.mono ?_
      rintro e w1 ⟨rfl, rfl⟩
      go_wp2_with fail
      refine H2.out.mono ?_
      rintro e w1 ⟨rfl, rfl⟩
      go_wp2_with fail
      go_ret
      exact ⟨rfl, rfl⟩
end

end Go.Proofs.Ytodiceafnkojiaa.Rf
