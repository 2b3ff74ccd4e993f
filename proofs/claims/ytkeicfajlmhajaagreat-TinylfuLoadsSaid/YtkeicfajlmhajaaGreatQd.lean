/- TinyLFU in memory: an engine in the midst of an act; notes, often. -/
import Derived.Test.YtkeicfajlmhajaaGreatQc
import Derived.Deep.RegionHeld3
import Derived.Deep.LoopGhost
namespace Go.Proofs.YtkeicfajlmhajaaGreat.Eg
open Go Go.RowKit Go.Proofs.YtkeicfajlmhajaaGreat.K
open Go.Proofs.YtkeicfajlmhajaaGreat.Li (more more_lt)
open Go.Proofs.YtkeicfajlmhajaaGreat.Rw

theorem below_on {w w1 w2 : World} (h : Below w.heap.size w w1) (k : Below w1.heap.size w1.drew w2) : Below w.heap.size w w2 := (below_drewN h 1).trans (k.mono h.size)
theorem below_next {w w1 w2 : World} (h : Below w.heap.size w w1) (k : Below w1.heap.size w1 w2) : Below w.heap.size w w2 := h.trans (k.mono h.size)
theorem more_eq {F : Nat → Prop} {w w' : World} (hu : Upd F w w') : Step F w (more F w w') w' := ⟨hu, fun k hk => by
  rcases hk with h | h
  · exact .inl h
  · exact .inr h.1⟩
theorem step_upd {F : Nat → Prop} {w w' : World} (hu : Upd F w w') : Step F w F w' := ⟨hu, fun _ h => .inl h⟩

/-- The rows' value, as it stands in the frame. -/
abbrev rva (s cap bx : Nat) : Value := .agg #[.slice (some ⟨s, 0, none⟩) 3 cap, .pointer (some ⟨bx, 0, none⟩)]

section
variable {w : World} {G : Nat → Prop} {R : Rs}
theorem oldest_at {s cap bx : Nat} (hr : Rw.Rows 3 w (rva s cap bx) G R) (r : Nat) (h3 : r < 3) {z : Int} (hz : z = (r : Int)) {k : ByteArray} {t : List ByteArray} (hK : R r = k :: t) :
    Calls Tryz.prog 49 #[rva s cap bx, .int .i64 z] w fun e w' => e = .returned (.string k) ∧ Below w.heap.size w w' := by
  subst hz
  exact rows_oldest hr h3 hK

/-- What drop and push leave. -/
def RPost (v : Value) (G : Nat → Prop) (R' : Rs) (w : World) (e : Ending) (w' : World) : Prop :=
  e = .returned (.tuple #[]) ∧ ∃ H, Rw.Rows 3 w' v H R' ∧ Step G w H w'

theorem drop_at {s cap bx : Nat} (hr : Rw.Rows 3 w (rva s cap bx) G R) {key : ByteArray} (hk : key.size ≤ 40) :
    Calls Tryz.prog 50 #[rva s cap bx, .string key] w (RPost (rva s cap bx) G (less R key) w) :=
  (rows_drop hr (by omega)).mono fun _ _ ⟨he, h1, h2⟩ => ⟨he, _, h1, more_eq h2⟩

theorem push_at' {s cap bx : Nat} (hr : Rw.Rows 3 w (rva s cap bx) G R) {key : ByteArray} (hk : key.size ≤ 40) (r : Nat) (h3 : r < 3) {z : Int} (hz : z = (r : Int)) (hl : ∀ q, q < 3 → (R q).length ≤ 80000) :
    Calls Tryz.prog 52 #[rva s cap bx, .int .i64 z, .string key] w (RPost (rva s cap bx) G (push R r key) w) := by
  subst hz
  refine (rows_push hr (by omega) h3 (by have := hl r h3; omega) ?_).mono fun _ _ ⟨he, h1, h2⟩ => ⟨he, _, h1, more_eq h2⟩
  have h0 := hl 0 (by omega)
  have h1 := hl 1 (by omega)
  have h2 := hl 2 (by omega)
  show (R 0).length + ((R 1).length + ((R 2).length + 0)) ≤ 240000
  omega
end

/-- A sketch and a door, and where their cells lie. -/
structure Ntx (w : World) (kb kc db dc c : Nat) (H : Nat → Prop) (N : Nt) : Prop where
  sq : Sk.Sq w kb kc (nn c) N.C N.s
  dq : Do.Dq w db dc (mm c) N.B
  n1 : kb ≠ db
  n2 : kc ≠ db
  n3 : kb ≠ dc
  n4 : kc ≠ dc
  h1 : H kb
  h2 : H kc
  h3 : H db
  h4 : H dc
  lt : ∀ k, H k → k < w.heap.size

section
variable {w w' : World} {kb kc db dc c : Nat} {H : Nat → Prop} {N : Nt}
theorem Nts.open_ (h : Nts w kb db c H N) : ∃ kc dc, Ntx w kb kc db dc c H N := by
  obtain ⟨⟨kc, dc, h1, h2, n1, n2, n3, n4, a, b, d, e⟩, hl⟩ := h
  exact ⟨kc, dc, h1, h2, n1, n2, n3, n4, a, b, d, e, hl⟩
theorem Ntx.shut (h : Ntx w kb kc db dc c H N) : Nts w kb db c H N :=
  ⟨⟨kc, dc, h.sq, h.dq, h.n1, h.n2, h.n3, h.n4, h.h1, h.h2, h.h3, h.h4⟩, h.lt⟩
theorem Ntx.dset (h : Ntx w kb kc db dc c H N) {B' : List Bool} (hd : Do.Dq w' db dc (mm c) B') (hu : Upd (· = dc) w w') : Ntx w' kb kc db dc c H ⟨N.C, N.s, B'⟩ ∧ Upd H w w' :=
  ⟨⟨h.sq.upd hu h.n3 h.n4, hd, h.n1, h.n2, h.n3, h.n4, h.h1, h.h2, h.h3, h.h4, fun k hk => Nat.lt_of_lt_of_le (h.lt k hk) hu.size⟩, hu.mono (fun k _ e => by rw [e]; exact h.h4)⟩
theorem Ntx.sset (h : Ntx w kb kc db dc c H N) {C' : List Nat} {s' : Int} (hs : Sk.Sq w' kb kc (nn c) C' s') (hu : Upd (Sk.BC kb kc) w w') : Ntx w' kb kc db dc c H ⟨C', s', N.B⟩ ∧ Upd H w w' := by
  refine ⟨⟨hs, h.dq.upd hu ?_ ?_, h.n1, h.n2, h.n3, h.n4, h.h1, h.h2, h.h3, h.h4, fun k hk => Nat.lt_of_lt_of_le (h.lt k hk) hu.size⟩, hu.mono ?_⟩
  · rintro (e | e)
    · exact h.n1 e.symm
    · exact h.n2 e.symm
  · rintro (e | e)
    · exact h.n3 e.symm
    · exact h.n4 e.symm
  · rintro k _ (e | e)
    · rw [e]; exact h.h1
    · rw [e]; exact h.h2
end

/-- An engine in the midst of an act: from w0 on; its rows are R and it noted N in a world behind. -/
structure Mid (w0 : World) (b s cap bx kb db c : Nat) (F G H : Nat → Prop) (R : Rs) (N : Nt) (w : World) : Prop where
  blk : Blk w b s cap bx kb db c
  rows : Rw.Rows 3 w (rva s cap bx) G R
  note : Nts w kb db c H N
  ngb : ¬ G b
  nhb : ¬ H b
  sep : ∀ k, G k → ¬ H k
  fb : F b
  flt : ∀ k, F k → k < w0.heap.size
  upd : Upd F w0 w
  gg : ∀ k, G k → F k ∨ w0.heap.size ≤ k
  hf : ∀ k, H k → F k

/-- The same, of K. -/
abbrev MidK (w0 : World) (b s cap bx kb db c : Nat) (F G H : Nat → Prop) (K : Ks) (w : World) : Prop := Mid w0 b s cap bx kb db c F G H K.r (nts c K.h) w

section
variable {w0 w w' : World} {b s cap bx kb db c : Nat} {F G H G' : Nat → Prop} {R R' : Rs} {N N' : Nt} {K : Ks}

theorem Eng.mid (h : Eng w b F c K) : ∃ s cap bx kb db G H, MidK w b s cap bx kb db c F G H K w := by
  obtain ⟨s, cap, bx, kb, db, G, H, h1, h2, h3, h4, h5, h6, h7, h8, h9, h10, h11⟩ := h
  exact ⟨s, cap, bx, kb, db, G, H, h1, h2, h3, h5, h6, h7, h10, h11, Upd.refl _ _, fun k hk => .inl (h8 k hk), h9⟩

theorem Mid.below (h : Mid w0 b s cap bx kb db c F G H R N w) (hb : Below w.heap.size w w') : Mid w0 b s cap bx kb db c F G H R N w' :=
  ⟨(hb.block b (lt_of_block h.blk)).trans h.blk, h.rows.below hb, h.note.below hb, h.ngb, h.nhb, h.sep, h.fb, h.flt,
   h.upd.trans ((Upd.of_below (F := fun _ => False) hb (fun i h1 h2 => by omega)).mono (fun _ _ h => h.elim)), h.gg, h.hf⟩
theorem Mid.drew (h : Mid w0 b s cap bx kb db c F G H R N w) : Mid w0 b s cap bx kb db c F G H R N w.drew := h.below (below_drewN (Below.refl _ _) 1)
theorem Mid.drewN (h : Mid w0 b s cap bx kb db c F G H R N w) (q : Nat) : Mid w0 b s cap bx kb db c F G H R N (w.drewN q) := h.below (below_drewN (Below.refl _ _) q)
theorem Mid.rown (h : Mid w0 b s cap bx kb db c F G H R N w) (hr : Rw.Rows 3 w' (rva s cap bx) G' R') (hs : Step G w G' w') : Mid w0 b s cap bx kb db c F G' H R' N w' := by
  have hbl := lt_of_block h.blk
  refine ⟨hs.upd.get h.blk h.ngb, hr, h.note.upd hs.upd (fun k hk hg => h.sep k hg hk), fun hh => ?_, h.nhb, fun k hk hh => ?_, h.fb, h.flt, h.upd.then hs.upd (fun i hi hg => (h.gg i hg).resolve_right (by omega)), fun k hk => ?_, h.hf⟩
  · rcases hs.grow b hh with h1 | h1
    · exact h.ngb h1
    · omega
  · rcases hs.grow k hk with h1 | h1
    · exact h.sep k h1 hh
    · have := h.note.lt k hh; omega
  · rcases hs.grow k hk with h1 | h1
    · exact h.gg k h1
    · exact .inr (Nat.le_trans h.upd.size h1)
theorem Mid.ntsn (h : Mid w0 b s cap bx kb db c F G H R N w) (hn : Nts w' kb db c H N') (hu : Upd H w w') : Mid w0 b s cap bx kb db c F G H R N' w' :=
  ⟨hu.get h.blk h.nhb, h.rows.upd hu (fun k hk hg => h.sep k hk hg), hn, h.ngb, h.nhb, h.sep, h.fb, h.flt, h.upd.then hu (fun i _ hg => h.hf i hg), h.gg, h.hf⟩
theorem Mid.done (h : MidK w0 b s cap bx kb db c F G H K w) (hi : Inv c K) : Eng w b (more F w0 w) c K ∧ Upd F w0 w := by
  refine ⟨⟨s, cap, bx, kb, db, G, H, h.blk, h.rows, h.note, hi, h.ngb, h.nhb, h.sep, ?_, fun k hk => .inl (h.hf k hk), .inl h.fb, more_lt h.flt h.upd.size⟩, h.upd⟩
  intro k hk
  rcases h.gg k hk with h1 | h1
  · exact .inl h1
  · exact .inr ⟨h1, h.rows.lt k hk⟩
theorem Mid.cells (h : Mid w0 b s cap bx kb db c F G H R N w) : w.cell? ⟨b, 0, none⟩ = some (.slice (some ⟨s, 0, none⟩) 3 cap) ∧ w.cell? ⟨b, 1, none⟩ = some (.pointer (some ⟨bx, 0, none⟩)) ∧ w.cell? ⟨b, 2, none⟩ = some (.int .i64 (c : Int)) ∧ w.cell? ⟨b, 3, none⟩ = some (.int .i64 (win c : Int)) ∧ w.cell? ⟨b, 4, none⟩ = some (.int .i64 (mainr c : Int)) ∧ w.cell? ⟨b, 5, none⟩ = some (.int .i64 (prot c : Int)) ∧ w.cell? ⟨b, 6, none⟩ = some (.pointer (some ⟨kb, 0, none⟩)) ∧ w.cell? ⟨b, 7, none⟩ = some (.pointer (some ⟨db, 0, none⟩)) := Blk.cells h.blk

/-- many, of one row, in a world with one new block. -/
theorem many_one (h : Mid w0 b s cap bx kb db c F G H R N w) (r : Nat) (h3 : r < 3) {z : Int} (hz : z = (r : Int)) (hl : (R r).length ≤ 80000) :
    Calls Tryz.prog 51 #[rva s cap bx, .slice (some ⟨w.heap.size, 0, none⟩) 1 1] (w.alloc (.cells #[.int .i64 z] 3)) fun e w' => e = .returned (.int .i64 ((R r).length : Int)) ∧ Below w.heap.size w w' := by
  subst hz
  have := many_at h.rows (w' := w.alloc (.cells #[.int .i64 (r : Int)] 3)) ((Below.refl _ _).alloc (Nat.le_refl _) _) [r] (by simp; exact h3) (a := w.heap.size) (m := 1) rfl 1 (T := 3) (heap_alloc_new w _) (by simp) (by rw [total_1]; omega)
  rw [total_1] at this
  exact this.mono fun e w' ⟨he, hb'⟩ => ⟨he, ((Below.refl _ _).alloc (Nat.le_refl _) _).trans (hb'.mono (by simp))⟩
/-- many, of probation and protected. -/
theorem many_two (h : Mid w0 b s cap bx kb db c F G H R N w) (hl : (R 1).length + (R 2).length ≤ 80000) :
    Calls Tryz.prog 51 #[rva s cap bx, .slice (some ⟨w.heap.size, 0, none⟩) 2 2] (w.alloc (.cells #[.int .i64 1, .int .i64 2] 3)) fun e w' => e = .returned (.int .i64 (((R 1).length + (R 2).length : Nat) : Int)) ∧ Below w.heap.size w w' := by
  have := many_at h.rows (w' := w.alloc (.cells #[.int .i64 1, .int .i64 2] 3)) ((Below.refl _ _).alloc (Nat.le_refl _) _) [1, 2] (by simp) (a := w.heap.size) (m := 2) rfl 2 (T := 3) (heap_alloc_new w _) (by simp) (by rw [total_2]; omega)
  rw [total_2] at this
  exact this.mono fun e w' ⟨he, hb'⟩ => ⟨he, ((Below.refl _ _).alloc (Nat.le_refl _) _).trans (hb'.mono (by simp))⟩

/-- What a note leaves. -/
def NPost (w0 : World) (b s cap bx kb db c : Nat) (F G H : Nat → Prop) (R : Rs) (N' : Nt) (e : Ending) (w' : World) : Prop :=
  e = .returned (.tuple #[]) ∧ Mid w0 b s cap bx kb db c F G H R N' w'

theorem ntS_no {N : Nt} {key : ByteArray} (h : Do.has (mm c) N.B key = false) : ntS c N key = ⟨N.C, N.s, Do.addB (mm c) N.B key⟩ := by
  unfold ntS; rw [if_neg (by rw [h]; simp)]
theorem ntS_yes {N : Nt} {key : ByteArray} (h : Do.has (mm c) N.B key = true) : ntS c N key =
    if (Sk.addS (nn c) key (N.C, N.s)).2 < N.s then ⟨(Sk.addS (nn c) key (N.C, N.s)).1, (Sk.addS (nn c) key (N.C, N.s)).2, List.replicate (64 * mm c) false⟩
    else ⟨(Sk.addS (nn c) key (N.C, N.s)).1, (Sk.addS (nn c) key (N.C, N.s)).2, Do.addB (mm c) N.B key⟩ := by
  unfold ntS; rw [if_pos h]

set_option maxHeartbeats 800000 in
theorem notes_at (h : Mid w0 b s cap bx kb db c F G H R N w) (hN : 0 ≤ N.s ∧ N.s < 10 * (nn c : Int)) {key : ByteArray} (hk : key.size ≤ 40) :
    Calls Tryz.prog 60 #[.pointer (some ⟨b, 0, none⟩), .string key] w (NPost w0 b s cap bx kb db c F G H R (ntS c N key)) := by
  obtain ⟨kc, dc, hx⟩ := h.note.open_
  obtain ⟨c0, c1, c2, c3, c4, c5, c6, c7⟩ := h.cells
  have AD := Lib.hid (Do.add_dq key hx.dq (by omega))
  have HM := Lib.hid h
  have HX := Lib.hid hx
  have HN := Lib.hid hN
  have HNO := Lib.hid (fun (h : Do.has (mm c) N.B key = false) => ntS_no (c := c) (N := N) h)
  have HYES := Lib.hid (fun (h : Do.has (mm c) N.B key = true) => ntS_yes (c := c) (N := N) h)
  clear h hx hN
  unfold Do.AddPost at AD
  cases hh : Do.has (mm c) N.B key with
  | false =>
    have HE := Lib.hid (HNO.out hh)
    rw [hh] at AD
    clear hh HNO HYES
    go_enter Tryz.func60, Tryz.ntmps60
    go_wp2_with fail
    refine AD.out.mono ?_
    rintro e w1 ⟨rfl, hd1, hu1⟩
    obtain ⟨hx1, hn1⟩ := HX.out.dset hd1 hu1
    have HM1 := Lib.hid (HM.out.ntsn hx1.shut hn1)
    clear hd1 hu1 hx1 hn1
    go_wp2_with fail
    go_end0
    unfold NPost
    rw [HE.out]
    exact ⟨rfl, HM1.out⟩
  | true =>
    have HE := Lib.hid (HYES.out hh)
    rw [hh] at AD
    clear hh HNO HYES
    generalize hB : Do.addB (mm c) N.B key = B' at *
    generalize hA : Sk.addS (nn c) key (N.C, N.s) = A at *
    have HA := Lib.hid hA
    clear hA hB
    go_enter Tryz.func60, Tryz.ntmps60
    go_wp2_with fail
    refine AD.out.mono ?_
    rintro e w1 ⟨rfl, hd1, hu1⟩
    obtain ⟨hx1, hn1⟩ := HX.out.dset hd1 hu1
    have HM1 := Lib.hid (HM.out.ntsn hx1.shut hn1)
    have HX1 := Lib.hid hx1
    obtain ⟨d0, d1, d2, d3, d4, d5, d6, d7⟩ := HM1.out.cells
    clear hd1 hu1 hx1 hn1
    go_wp2_with fail
    refine (Sk.sum_sq _ _ _ _ _ _ HX1.out.sq).mono ?_
    rintro e w2 ⟨rfl, rfl⟩
    go_wp2_with fail
    refine (Sk.add_sq _ _ _ _ _ key _ HX1.out.sq (by omega) HN.out.1 HN.out.2).mono ?_
    rintro e w3 ⟨rfl, hs3, hu3⟩
    rw [HA.out] at hs3
    obtain ⟨hx3, hn3⟩ := HX1.out.sset hs3 hu3
    have HM3 := Lib.hid (HM1.out.ntsn hx3.shut hn3)
    have HX3 := Lib.hid hx3
    obtain ⟨e0, e1, e2, e3, e4, e5, e6, e7⟩ := HM3.out.cells
    clear hs3 hu3 hx3 hn3
    go_wp2_with fail
    refine (Sk.sum_sq _ _ _ _ _ _ HX3.out.sq).mono ?_
    rintro e w4 ⟨rfl, rfl⟩
    by_cases hlt : A.2 < N.s
    · rw [if_pos hlt] at HE
      go_wp2_with fail
      refine (Do.clear_dq HX3.out.dq).mono ?_
      rintro e w5 ⟨rfl, hd5, hu5⟩
      obtain ⟨hx5, hn5⟩ := HX3.out.dset hd5 hu5
      have HM5 := Lib.hid (HM3.out.ntsn hx5.shut hn5)
      clear hd5 hu5 hx5 hn5
      go_wp2_with fail
      go_end0
      unfold NPost
      rw [HE.out]
      exact ⟨rfl, HM5.out⟩
    · rw [if_neg hlt] at HE
      go_wp2_with fail
      go_end0
      unfold NPost
      rw [HE.out]
      exact ⟨rfl, HM3.out⟩

theorem often_at (h : MidK w0 b s cap bx kb db c F G H K w) {key : ByteArray} (hk : key.size ≤ 40) :
    Calls Tryz.prog 84 #[.pointer (some ⟨b, 0, none⟩), .string key] w fun e w' => e = .returned (.int .i64 (often c K.h key : Int)) ∧ Below w.heap.size w w' := by
  obtain ⟨kc, dc, hx⟩ := h.note.open_
  obtain ⟨c0, c1, c2, c3, c4, c5, c6, c7⟩ := h.cells
  have CT := Lib.hid (Sk.count_sq _ _ _ _ _ key _ hx.sq (by omega))
  have HM := Lib.hid h
  have HX := Lib.hid hx
  have hO : often c K.h key = Sk.cnt (nn c) (nts c K.h).C key + if Do.has (mm c) (nts c K.h).B key = true then 1 else 0 := rfl
  have hle := Sk.cnt_le (nn c) (nts c K.h).C key
  generalize Sk.cnt (nn c) (nts c K.h).C key = n at *
  have HO := Lib.hid hO
  clear h hx hO
  go_enter Tryz.func84, Tryz.ntmps84
  go_wp2_with fail
  refine CT.out.mono ?_
  rintro e w1 ⟨rfl, hb1⟩
  have HB1 := Lib.hid hb1
  have HM1 := Lib.hid (HM.out.below hb1)
  have DQ := Lib.hid (Do.has_dq key (HX.out.dq.below hb1) (by omega))
  obtain ⟨d0, d1, d2, d3, d4, d5, d6, d7⟩ := HM1.out.cells
  clear hb1
  have e1 : wrap64 ((n : Int) + 1) = ((n + 1 : Nat) : Int) := by unfold wrap64; omega
  cases hh : Do.has (mm c) (nts c K.h).B key with
  | false =>
    rw [hh] at DQ HO
    clear hh
    go_wp2_with fail
    refine DQ.out.mono ?_
    rintro e w2 ⟨rfl, q, rfl⟩
    go_wp2_with fail
    go_ret
    rw [HO.out]
    exact ⟨rfl, below_drewN HB1.out _⟩
  | true =>
    rw [hh] at DQ HO
    clear hh
    go_wp2_with fail
    refine DQ.out.mono ?_
    rintro e w2 ⟨rfl, q, rfl⟩
    go_wp2_with fail
    go_ret
    rw [HO.out]
    exact ⟨ret_int (by simp), below_drewN HB1.out _⟩
end

end Go.Proofs.YtkeicfajlmhajaaGreat.Eg
