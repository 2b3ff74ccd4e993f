/- TinyLFU's reference in memory: Has, note, often. -/
import Derived.Test.YtkeicfajlmhajaaGreatQr
namespace Go.Proofs.YtkeicfajlmhajaaGreat.Rf
open Go Go.RowKit Go.Proofs.YtkeicfajlmhajaaGreat.K Go.Proofs.YtkeicfajlmhajaaGreat.Sl Go.Proofs.YtkeicfajlmhajaaGreat.Eg
open Go.Proofs.YtkeicfajlmhajaaGreat.Li (more more_lt own_form')
open Go.Proofs.YtkeicfajlmhajaaGreat.Rw (upd upd_same upd_other less less_same cell_below cell_upd)

section
variable {w0 w w' : World} {b c : Nat} {F : Nat → Prop} {v : Nat → Value} {Fs : Nat → Nat → Prop} {K : Rs} {kb db : Nat} {H : Nat → Prop} {N : Nt}

theorem qhas_yes {A : Nat → Option Addr} {p : Nat → Nat} (hl : ∀ q, q < 3 → (K q).length ≤ 80000) (h : RS w b c v Fs K A p) {r : Nat} (hr : r < 3) {key : ByteArray} (hk : key ∈ K r) :
    Calls Tryz.prog 46 #[.slice (A r) (K r).length (p r), .string key] w (Sl.Some (K r).length w) :=
  q_has_yes ((h.sl r hr).rstr (by have := hl r hr; omega)) (h.p_ r hr) (by have := hl r hr; omega) hk
theorem qhas_no {A : Nat → Option Addr} {p : Nat → Nat} (hl : ∀ q, q < 3 → (K q).length ≤ 80000) (h : RS w b c v Fs K A p) {r : Nat} (hr : r < 3) {key : ByteArray} (hk : key ∉ K r) :
    Calls Tryz.prog 46 #[.slice (A r) (K r).length (p r), .string key] w fun e w' => e = .returned (.int .i64 (-1)) ∧ w = w' :=
  q_has_no ((h.sl r hr).rstr (by have := hl r hr; omega)) (h.p_ r hr) (by have := hl r hr; omega) hk
theorem first_cell {A : Nat → Option Addr} {p : Nat → Nat} (h : RS w b c v Fs K A p) {r : Nat} (hr : r < 3) {k : ByteArray} {t : List ByteArray} (hK : K r = k :: t) :
    ∃ g o, A r = some ⟨g, o, none⟩ ∧ w.cell? ⟨g, o, none⟩ = some (.string k) := by
  obtain ⟨g, o, h1, h2⟩ := (h.sl r hr).cell (j := 0) (x := k) (by rw [hK]; rfl)
  exact ⟨g, o, h1, h2⟩
theorem rcut {A : Nat → Option Addr} {p : Nat → Nat} (hl : ∀ q, q < 3 → (K q).length ≤ 80000) (h : RS w b c v Fs K A p) {r : Nat} (hr : r < 3) (key : ByteArray) :
    Calls Tryz.prog 63 #[.slice (A r) (K r).length (p r), .string key] w (CutPost (K r) key w) :=
  q_cut ((h.sl r hr).rstr (by have := hl r hr; omega)) (h.p_ r hr) (by have := hl r hr; omega) key
theorem RM.cells (h : RM w0 b c F v Fs K kb db H N w) : w.cell? ⟨b, 0, none⟩ = some (v 0) ∧ w.cell? ⟨b, 1, none⟩ = some (v 1) ∧ w.cell? ⟨b, 2, none⟩ = some (v 2) ∧ w.cell? ⟨b, 3, none⟩ = some (.pointer (some ⟨kb, 0, none⟩)) ∧ w.cell? ⟨b, 4, none⟩ = some (.pointer (some ⟨db, 0, none⟩)) ∧ w.cell? ⟨b, 5, none⟩ = some (.int .i64 (c : Int)) :=
  ⟨by rw [cell_of h.blk]; rfl, by rw [cell_of h.blk]; rfl, by rw [cell_of h.blk]; rfl, by rw [cell_of h.blk]; rfl, by rw [cell_of h.blk]; rfl, by rw [cell_of h.blk]; rfl⟩
theorem RM.wr (h : RM w0 b c F v Fs K kb db H N w) : ∀ o, w.frozen? ⟨b, o, none⟩ = false := free_of h.blk

/-- A row was cut and stored. -/
theorem RM.cutted {n : Nat} {v' : Value} (h : RM w0 b c F v Fs K kb db H N w) {r : Nat} (hr : r < 3) {key : ByteArray} (hb : Below w.heap.size w w') (ho : w'.ownsRow w.heap.size 9 1 v' n ((without (K r) key).map .string)) :
    RM w0 b c F (Rw.upd v r v') (Rw.upd Fs r (fun j => v'.ownBlock = some j)) (Rw.upd K r (without (K r) key)) kb db H N (w'.setCell ⟨b, r, none⟩ v') :=
  h.store hr ((Upd.of_below (F := fun _ => False) hb (fun i h1 h2 => by omega)).mono (fun _ _ h => h.elim)) (Sl.of_own ho (fun _ h => h)) (fun j hj => .inr (ho.lt j hj).1) (fun j hj => (ho.lt j hj).2)
/-- A row got one more key and was stored. -/
theorem RM.pushed {v' : Value} (h : RM w0 b c F v Fs K kb db H N w) {r : Nat} (hr : r < 3) {key : ByteArray} (hp : Pushed w (Fs r) (K r) key v' w') :
    RM w0 b c F (Rw.upd v r v') (Rw.upd Fs r (fun j => v'.ownBlock = some j)) (Rw.upd K r (K r ++ [key])) kb db H N (w'.setCell ⟨b, r, none⟩ v') :=
  h.store hr hp.upd hp.sl hp.new hp.lt
theorem upd_less (h : Sep K) {r : Nat} (hr : r < 3) {key : ByteArray} (hk : key ∈ K r) : ∀ q, q < 3 → upd K r (without (K r) key) q = less K key q := by
  intro q hq
  by_cases e : q = r
  · rw [e, upd_same]; rfl
  · rw [upd_other _ _ e, h.apart hr hk hq e]

theorem rlens {K : Ks} (h : Inv c K) : ∀ q, q < 3 → (K.r q).length ≤ 80000 := lens h

theorem ref_has {K : Ks} (h : Ref w b F c K) (key : ByteArray) : Calls Tryz.prog 17 #[.pointer (some ⟨b, 0, none⟩), .string key] w fun e w' => e = .returned (.bool (has K key)) ∧ w = w' := by
  have hi := lens h.inv
  obtain ⟨v, Fs, kb, db, H, hm, -⟩ := h
  obtain ⟨A, p, hs⟩ := hm.rs
  have c0 := hs.c0
  have c1 := hs.c1
  have c2 := hs.c2
  have HA : ∀ r, r < 3 → ∃ x : Bool, (x = true ↔ key ∈ K.r r) := fun r _ => ⟨decide (key ∈ K.r r), by simp⟩
  by_cases h0 : key ∈ K.r 0
  · have e : has K key = true := by simp [has, h0]
    rw [e]
    have H := Lib.hid (qhas_yes hi hs (r := 0) (by omega) h0)
    clear hm hs hi h0 e HA
    go_enter Tryz.func17, Tryz.ntmps17
    go_wp2_with fail
    refine H.out.mono ?_
    rintro e w1 ⟨⟨i, rfl, hi⟩, rfl⟩
    go_wp2_with fail
    go_ret
    exact ⟨rfl, rfl⟩
  · have H0 := Lib.hid (qhas_no hi hs (r := 0) (by omega) h0)
    by_cases h1 : key ∈ K.r 1
    · have e : has K key = true := by simp [has, h1]
      rw [e]
      have H1 := Lib.hid (qhas_yes hi hs (r := 1) (by omega) h1)
      clear hm hs hi h0 h1 e HA
      go_enter Tryz.func17, Tryz.ntmps17
      go_wp2_with fail
      refine H0.out.mono ?_
      rintro e w1 ⟨rfl, rfl⟩
      go_wp2_with fail
      refine H1.out.mono ?_
      rintro e w1 ⟨⟨i, rfl, hi⟩, rfl⟩
      go_wp2_with fail
      go_ret
      exact ⟨rfl, rfl⟩
    · have H1 := Lib.hid (qhas_no hi hs (r := 1) (by omega) h1)
      by_cases h2 : key ∈ K.r 2
      · have e : has K key = true := by simp [has, h2]
        rw [e]
        have H2 := Lib.hid (qhas_yes hi hs (r := 2) (by omega) h2)
        clear hm hs hi h0 h1 h2 e HA
        go_enter Tryz.func17, Tryz.ntmps17
        go_wp2_with fail
        refine H0.out.mono ?_
        rintro e w1 ⟨rfl, rfl⟩
        go_wp2_with fail
        refine H1.out.mono ?_
        rintro e w1 ⟨rfl, rfl⟩
        go_wp2_with fail
        refine H2.out.mono ?_
        rintro e w1 ⟨⟨i, rfl, hi⟩, rfl⟩
        go_wp2_with fail
        go_ret
        exact ⟨rfl, rfl⟩
      · have e : has K key = false := by simp [has, h0, h1, h2]
        rw [e]
        have H2 := Lib.hid (qhas_no hi hs (r := 2) (by omega) h2)
        clear hm hs hi h0 h1 h2 e HA
        go_enter Tryz.func17, Tryz.ntmps17
        go_wp2_with fail
        refine H0.out.mono ?_
        rintro e w1 ⟨rfl, rfl⟩
        go_wp2_with fail
        refine H1.out.mono ?_
        rintro e w1 ⟨rfl, rfl⟩
        go_wp2_with fail
        refine H2.out.mono ?_
        rintro e w1 ⟨rfl, rfl⟩
        go_wp2_with fail
        go_ret
        exact ⟨rfl, rfl⟩

/-- The sketch or the door went on. -/
theorem RM.ntsn {H' : Nat → Prop} {N' : Nt} {kc dc : Nat} (h : RM w0 b c F v Fs K kb db H N w) (hn : Rts w' kb kc db dc c H' N') (hu : Upd H w w') (hg : ∀ k, H' k → H k ∨ w.heap.size ≤ k) : RM w0 b c F v Fs K kb db H' N' w' := by
  have hbl := lt_of_block h.blk
  refine ⟨hu.get h.blk h.hb, fun r hr => (h.sl r hr).upd hu (fun k hk hh => h.nh r hr k hk hh), h.sep, h.nb, fun r hr k hk => Nat.lt_of_lt_of_le (h.lt r hr k hk) hu.size, h.fb, h.flt, h.upd.then hu (fun i hi hh => (h.hgrow i hh).resolve_right (by omega)), h.grow, ⟨kc, dc, hn⟩, ?_, ?_, ?_⟩
  · intro r hr k hk hh
    rcases hg k hh with h1 | h1
    · exact h.nh r hr k hk h1
    · have := h.lt r hr k hk; omega
  · intro hh
    rcases hg b hh with h1 | h1
    · exact h.hb h1
    · omega
  · intro k hk
    rcases hg k hk with h1 | h1
    · exact h.hgrow k h1
    · exact .inr (Nat.le_trans h.upd.size h1)
theorem Rts.dset {kc dc : Nat} (h : Rts w kb kc db dc c H N) {B' : List Bool} (hd : Do.Rd w' db dc (mm c) B') (hu : Upd (· = dc) w w') : Rts w' kb kc db dc c H ⟨N.C, N.s, B'⟩ ∧ Upd H w w' :=
  ⟨⟨h.sq.upd hu h.n3 h.n4, hd, h.n1, h.n2, h.n3, h.n4, h.h1, h.h2, h.h3, h.h4, fun k hk => Nat.lt_of_lt_of_le (h.lt k hk) hu.size⟩, hu.mono (fun k _ e => by rw [e]; exact h.h4)⟩
theorem Rts.sset {kc dc : Nat} (h : Rts w kb kc db dc c H N) {C' : List Nat} {s' : Int} (hs : Sr.Rf w' kb kc (nn c) C' s') (hu : Upd (Sk.BC kb kc) w w') : Rts w' kb kc db dc c H ⟨C', s', N.B⟩ ∧ Upd H w w' := by
  refine ⟨⟨hs, h.dq.upd hu ?_ ?_, h.n1, h.n2, h.n3, h.n4, h.h1, h.h2, h.h3, h.h4, fun k hk => Nat.lt_of_lt_of_le (h.lt k hk) hu.size⟩, hu.mono ?_⟩
  · rintro (e | e)
    · exact h.n1 e.symm
    · exact h.n2 e.symm
  · rintro (e | e)
    · exact h.n3 e.symm
    · exact h.n4 e.symm
  · rintro k _ (e | e)
    · rw [e]; exact h.h1
    · rw [e]; exact h.h2
theorem Rts.dclr {kc dc dc' : Nat} (h : Rts w kb kc db dc c H N) (hc : w.heap.size ≤ dc') {B' : List Bool} (hd : Do.Rd w' db dc' (mm c) B') (hu : Upd (· = db) w w') :
    Rts w' kb kc db dc' c (fun k => H k ∨ k = dc') ⟨N.C, N.s, B'⟩ ∧ Upd H w w' := by
  have l1 := h.lt _ h.h1
  have l2 := h.lt _ h.h2
  have ldc := lt_of_block hd.row
  refine ⟨⟨h.sq.upd hu h.n1 h.n2, hd, h.n1, h.n2, by omega, by omega, .inl h.h1, .inl h.h2, .inl h.h3, .inr rfl, ?_⟩, hu.mono (fun k _ e => by rw [e]; exact h.h3)⟩
  rintro k (hk | rfl)
  · exact Nat.lt_of_lt_of_le (h.lt k hk) hu.size
  · exact ldc

/-- What a note leaves. -/
def RNPost (w0 : World) (b c : Nat) (F : Nat → Prop) (v : Nat → Value) (Fs : Nat → Nat → Prop) (K : Rs) (kb db : Nat) (N' : Nt) (e : Ending) (w' : World) : Prop :=
  e = .returned (.tuple #[]) ∧ ∃ H', RM w0 b c F v Fs K kb db H' N' w'

set_option maxHeartbeats 800000 in
theorem rnote_at (h : RM w0 b c F v Fs K kb db H N w) (hN : 0 ≤ N.s ∧ N.s < 10 * (nn c : Int)) {key : ByteArray} (hk : key.size ≤ 40) :
    Calls Tryz.prog 62 #[.pointer (some ⟨b, 0, none⟩), .string key] w (RNPost w0 b c F v Fs K kb db (ntS c N key)) := by
  obtain ⟨kc, dc, hx⟩ := h.note
  obtain ⟨c0, c1, c2, c3, c4, c5⟩ := h.cells
  have AD := Lib.hid (Do.add_rd key hx.dq (by omega))
  have HM := Lib.hid h
  have HX := Lib.hid hx
  have HN := Lib.hid hN
  have HNO := Lib.hid (fun (h : Do.has (mm c) N.B key = false) => ntS_no (c := c) (N := N) h)
  have HYES := Lib.hid (fun (h : Do.has (mm c) N.B key = true) => ntS_yes (c := c) (N := N) h)
  clear h hx hN
  unfold Do.RAddPost at AD
  cases hh : Do.has (mm c) N.B key with
  | false =>
    have HE := Lib.hid (HNO.out hh)
    rw [hh] at AD
    clear hh HNO HYES
    go_enter Tryz.func62, Tryz.ntmps62
    go_wp2_with fail
    refine AD.out.mono ?_
    rintro e w1 ⟨rfl, hd1, hu1⟩
    obtain ⟨hx1, hn1⟩ := HX.out.dset hd1 hu1
    have HM1 := Lib.hid (HM.out.ntsn hx1 hn1 (fun _ h => .inl h))
    clear hd1 hu1 hx1 hn1
    go_wp2_with fail
    go_end0
    unfold RNPost
    rw [HE.out]
    exact ⟨rfl, _, HM1.out⟩
  | true =>
    have HE := Lib.hid (HYES.out hh)
    rw [hh] at AD
    clear hh HNO HYES
    generalize hB : Do.addB (mm c) N.B key = B' at *
    generalize hA : Sk.addS (nn c) key (N.C, N.s) = A at *
    have HA := Lib.hid hA
    clear hA hB
    go_enter Tryz.func62, Tryz.ntmps62
    go_wp2_with fail
    refine AD.out.mono ?_
    rintro e w1 ⟨rfl, hd1, hu1⟩
    obtain ⟨hx1, hn1⟩ := HX.out.dset hd1 hu1
    have HM1 := Lib.hid (HM.out.ntsn hx1 hn1 (fun _ h => .inl h))
    have HX1 := Lib.hid hx1
    obtain ⟨d0, d1, d2, d3, d4, d5⟩ := HM1.out.cells
    obtain ⟨s0, s1, s2, sfr⟩ := cells3 hx1.sq.obj
    clear hd1 hu1 hx1 hn1
    go_wp2_with fail
    refine (Sr.add_rf _ _ _ _ _ key _ HX1.out.sq (by omega) HN.out.1 HN.out.2).mono ?_
    rintro e w3 ⟨rfl, hs3, hu3⟩
    rw [HA.out] at hs3
    obtain ⟨hx3, hn3⟩ := HX1.out.sset hs3 hu3
    have HM3 := Lib.hid (HM1.out.ntsn hx3 hn3 (fun _ h => .inl h))
    have HX3 := Lib.hid hx3
    obtain ⟨e0, e1, e2, e3, e4, e5⟩ := HM3.out.cells
    obtain ⟨t0, t1, t2, tfr⟩ := cells3 hx3.sq.obj
    clear hs3 hu3 hx3 hn3
    by_cases hlt : A.2 < N.s
    · rw [if_pos hlt] at HE
      go_wp2_with fail
      refine (Do.clear_rd HX3.out.dq).mono ?_
      rintro e w5 ⟨rfl, dc', hc5, hd5, hu5⟩
      obtain ⟨hx5, hn5⟩ := HX3.out.dclr hc5 hd5 hu5
      have HM5 := Lib.hid (HM3.out.ntsn hx5 hn5 (fun k h => h.imp id (fun e => by omega)))
      clear hd5 hu5 hx5 hn5 hc5
      go_wp2_with fail
      go_end0
      unfold RNPost
      rw [HE.out]
      exact ⟨rfl, _, HM5.out⟩
    · rw [if_neg hlt] at HE
      go_wp2_with fail
      go_end0
      unfold RNPost
      rw [HE.out]
      exact ⟨rfl, _, HM3.out⟩

theorem rnoted_at {K : Ks} (h : RM w0 b c F v Fs K.r kb db H (nts c K.h) w) {key : ByteArray} (hk : key.size ≤ 40) :
    Calls Tryz.prog 62 #[.pointer (some ⟨b, 0, none⟩), .string key] w fun e w' => e = .returned (.tuple #[]) ∧ ∃ H', RM w0 b c F v Fs K.r kb db H' (nts c (K.h ++ [key])) w' :=
  (rnote_at h (nts_range c K.h) hk).mono fun _ _ ⟨he, H', hm⟩ => ⟨he, H', by rw [nts_snoc]; exact hm⟩

theorem roften_at {l : List ByteArray} (h : RM w0 b c F v Fs K kb db H (nts c l) w) {key : ByteArray} (hk : key.size ≤ 40) :
    Calls Tryz.prog 88 #[.pointer (some ⟨b, 0, none⟩), .string key] w fun e w' => e = .returned (.int .i64 (often c l key : Int)) ∧ Below w.heap.size w w' := by
  obtain ⟨kc, dc, hx⟩ := h.note
  obtain ⟨c0, c1, c2, c3, c4, c5⟩ := h.cells
  have CT := Lib.hid (Sr.count_rf _ _ _ _ _ key _ hx.sq (by omega))
  have HM := Lib.hid h
  have HX := Lib.hid hx
  have hO : often c l key = Sk.cnt (nn c) (nts c l).C key + if Do.has (mm c) (nts c l).B key = true then 1 else 0 := rfl
  have hle := Sk.cnt_le (nn c) (nts c l).C key
  generalize Sk.cnt (nn c) (nts c l).C key = n at *
  have HO := Lib.hid hO
  clear h hx hO
  go_enter Tryz.func88, Tryz.ntmps88
  go_wp2_with fail
  refine CT.out.mono ?_
  rintro e w1 ⟨rfl, hb1⟩
  have HB1 := Lib.hid hb1
  have HM1 := Lib.hid (HM.out.below hb1)
  have DQ := Lib.hid (Do.has_rd key (HX.out.dq.below hb1) (by omega))
  obtain ⟨d0, d1, d2, d3, d4, d5⟩ := HM1.out.cells
  clear hb1
  have e1 : wrap64 ((n : Int) + 1) = ((n + 1 : Nat) : Int) := by unfold wrap64; omega
  cases hh : Do.has (mm c) (nts c l).B key with
  | false =>
    rw [hh] at DQ HO
    clear hh
    go_wp2_with fail
    refine DQ.out.mono ?_
    rintro e w2 ⟨rfl, q, rfl⟩
    go_wp2_with fail
    go_ret
    rw [HO.out]
    exact ⟨rfl, below_drewN HB1.out _⟩
  | true =>
    rw [hh] at DQ HO
    clear hh
    go_wp2_with fail
    refine DQ.out.mono ?_
    rintro e w2 ⟨rfl, q, rfl⟩
    go_wp2_with fail
    go_ret
    rw [HO.out]
    exact ⟨ret_int (by simp), below_drewN HB1.out _⟩
end

end Go.Proofs.YtkeicfajlmhajaaGreat.Rf
