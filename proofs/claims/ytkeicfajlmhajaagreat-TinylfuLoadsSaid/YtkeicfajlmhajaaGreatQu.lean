/- TinyLFU's reference in memory: admit. -/
import Derived.Test.YtkeicfajlmhajaaGreatQt
namespace Go.Proofs.YtkeicfajlmhajaaGreat.Rf
open Go Go.RowKit Go.Proofs.YtkeicfajlmhajaaGreat.K Go.Proofs.YtkeicfajlmhajaaGreat.Sl Go.Proofs.YtkeicfajlmhajaaGreat.Eg
open Go.Proofs.YtkeicfajlmhajaaGreat.Li (more more_lt own_form' infoS)
open Go.Proofs.YtkeicfajlmhajaaGreat.Rw (upd upd_same upd_other less less_same cell_below cell_upd own_mono own_below)

section
variable {w0 w w' : World} {b c : Nat} {F : Nat → Prop} {v : Nat → Value} {Fs : Nat → Nat → Prop} {K : Rs} {kb db : Nat} {H : Nat → Prop} {N : Nt}

/-- What admit leaves. -/
def RAdmPost (w0 : World) (b c : Nat) (F : Nat → Prop) (kb db : Nat) (H : Nat → Prop) (M : List ByteArray × Ks) (w : World) (e : Ending) (w' : World) : Prop :=
  ∃ z v Fs, e = .returned z ∧ RM w0 b c F v Fs M.2.r kb db H (nts c M.2.h) w' ∧ Eg.Lit M.1 w' z ∧ w.heap.size ≤ w'.heap.size

theorem admit_h (c : Nat) (K : Ks) : (admit c K).2.h = K.h := by
  unfold admit
  split
  · rfl
  · split <;> rfl

theorem alloc_at (w : World) (o : Obj) {n : Nat} (hn : w.heap.size = n) : (w.alloc o).heap[n]? = some o := by subst hn; exact heap_alloc_new w o
theorem RM.far_cell {g o : Nat} {y : ByteArray} (h : RM w0 b c F v Fs K kb db H N w) (hc : w.cell? ⟨g, o, none⟩ = some (.string y)) : g ≠ b := by
  rintro rfl
  rw [cell_of h.blk] at hc
  obtain ⟨a0, p0, e0, -⟩ := (h.sl 0 (by omega)).form
  obtain ⟨a1, p1, e1, -⟩ := (h.sl 1 (by omega)).form
  obtain ⟨a2, p2, e2, -⟩ := (h.sl 2 (by omega)).form
  rw [e0, e1, e2] at hc
  match o, hc with
  | 0, hc => simp at hc
  | 1, hc => simp at hc
  | 2, hc => simp at hc
  | 3, hc => simp at hc
  | 4, hc => simp at hc
  | 5, hc => simp at hc
  | o + 6, hc => simp at hc

/-- One row is another slice, in the same world. -/
theorem RM.put (h : RM w0 b c F v Fs K kb db H N w) {r : Nat} (hr : r < 3) {v' : Value} {F' : Nat → Prop} {xs : List ByteArray} (hs : Sl w v' F' xs) (h1 : ∀ k, F' k → w0.heap.size ≤ k ∧ k < w.heap.size)
    (h2 : ∀ q, q < 3 → q ≠ r → ∀ k, F' k → ¬ Fs q k) (h3 : ¬ F' b) (h4 : ∀ k, F' k → ¬ H k) :
    RM w0 b c F (Rw.upd v r v') (Rw.upd Fs r F') (Rw.upd K r xs) kb db H N (w.setCell ⟨b, r, none⟩ v') := by
  have hsz : (w.setCell ⟨b, r, none⟩ v').heap.size = w.heap.size := by simp [World.setCell]
  have hu2 : Upd (· = b) w (w.setCell ⟨b, r, none⟩ v') := (Upd.refl _ _).setB
  have hnb : ∀ q, q < 3 → ¬ Rw.upd Fs r F' q b := by
    intro q hq
    by_cases e : q = r
    · subst e; rw [upd_same]; exact h3
    · rw [upd_other _ _ e]; exact h.nb q hq
  obtain ⟨kc, dc, hnt⟩ := h.note
  refine ⟨?_, ?_, ?_, hnb, ?_, h.fb, h.flt, h.upd.setCell (p := ⟨b, r, none⟩) (.inl h.fb) _, ?_, ⟨kc, dc, hnt.upd hu2 (fun k hk e => h.hb (by rw [← e]; exact hk))⟩, ?_, h.hb, h.hgrow⟩
  · rw [block_setCell h.blk]
    match r, hr with
    | 0, _ => rfl
    | 1, _ => rfl
    | 2, _ => rfl
  · intro q hq
    refine Sl.upd ?_ hu2 (fun k hk e => hnb q hq (by rw [← e]; exact hk))
    by_cases e : q = r
    · subst e; rw [upd_same, upd_same, upd_same]; exact hs
    · rw [upd_other _ _ e, upd_other _ _ e, upd_other _ _ e]; exact h.sl q hq
  · intro p q hp hq hne k hk hk'
    by_cases e : p = r
    · subst e
      rw [upd_same] at hk
      rw [upd_other _ _ (Ne.symm hne)] at hk'
      exact h2 q hq (Ne.symm hne) k hk hk'
    · rw [upd_other _ _ e] at hk
      by_cases e2 : q = r
      · rw [e2, upd_same] at hk'
        exact h2 p hp e k hk' hk
      · rw [upd_other _ _ e2] at hk'
        exact h.sep p q hp hq hne k hk hk'
  · intro q hq k hk
    rw [hsz]
    by_cases e : q = r
    · subst e; rw [upd_same] at hk; exact (h1 k hk).2
    · rw [upd_other _ _ e] at hk; exact h.lt q hq k hk
  · intro q hq k hk
    by_cases e : q = r
    · subst e; rw [upd_same] at hk; exact .inr (h1 k hk).1
    · rw [upd_other _ _ e] at hk; exact h.grow q hq k hk
  · intro q hq k hk hh
    by_cases e : q = r
    · subst e; rw [upd_same] at hk; exact h4 k hk hh
    · rw [upd_other _ _ e] at hk; exact h.nh q hq k hk hh

/-- What a cut in the midst of a statement leaves. -/
def CutW (w4 : World) (b : Nat) (x1 x2 : Value) (q : Nat) (xs : List ByteArray) (W : World) (e : Ending) (w' : World) : Prop :=
  ∃ A5 c5, e = .returned (.slice A5 q c5) ∧ Hid (w'.ownsRow W.heap.size 9 1 (.slice A5 q c5) q (xs.map .string)) ∧ Hid (Below w4.heap.size w4 w') ∧ Hid (Below W.heap.size W w') ∧
    (w'.cell? ⟨b, 1, none⟩ = some x1 ∧ w'.cell? ⟨b, 2, none⟩ = some x2 ∧ (∀ o, w'.frozen? ⟨b, o, none⟩ = false)) ∧ (∀ ob : Obj, (w'.alloc ob).cell? ⟨b, 1, none⟩ = some x1 ∧ (w'.alloc ob).cell? ⟨b, 2, none⟩ = some x2)
theorem cut_w {w4 : World} (h : RM w0 b c F v Fs K kb db H N w4) (hl : ∀ q, q < 3 → (K q).length ≤ 80000) {r : Nat} (hr : r < 3) {A : Option Addr} {n p : Nat} (hv : v r = .slice A n p) {x1 x2 : Value} (hx1 : v 1 = x1) (hx2 : v 2 = x2) (y : ByteArray) {q : Nat} (hq : (without (K r) y).length = q) (W : World) (hb : Below w4.heap.size w4 W) :
    Calls Tryz.prog 63 #[.slice A n p, .string y] W (CutW w4 b x1 x2 q (without (K r) y) W) := by
  subst hq hx1 hx2
  have hW := h.below hb
  obtain ⟨A', p', hrs⟩ := hW.rs
  have e := (hrs.v_ r hr).symm.trans hv
  injection e with e1 e2 e3
  subst e1 e2 e3
  refine (rcut hl hrs hr y).mono ?_
  rintro e w' ⟨v', rfl, ho, hb', -⟩
  obtain ⟨A5, c5, rfl⟩ := own_form' ho
  have h5 := hW.below hb'
  refine ⟨A5, c5, rfl, Lib.hid ho, Lib.hid (below_next hb hb'), Lib.hid hb', ⟨h5.cells.2.1, h5.cells.2.2.1, h5.wr⟩, fun ob => ?_⟩
  have h6 := h5.below ((Below.refl _ _).alloc (Nat.le_refl _) ob)
  exact ⟨h6.cells.2.1, h6.cells.2.2.1⟩

theorem without_comm (l : List ByteArray) (x y : ByteArray) : without (without l x) y = without (without l y) x := by
  unfold without
  rw [List.filter_filter, List.filter_filter]
  congr 1
  funext k
  rw [Bool.and_comm]
theorem admit_end {w4 w6 w7 : World} {x y : ByteArray} {v6 v7 : Value} {B6 n6 n7 : Nat} (h : RM w0 b c F v Fs (less K x) kb db H N w4) (hs : Sep K) {r : Nat} (hr : r < 3) (hr0 : r ≠ 0) (hy : y ∈ K r)
    (ho6 : w6.ownsRow B6 9 1 v6 n6 ((without (less K x 1) y).map .string ++ [.string x])) (hz6 : ∀ k, v6.ownBlock = some k → w4.heap.size ≤ k) (hb6 : Below w4.heap.size w4 w6)
    (hb7 : Below w6.heap.size w6 w7) (ho7 : w7.ownsRow w6.heap.size 9 1 v7 n7 ((without (less K x 2) y).map .string)) :
    ∃ v' Fs', RM w0 b c F v' Fs' (push (less K y) 1 x) kb db H N ((w7.setCell ⟨b, 1, none⟩ v6).setCell ⟨b, 2, none⟩ v7) := by
  have h7 := (h.below hb6).below hb7
  have hbl := lt_of_block h.blk
  have s0 := h.upd.size
  have s6 := hb6.size
  have o6 := own_below ho6 hb7
  have e6 : (without (less K x 1) y).map Value.string ++ [.string x] = (without (less K x 1) y ++ [x]).map .string := by simp
  rw [e6] at o6
  have p1 := h7.put (r := 1) (by omega) (Sl.of_own (F := fun j => v6.ownBlock = some j) o6 (fun _ h => h)) (fun k hk => ⟨Nat.le_trans s0 (hz6 k hk), (o6.lt k hk).2⟩)
    (fun q hq _ k hk hf => by have := h.lt q hq k hf; have := hz6 k hk; omega) (fun hk => by have := hz6 b hk; omega) (fun k hk hh => by have := h.hlt k hh; have := hz6 k hk; omega)
  have hu2 : Upd (· = b) w7 (w7.setCell ⟨b, 1, none⟩ v6) := (Upd.refl _ _).setB
  have hsz : (w7.setCell ⟨b, 1, none⟩ v6).heap.size = w7.heap.size := by simp [World.setCell]
  have l7 : ∀ k, v7.ownBlock = some k → w6.heap.size ≤ k ∧ k < w7.heap.size := fun k hk => ho7.lt k hk
  have s7 := (Sl.of_own (F := fun j => v7.ownBlock = some j) ho7 (fun _ h => h)).upd hu2 (fun k hk e => by have := (l7 k hk).1; have e' : k = b := e; omega)
  have p2 := p1.put (r := 2) (by omega) s7 (fun k hk => ⟨by have := (l7 k hk).1; omega, by rw [hsz]; exact (l7 k hk).2⟩)
    (fun q hq hne k hk hf => by
      have l := (l7 k hk).1
      by_cases e : q = 1
      · subst e; rw [upd_same] at hf; have := (ho6.lt k hf).2; omega
      · rw [upd_other _ _ e] at hf; have := h.lt q hq k hf; omega)
    (fun hk => by have := (l7 b hk).1; omega) (fun k hk hh => by have := h.hlt k hh; have := (l7 k hk).1; omega)
  refine ⟨_, _, p2.same (fun q hq => ?_)⟩
  have hny : y ∉ K 0 := fun hh => hr0 (hs.once r 0 hr (by omega) y hy hh)
  by_cases e2 : q = 2
  · subst e2
    rw [upd_same, push_ne _ _ (by omega)]
    exact without_comm (K 2) x y
  · by_cases e1 : q = 1
    · subst e1
      rw [upd_other _ _ (by omega), upd_same, push_at]
      exact congrArg (· ++ [x]) (without_comm (K 1) x y)
    · have e0 : q = 0 := by omega
      subst e0
      rw [upd_other _ _ (by omega), upd_other _ _ (by omega), push_ne _ _ (by omega)]
      show less K x 0 = without (less K y 0) x
      rw [less_same hny]
      rfl

set_option maxRecDepth 100000 in
set_option maxHeartbeats 3200000 in
theorem radmit_at {l : List ByteArray} (hs : Sep K) (hl : ∀ q, q < 3 → (K q).length ≤ 2000) (h0 : 0 < (K 0).length) (hc1 : 1 ≤ c) (hc : c ≤ 1024) (h : RM w0 b c F v Fs K kb db H (nts c l) w) :
    Calls Tryz.prog 66 #[.pointer (some ⟨b, 0, none⟩)] w (RAdmPost w0 b c F kb db H (admit c ⟨K, l⟩) w) := by
  have hl8 : ∀ q, q < 3 → (K q).length ≤ 80000 := fun q hq => by have := hl q hq; omega
  obtain ⟨t, ht⟩ := oldest_cons (K 0) h0
  obtain ⟨x, hx⟩ : ∃ x, oldest (K 0) = x := ⟨_, rfl⟩
  have hxm : oldest (K 0) ∈ K 0 := oldest_mem h0
  rw [hx] at ht hxm
  have hxs : x.size ≤ 40 := hs.small 0 (by omega) _ hxm
  obtain ⟨n, hn⟩ : ∃ n, (K 1).length + (K 2).length = n := ⟨_, rfl⟩
  obtain ⟨y, hy⟩ : ∃ y, oldest (K (vict K)) = y := ⟨_, rfl⟩
  obtain ⟨M, hM⟩ : ∃ M, admit c ⟨K, l⟩ = M := ⟨_, rfl⟩
  have hMd : M = if n < mainr c then ([], ⟨push K 1 x, l⟩) else if n = 0 ∨ often c l x ≤ often c l y then ([x], ⟨less K x, l⟩) else ([y], ⟨push (less K y) 1 x, l⟩) := by
    rw [← hM, ← hx, ← hy, ← hn]; rfl
  rw [hM]
  have A1 := Lib.hid (fun (h : n < mainr c) => hMd.trans (if_pos h))
  have A2 := Lib.hid (fun (h : ¬ n < mainr c) (h2 : n = 0 ∨ often c l x ≤ often c l y) => hMd.trans ((if_neg h).trans (if_pos h2)))
  have A3 := Lib.hid (fun (h : ¬ n < mainr c) (h2 : ¬ (n = 0 ∨ often c l x ≤ often c l y)) => hMd.trans ((if_neg h).trans (if_neg h2)))
  have HN := Lib.hid hn
  have HYV : Hid (0 < n → y ∈ K (vict K) ∧ 0 < (K (vict K)).length) := Lib.hid (fun hp => by
    have h2 := vict_some (R := K) (by unfold ln; omega)
    exact ⟨hy ▸ oldest_mem h2, h2⟩)
  have HY0 : Hid (∀ r, r = vict K → 0 < (K r).length → ∃ t, K r = y :: t) := Lib.hid (fun r hr h2 => by
    subst hr
    obtain ⟨t, ht⟩ := oldest_cons _ h2
    rw [hy] at ht
    exact ⟨t, ht⟩)
  have OF := Lib.hid (fun (w1 : World) (v : Nat → Value) (Fs : Nat → Nat → Prop) (K : Rs) (h : RM w0 b c F v Fs K kb db H (nts c l) w1) (k : ByteArray) (hk : k.size ≤ 40) => roften_at h hk)
  have HT := Lib.hid ht
  have HXM := Lib.hid hxm
  have HSK := Lib.hid hs
  have HUL := Lib.hid (upd_less hs (r := 0) (by omega) hxm)
  have HLL := Lib.hid hl
  have HL1 := Lib.hid (hl 1 (by omega))
  have HL2 := Lib.hid (hl 2 (by omega))
  have hl1 := hl 1 (by omega)
  have hl2 := hl 2 (by omega)
  have hmr : mainr c ≤ 1024 := by unfold mainr; omega
  have LN1 : Hid ((less K x 1).length ≤ 1000000) := Lib.hid (by have := Rw.less_length K x 1; omega)
  obtain ⟨A, p, hr⟩ := h.rs
  obtain ⟨g, o, hA, hcell⟩ := first_cell hr (r := 0) (by omega) ht
  have c0 := hr.c0
  have CT := rcut hl8 hr (r := 0) (by omega) x
  rw [hA] at c0 CT
  have CUT := Lib.hid CT
  have HM := Lib.hid h
  have z0 : (0 : Int) < ((K 0).length : Int) := by omega
  clear h hs hl hl8 ht hx hxm hM hMd hr hA CT
  generalize p 0 = p0 at *
  generalize (K 0).length = n0 at *
  go_enter Tryz.func66, Tryz.ntmps66
  go_wp2_with fail
  refine CUT.out.mono ?_
  rintro e w1 ⟨v', rfl, ho, hb1, -⟩
  obtain ⟨A', c', rfl⟩ := own_form' ho
  have HM1 := Lib.hid (HM.out.below hb1)
  have HE := Lib.hid ((HM.out.cutted (r := 0) (by omega) hb1 ho).same HUL.out)
  have HZ1 : Hid (w.heap.size ≤ w1.heap.size) := Lib.hid hb1.size
  obtain ⟨A, p, hr⟩ := HM1.out.rs
  have d0 := hr.c0
  have d1 := hr.c1
  have d2 := hr.c2
  have df := HM1.out.wr
  have hv1 := hr.v_ 1 (by omega)
  have hv2 := hr.v_ 2 (by omega)
  have MN := Lib.hid (rmain_q HE.out hc1 hc)
  clear ho hb1 hr
  generalize A 1 = a1 at *
  generalize p 1 = p1 at *
  generalize A 2 = a2 at *
  generalize p 2 = p2 at *
  generalize A 0 = a0 at *
  generalize p 0 = p0' at *
  obtain ⟨n1, hn1⟩ : ∃ n, (K 1).length = n := ⟨_, rfl⟩
  obtain ⟨n2, hn2⟩ : ∃ n, (K 2).length = n := ⟨_, rfl⟩
  rw [hn1] at d1 hv1 hn hl1
  rw [hn2] at d2 hv2 hn hl2
  have HV1 := Lib.hid hv1
  have HV2 := Lib.hid hv2
  clear hv1 hv2
  have HN1 := Lib.hid hn1
  have HN2 := Lib.hid hn2
  clear hn1 hn2
  have w12 : IntKind.i64.wrap ((n1 : Int) + (n2 : Int)) = (n1 : Int) + (n2 : Int) := IntWalk.i64_in _ (by omega)
  have v12 : wrap64 ((n1 : Int) + (n2 : Int)) = (n1 : Int) + (n2 : Int) := by unfold wrap64; omega
  generalize hmrc : mainr c = mr at *
  by_cases h1 : n < mr
  · have d12 : (n1 : Int) + (n2 : Int) < (mr : Int) := by omega
    have HMM := Lib.hid (A1.out h1)
    clear A1 A2 A3
    go_wp2_with fail
    go_quiet ((go_at_call 67; exact Do.quiet_any (MN.out _)))
    have HE2 := Lib.hid (HE.out.drewN nq)
    have sl := HE2.out.sl 1 (by omega)
    rw [upd_other _ _ (by omega), HV1.out] at sl
    have SL := Lib.hid sl
    have LT := Lib.hid (HE2.out.lt 1 (by omega))
    clear sl
    go_wp2_with (at_builtin; refine wpList_push rfl _ _ rfl SL.out LN1.out LT.out x 1 w1.heap.size (by simp) rfl rfl ?_; intro v2 w2 hp; obtain ⟨A'', c'', hv, -⟩ := hp.sl.form; subst hv; have HP := Lib.hid hp; have HB2 := Lib.hid (hp.upd.get HE2.out.blk (HE2.out.nb 1 (by omega))); have q2 := cell_of HB2.out 1; have qf := free_of HB2.out; clear hp)
    go_ret
    have h3 := HE2.out.pushed (r := 1) (by omega) HP.out
    have hz : w.heap.size ≤ w2.heap.size := by have h4 := HP.out.upd.size; have h5 := HZ1.out; simp at h4; omega
    rw [HMM.out]
    first
      | exact ⟨_, _, _, rfl, h3, .inl ⟨rfl, rfl⟩, by simpa using hz⟩
      | (rw [List.length_append, List.length_singleton] at h3; exact ⟨_, _, _, rfl, h3, .inl ⟨rfl, rfl⟩, by simpa using hz⟩)
  · have d12 : ¬ (n1 : Int) + (n2 : Int) < (mr : Int) := by omega
    have A2' := Lib.hid (fun h2 => A2.out h1 h2)
    have A3' := Lib.hid (fun h2 => A3.out h1 h2)
    clear A1 A2 A3
    by_cases hn0 : n = 0
    · have HMM := Lib.hid (A2'.out (.inl hn0))
      have e12 : (n1 : Int) + (n2 : Int) = 0 := by omega
      have f12 : ((n1 : Int) + (n2 : Int) == 0) = true := by simpa using e12
      go_wp2_with fail
      go_quiet ((go_at_call 67; exact Do.quiet_any (MN.out _)))
      go_wp2_with fail
      go_quiet (fail)
      go_wp2_with fail
      go_ret
      rw [HMM.out]
      refine ⟨_, _, _, rfl, (HE.out.drewN _).below ((Below.refl _ _).alloc (Nat.le_refl _) _), .inr ⟨_, _, rfl, rfl, alloc_at _ _ (by simp)⟩, ?_⟩
      have := HZ1.out
      simp
      omega
    · have f12 : ((n1 : Int) + (n2 : Int) == 0) = false := by simp; omega
      have hyv := HYV.out (by omega)
      have hys : y.size ≤ 40 := HSK.out.small _ (vict_lt K) _ hyv.1
      have hvk : vict K = if 0 < n1 then 1 else 2 := by
        have h1 := HN1.out
        have h2 := HN2.out
        unfold vict
        rw [h1, h2]
        by_cases e : 0 < n1
        · rw [if_pos e, if_pos e]
        · rw [if_neg e, if_neg e, if_pos (by omega)]
      have HVK := Lib.hid hvk
      have HYM := Lib.hid hyv.1
      generalize often c l = of at *
      by_cases e1 : n1 = 0
      · have hv2 : vict K = 2 := by rw [hvk, if_neg (by omega)]
        obtain ⟨t2, ht2⟩ := HY0.out 2 hv2.symm (by rw [HN2.out]; omega)
        obtain ⟨A, p, hr⟩ := HM1.out.rs
        obtain ⟨g2, o2, hA2, hc2⟩ := first_cell hr (r := 2) (by omega) ht2
        have hA3 := (hr.v_ 2 (by omega)).symm.trans HV2.out
        rw [hA2] at hA3
        injection hA3 with hA4 _ _
        subst hA4
        have hgb := HM1.out.far_cell hc2
        have HYR := Lib.hid (hv2 ▸ hyv.1)
        clear hr hA2 ht2 hvk hyv
        have f1 : ((n1 : Int) == 0) = true := by simp; omega
        have z2 : (0 : Int) < (n2 : Int) := by omega
        have z3 : 0 < n2 := by omega
        go_wp2_with fail
        go_quiet ((go_at_call 67; exact Do.quiet_any (MN.out _)))
        go_wp2_with fail
        go_quiet (fail)
        go_wp2_with fail
        refine (OF.out _ _ _ _ (HE.out.drewN _) x hxs).mono ?_
        rintro e w3 ⟨rfl, hb3⟩
        have HM3 := Lib.hid ((HE.out.drewN _).below hb3)
        have HZ3 : Hid (w.heap.size ≤ w3.heap.size) := Lib.hid (by have h4 := hb3.size; have h5 := HZ1.out; simp at h4; omega)
        clear hb3
        go_wp2_with fail
        refine (OF.out _ _ _ _ HM3.out y hys).mono ?_
        rintro e w4 ⟨rfl, hb4⟩
        have HM4 := Lib.hid (HM3.out.below hb4)
        have HZ4 : Hid (w.heap.size ≤ w4.heap.size) := Lib.hid (Nat.le_trans HZ3.out hb4.size)
        clear hb4
        by_cases ho : of x ≤ of y
        · have HMM := Lib.hid (A2'.out (.inr ho))
          have dxy : decide (of x ≤ of y) = true := by simpa using ho
          go_wp2_with fail
          go_ret
          rw [HMM.out]
          exact ⟨_, _, _, rfl, HM4.out.below ((Below.refl _ _).alloc (Nat.le_refl _) _), .inr ⟨_, _, rfl, rfl, heap_alloc_new _ _⟩, by have := HZ4.out; simp; omega⟩
        · have HMM := Lib.hid (A3'.out (by rintro (e | e); exact hn0 e; exact ho e))
          have dxy : decide (of x ≤ of y) = false := by simpa using ho
          have hll : ∀ q, q < 3 → (less K x q).length ≤ 80000 := fun q hq => by
            have h2 := Rw.less_length K x q
            have h3 := HLL.out q hq
            omega
          have c1 := HM4.out.cells.2.1
          have c2 := HM4.out.cells.2.2.1
          have cf := HM4.out.wr
          obtain ⟨q1, hq1⟩ : ∃ q, (without (less K x 1) y).length = q := ⟨_, rfl⟩
          obtain ⟨q2, hq2⟩ : ∃ q, (without (less K x 2) y).length = q := ⟨_, rfl⟩
          have hw1 := (upd_other v (.slice A' (without (K 0) x).length c') (show (1 : Nat) ≠ 0 by omega)).trans HV1.out
          have hw2 := (upd_other v (.slice A' (without (K 0) x).length c') (show (2 : Nat) ≠ 0 by omega)).trans HV2.out
          rw [e1] at hw1
          have K1 := Lib.hid (cut_w HM4.out hll (r := 1) (by omega) hw1 hw1 hw2 y hq1)
          have K2 := Lib.hid (cut_w HM4.out hll (r := 2) (by omega) hw2 hw1 hw2 y hq2)
          have ql1 : q1 ≤ 80000 := by rw [← hq1]; exact Nat.le_trans (List.length_filter_le _ _) (hll 1 (by omega))
          have ql2 : q2 ≤ 80000 := by rw [← hq2]; exact Nat.le_trans (List.length_filter_le _ _) (hll 2 (by omega))
          rw [upd_other _ _ (by omega), HV1.out, e1] at c1
          rw [upd_other _ _ (by omega), HV2.out] at c2
          have g1 : ∀ ob : Obj, (w4.drew.alloc ob).cell? ⟨b, 1, none⟩ = w4.cell? ⟨b, 1, none⟩ := fun ob => by
            have h6 := HM4.out.below ((below_drewN (Below.refl _ _) 1).alloc (Nat.le_refl _) ob)
            exact h6.cells.2.1.trans HM4.out.cells.2.1.symm
          have g1 : ∀ ob : Obj, (w4.alloc ob).cell? ⟨b, 1, none⟩ = w4.cell? ⟨b, 1, none⟩ ∧ (w4.alloc ob).cell? ⟨b, 2, none⟩ = w4.cell? ⟨b, 2, none⟩ := fun ob => by
            have h6 := HM4.out.below ((Below.refl _ _).alloc (Nat.le_refl _) ob)
            exact ⟨h6.cells.2.1.trans HM4.out.cells.2.1.symm, h6.cells.2.2.1.trans HM4.out.cells.2.2.1.symm⟩
          rw [c1, c2] at g1
          have g2 := fun ob => (g1 ob).1
          have g3 := fun ob => (g1 ob).2
          have g4 : ∀ ob : Obj, (w4.alloc ob).drew.cell? ⟨b, 1, none⟩ = _ := g2
          have g5 : ∀ ob : Obj, (w4.alloc ob).drew.cell? ⟨b, 2, none⟩ = _ := g3
          obtain ⟨i0, hi0, hz0, hz1, hz2⟩ := info_parts infoS
          have CE : Hid (∀ W, Below w4.heap.size w4 W → W.cell? ⟨b, 1, none⟩ = w4.cell? ⟨b, 1, none⟩ ∧ W.cell? ⟨b, 2, none⟩ = w4.cell? ⟨b, 2, none⟩ ∧ ∀ o, W.frozen? ⟨b, o, none⟩ = false) := Lib.hid (fun W hb => by
            have h6 := HM4.out.below hb
            exact ⟨h6.cells.2.1.trans HM4.out.cells.2.1.symm, h6.cells.2.2.1.trans HM4.out.cells.2.2.1.symm, h6.wr⟩)
          rw [c1, c2] at CE
          have HQ1 := Lib.hid hq1
          have HQ2 := Lib.hid hq2
          clear hw1 hw2 hll g1 hq1 hq2
          go_wp2_with fail
          go_region_law (first
            | (refine step_append_lies _ (by rfl) (.tmp 91) (.tmp 93) 22 (by rfl) _ 9 i0 (.string ByteArray.empty) 1 16 Tryz.underlying22 hi0 hz0 hz1 hz2 rfl (by omega) (.slice A5 q1 c5) q1 _ (by rfl) (HO5.out.alloc _) ⟨w5.heap.size, 0, none⟩ 1 1 [.string x] (by rfl) (by rfl) (World.news_of_block (cs := #[.string x]) (t := 9) (fr := (0, 0)) (heap_alloc_new w5 _)) (by simp [Value.oneCell']) (by omega) (by unfold maxLen; omega) (by omega) (by have := HS5.out.size; simp at this ⊢; omega) (w5.heap.size + 1) (by simp) ?_; intro f' cf' w6 hown hgr hat hlt6; have HO6 := Lib.hid hown; have HB6 := Lib.hid (HB5.out.grown (Li.grown_al hgr) HB5.out.size (fun g hg => Nat.le_trans (by simp) (HO5.out.lt g hg).1)); have HZ6 : Hid (∀ k, (Value.slice (some ⟨f', 0, none⟩) (q1 + 1) cf').ownBlock = some k → w4.heap.size ≤ k) := Lib.hid (fun k hk => Nat.le_trans (by simp) (hown.lt k hk).1); obtain ⟨r1, r2, rf⟩ := CE.out _ HB6.out; clear hown hgr hat hlt6)
            | (refine step_append_lies _ (by rfl) (.tmp 91) (.tmp 93) 22 (by rfl) _ 9 i0 (.string ByteArray.empty) 1 16 Tryz.underlying22 hi0 hz0 hz1 hz2 rfl (by omega) (.slice A5 q1 c5) q1 _ (by rfl) HO5.out ⟨w4.heap.size, 0, none⟩ 1 1 [.string x] (by rfl) (by rfl) (World.news_of_block (cs := #[.string x]) (t := 9) (fr := (0, 0)) ((HS5.out.block _ (lt_of_block (heap_alloc_new w4 _))).trans (heap_alloc_new w4 _))) (by simp [Value.oneCell']) (by omega) (by unfold maxLen; omega) (by omega) (by have := HS5.out.size; simp at this ⊢; omega) (w5.heap.size) (by rfl) ?_; intro f' cf' w6 hown hgr hat hlt6; have HO6 := Lib.hid hown; have HB6 := Lib.hid (HB5.out.grown hgr HB5.out.size (fun g hg => Nat.le_trans (by simp) (HO5.out.lt g hg).1)); have HZ6 : Hid (∀ k, (Value.slice (some ⟨f', 0, none⟩) (q1 + 1) cf').ownBlock = some k → w4.heap.size ≤ k) := Lib.hid (fun k hk => Nat.le_trans (by simp) (hown.lt k hk).1); obtain ⟨r1, r2, rf⟩ := CE.out _ HB6.out; clear hown hgr hat hlt6)
            | (go_simp; go_at_call 63; refine (K2.out _ HB6.out).mono ?_; rintro e w7 ⟨A7, c7, rfl, HO7, HB7, HS7, ⟨r1, r2, rf⟩, -⟩)
            | (go_simp; go_at_call 63; refine (K1.out _ (by first | exact below_drewN (Below.refl _ _) 1 | exact below_drewN ((Below.refl _ _).alloc (Nat.le_refl _) _) 1 | exact (below_drewN (Below.refl _ _) 1).alloc (Nat.le_refl _) _)).mono ?_; rintro e w5 ⟨A5, c5, rfl, HO5, HB5, HS5, ⟨p1, p2, pf⟩, pa⟩; have pa1 := fun ob => (pa ob).1; have pa2 := fun ob => (pa ob).2; clear pa))
          all_goals
            go_wp2_with fail
            go_ret
            rw [HMM.out]
            obtain ⟨vE, FE, hE⟩ := admit_end HM4.out HSK.out (r := 2) (by omega) (by omega) (HYR.out) HO6.out HZ6.out HB6.out HS7.out HO7.out
            refine ⟨_, _, _, rfl, hE.below ((Below.refl _ _).alloc (Nat.le_refl _) _), .inr ⟨_, _, rfl, rfl, alloc_at _ _ (by simp [World.setCell])⟩, ?_⟩
            have hz := HZ4.out
            have h6 := HB6.out.size
            have h7 := HS7.out.size
            simp [World.setCell]
            omega
      · have hv2 : vict K = 1 := by rw [hvk, if_pos (by omega)]
        obtain ⟨t2, ht2⟩ := HY0.out 1 hv2.symm (by rw [HN1.out]; omega)
        obtain ⟨A, p, hr⟩ := HM1.out.rs
        obtain ⟨g2, o2, hA2, hc2⟩ := first_cell hr (r := 1) (by omega) ht2
        have hA3 := (hr.v_ 1 (by omega)).symm.trans HV1.out
        rw [hA2] at hA3
        injection hA3 with hA4 _ _
        subst hA4
        have hgb := HM1.out.far_cell hc2
        have HYR := Lib.hid (hv2 ▸ hyv.1)
        clear hr hA2 ht2 hvk hyv
        have f1 : ((n1 : Int) == 0) = false := by simp; omega
        have z2 : (0 : Int) < (n1 : Int) := by omega
        have z3 : 0 < n1 := by omega
        go_wp2_with fail
        go_quiet ((go_at_call 67; exact Do.quiet_any (MN.out _)))
        go_wp2_with fail
        go_quiet (fail)
        go_wp2_with fail
        refine (OF.out _ _ _ _ (HE.out.drewN _) x hxs).mono ?_
        rintro e w3 ⟨rfl, hb3⟩
        have HM3 := Lib.hid ((HE.out.drewN _).below hb3)
        have HZ3 : Hid (w.heap.size ≤ w3.heap.size) := Lib.hid (by have h4 := hb3.size; have h5 := HZ1.out; simp at h4; omega)
        clear hb3
        go_wp2_with fail
        refine (OF.out _ _ _ _ HM3.out y hys).mono ?_
        rintro e w4 ⟨rfl, hb4⟩
        have HM4 := Lib.hid (HM3.out.below hb4)
        have HZ4 : Hid (w.heap.size ≤ w4.heap.size) := Lib.hid (Nat.le_trans HZ3.out hb4.size)
        clear hb4
        by_cases ho : of x ≤ of y
        · have HMM := Lib.hid (A2'.out (.inr ho))
          have dxy : decide (of x ≤ of y) = true := by simpa using ho
          go_wp2_with fail
          go_ret
          rw [HMM.out]
          exact ⟨_, _, _, rfl, HM4.out.below ((Below.refl _ _).alloc (Nat.le_refl _) _), .inr ⟨_, _, rfl, rfl, heap_alloc_new _ _⟩, by have := HZ4.out; simp; omega⟩
        · have HMM := Lib.hid (A3'.out (by rintro (e | e); exact hn0 e; exact ho e))
          have dxy : decide (of x ≤ of y) = false := by simpa using ho
          have hll : ∀ q, q < 3 → (less K x q).length ≤ 80000 := fun q hq => by
            have h2 := Rw.less_length K x q
            have h3 := HLL.out q hq
            omega
          have c1 := HM4.out.cells.2.1
          have c2 := HM4.out.cells.2.2.1
          have cf := HM4.out.wr
          obtain ⟨q1, hq1⟩ : ∃ q, (without (less K x 1) y).length = q := ⟨_, rfl⟩
          obtain ⟨q2, hq2⟩ : ∃ q, (without (less K x 2) y).length = q := ⟨_, rfl⟩
          have hw1 := (upd_other v (.slice A' (without (K 0) x).length c') (show (1 : Nat) ≠ 0 by omega)).trans HV1.out
          have hw2 := (upd_other v (.slice A' (without (K 0) x).length c') (show (2 : Nat) ≠ 0 by omega)).trans HV2.out
          have K1 := Lib.hid (cut_w HM4.out hll (r := 1) (by omega) hw1 hw1 hw2 y hq1)
          have K2 := Lib.hid (cut_w HM4.out hll (r := 2) (by omega) hw2 hw1 hw2 y hq2)
          have ql1 : q1 ≤ 80000 := by rw [← hq1]; exact Nat.le_trans (List.length_filter_le _ _) (hll 1 (by omega))
          have ql2 : q2 ≤ 80000 := by rw [← hq2]; exact Nat.le_trans (List.length_filter_le _ _) (hll 2 (by omega))
          rw [upd_other _ _ (by omega), HV1.out] at c1
          rw [upd_other _ _ (by omega), HV2.out] at c2
          have g1 : ∀ ob : Obj, (w4.drew.alloc ob).cell? ⟨b, 1, none⟩ = w4.cell? ⟨b, 1, none⟩ := fun ob => by
            have h6 := HM4.out.below ((below_drewN (Below.refl _ _) 1).alloc (Nat.le_refl _) ob)
            exact h6.cells.2.1.trans HM4.out.cells.2.1.symm
          have g1 : ∀ ob : Obj, (w4.alloc ob).cell? ⟨b, 1, none⟩ = w4.cell? ⟨b, 1, none⟩ ∧ (w4.alloc ob).cell? ⟨b, 2, none⟩ = w4.cell? ⟨b, 2, none⟩ := fun ob => by
            have h6 := HM4.out.below ((Below.refl _ _).alloc (Nat.le_refl _) ob)
            exact ⟨h6.cells.2.1.trans HM4.out.cells.2.1.symm, h6.cells.2.2.1.trans HM4.out.cells.2.2.1.symm⟩
          rw [c1, c2] at g1
          have g2 := fun ob => (g1 ob).1
          have g3 := fun ob => (g1 ob).2
          have g4 : ∀ ob : Obj, (w4.alloc ob).drew.cell? ⟨b, 1, none⟩ = _ := g2
          have g5 : ∀ ob : Obj, (w4.alloc ob).drew.cell? ⟨b, 2, none⟩ = _ := g3
          obtain ⟨i0, hi0, hz0, hz1, hz2⟩ := info_parts infoS
          have CE : Hid (∀ W, Below w4.heap.size w4 W → W.cell? ⟨b, 1, none⟩ = w4.cell? ⟨b, 1, none⟩ ∧ W.cell? ⟨b, 2, none⟩ = w4.cell? ⟨b, 2, none⟩ ∧ ∀ o, W.frozen? ⟨b, o, none⟩ = false) := Lib.hid (fun W hb => by
            have h6 := HM4.out.below hb
            exact ⟨h6.cells.2.1.trans HM4.out.cells.2.1.symm, h6.cells.2.2.1.trans HM4.out.cells.2.2.1.symm, h6.wr⟩)
          rw [c1, c2] at CE
          have HQ1 := Lib.hid hq1
          have HQ2 := Lib.hid hq2
          clear hw1 hw2 hll g1 hq1 hq2
          go_wp2_with fail
          go_region_law (first
            | (refine step_append_lies _ (by rfl) (.tmp 91) (.tmp 93) 22 (by rfl) _ 9 i0 (.string ByteArray.empty) 1 16 Tryz.underlying22 hi0 hz0 hz1 hz2 rfl (by omega) (.slice A5 q1 c5) q1 _ (by rfl) (HO5.out.alloc _) ⟨w5.heap.size, 0, none⟩ 1 1 [.string x] (by rfl) (by rfl) (World.news_of_block (cs := #[.string x]) (t := 9) (fr := (0, 0)) (heap_alloc_new w5 _)) (by simp [Value.oneCell']) (by omega) (by unfold maxLen; omega) (by omega) (by have := HS5.out.size; simp at this ⊢; omega) (w5.heap.size + 1) (by simp) ?_; intro f' cf' w6 hown hgr hat hlt6; have HO6 := Lib.hid hown; have HB6 := Lib.hid (HB5.out.grown (Li.grown_al hgr) HB5.out.size (fun g hg => Nat.le_trans (by simp) (HO5.out.lt g hg).1)); have HZ6 : Hid (∀ k, (Value.slice (some ⟨f', 0, none⟩) (q1 + 1) cf').ownBlock = some k → w4.heap.size ≤ k) := Lib.hid (fun k hk => Nat.le_trans (by simp) (hown.lt k hk).1); obtain ⟨r1, r2, rf⟩ := CE.out _ HB6.out; clear hown hgr hat hlt6)
            | (refine step_append_lies _ (by rfl) (.tmp 91) (.tmp 93) 22 (by rfl) _ 9 i0 (.string ByteArray.empty) 1 16 Tryz.underlying22 hi0 hz0 hz1 hz2 rfl (by omega) (.slice A5 q1 c5) q1 _ (by rfl) HO5.out ⟨w4.heap.size, 0, none⟩ 1 1 [.string x] (by rfl) (by rfl) (World.news_of_block (cs := #[.string x]) (t := 9) (fr := (0, 0)) ((HS5.out.block _ (lt_of_block (heap_alloc_new w4 _))).trans (heap_alloc_new w4 _))) (by simp [Value.oneCell']) (by omega) (by unfold maxLen; omega) (by omega) (by have := HS5.out.size; simp at this ⊢; omega) (w5.heap.size) (by rfl) ?_; intro f' cf' w6 hown hgr hat hlt6; have HO6 := Lib.hid hown; have HB6 := Lib.hid (HB5.out.grown hgr HB5.out.size (fun g hg => Nat.le_trans (by simp) (HO5.out.lt g hg).1)); have HZ6 : Hid (∀ k, (Value.slice (some ⟨f', 0, none⟩) (q1 + 1) cf').ownBlock = some k → w4.heap.size ≤ k) := Lib.hid (fun k hk => Nat.le_trans (by simp) (hown.lt k hk).1); obtain ⟨r1, r2, rf⟩ := CE.out _ HB6.out; clear hown hgr hat hlt6)
            | (go_simp; go_at_call 63; refine (K2.out _ HB6.out).mono ?_; rintro e w7 ⟨A7, c7, rfl, HO7, HB7, HS7, ⟨r1, r2, rf⟩, -⟩)
            | (go_simp; go_at_call 63; refine (K1.out _ (by first | exact below_drewN (Below.refl _ _) 1 | exact below_drewN ((Below.refl _ _).alloc (Nat.le_refl _) _) 1 | exact (below_drewN (Below.refl _ _) 1).alloc (Nat.le_refl _) _)).mono ?_; rintro e w5 ⟨A5, c5, rfl, HO5, HB5, HS5, ⟨p1, p2, pf⟩, pa⟩; have pa1 := fun ob => (pa ob).1; have pa2 := fun ob => (pa ob).2; clear pa))
          all_goals
            go_wp2_with fail
            go_ret
            rw [HMM.out]
            obtain ⟨vE, FE, hE⟩ := admit_end HM4.out HSK.out (r := 1) (by omega) (by omega) (HYR.out) HO6.out HZ6.out HB6.out HS7.out HO7.out
            refine ⟨_, _, _, rfl, hE.below ((Below.refl _ _).alloc (Nat.le_refl _) _), .inr ⟨_, _, rfl, rfl, alloc_at _ _ (by simp [World.setCell])⟩, ?_⟩
            have hz := HZ4.out
            have h6 := HB6.out.size
            have h7 := HS7.out.size
            simp [World.setCell]
            omega
end

end Go.Proofs.YtkeicfajlmhajaaGreat.Rf
