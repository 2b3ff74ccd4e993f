/- S3-FIFO's reference in memory: Evict. -/
import Derived.Test.YtodiceafnkojiaaQz
namespace Go.Proofs.Ytodiceafnkojiaa.Rf
open Go Go.RowKit Go.Proofs.Ytodiceafnkojiaa.K Go.Proofs.Ytodiceafnkojiaa.Sl Go.Proofs.Ytodiceafnkojiaa.Eg
open Go.Proofs.Ytodiceafnkojiaa.Li (more more_lt own_form')
open Go.Proofs.Ytodiceafnkojiaa.Rw (upd upd_same upd_other less less_same less_not cell_below cell_upd)
open Go.Proofs.Ytodiceafnkojiaa.Sc (Cs fl RC)

section
variable {w0 w w' : World} {b c : Nat} {F : Nat → Prop} {v : Nat → Value} {Fs : Nat → Nat → Prop} {K : Ks} {X : X3}

/-- An act's end. -/
def Did (v : Value) (b : Nat) (F : Nat → Prop) (c : Nat) (K' : Ks) (w : World) (e : Ending) (w' : World) : Prop :=
  e = .returned v ∧ ∃ F', Ref w' b F' c K' ∧ Step F w F' w'
theorem Did.of_below {v : Value} {e : Ending} {w' : World} (h : Ref w b F c K) (he : e = .returned v) (hb : Below w.heap.size w w') : Did v b F c K w e w' :=
  ⟨he, F, h.below hb, Step.of_below hb⟩
theorem RM.did (h : RM w b c F v Fs (XK K) w') (hi : Inv c K) (u : Value) : Did u b F c K w (.returned u) w' := ⟨rfl, _, h.done hi⟩

theorem revict_none (h : Ref w b F c K) (h0 : len K = 0) :
    Calls Try.prog 52 #[.pointer (some ⟨b, 0, none⟩)] w fun e w' => e = .returned (.tuple #[.string ByteArray.empty, .bool false]) ∧ Below w.heap.size w w' := by
  have L := Lib.hid (ref_len h)
  rw [h0] at L
  clear h h0
  go_enter Try.func52, Try.ntmps52
  go_wp2_with fail
  refine L.out.mono ?_
  rintro e w4 ⟨rfl, hb4⟩
  go_wp2_with fail
  go_ret2
  exact ⟨rfl, hb4⟩

/-- Row s, as far as it was gone through: what comes out is r. -/
def SRel2 (w0 : World) (b c : Nat) (F : Nat → Prop) (r : Option ByteArray × Ks) (kk : Nat) (w : World) : Prop :=
  ∃ f Kj v Fs, kk = f ∧ RM w0 b c F v Fs (XK Kj) w ∧ Inv c Kj ∧ (Kj.r 0).length < f ∧ fromSmall c f Kj = r

set_option maxHeartbeats 3200000 in
theorem revict_small (h : Ref w b F c K) (h0 : 0 < len K) (h1 : kin c < (K.r 0).length ∨ (K.r 1).length = 0) :
    Calls Try.prog 52 #[.pointer (some ⟨b, 0, none⟩)] w (Did (.tuple #[.string (evict c K).1, .bool true]) b F c (evict c K).2.2 w) := by
  have L := Lib.hid (ref_len h)
  have hi := h.inv
  have hc2 := hi.c2
  have hc1 := hi.c1
  have hkin : kin c ≤ 1024 := by unfold kin; omega
  have hl1 := hi.len1
  have IV : Hid (Inv c (evict c K).2.2) := Lib.hid (by obtain ⟨k, K', e, -, hi, -⟩ := evict_facts h.inv h0; rw [e]; exact hi)
  have hp : (0 : Int) < (len K : Int) := by omega
  have FF := Lib.hid (fromSmall_facts (c := c) ((K.r 0).length + 1) K hi (by omega))
  have ES := Lib.hid (evict_small (c := c) h0 h1)
  obtain ⟨v, Fs, hm, -⟩ := h
  have HM := Lib.hid hm
  obtain ⟨r, hr⟩ : ∃ r, fromSmall c ((K.r 0).length + 1) K = r := ⟨_, rfl⟩
  have HR : Hid (∀ w1, Below w.heap.size w w1 → SRel2 w b c F r ((K.r 0).length + 1) w1) := Lib.hid (fun w1 hb => ⟨_, K, v, Fs, rfl, hm.below hb, hi, by omega, hr⟩)
  rw [hr] at FF ES
  obtain ⟨A, p, hs⟩ := hm.rs
  have c0 : w.cell? ⟨b, 0, none⟩ = some (.slice (A 0) (cl K 0).length (p 0)) := hs.c0
  have c1 : w.cell? ⟨b, 1, none⟩ = some (.slice (A 1) (cl K 1).length (p 1)) := hs.c1
  have c3 := hs.c3
  rw [cl_length] at c0 c1
  clear hm hs hi hr
  have hn : len K = (K.r 0).length + (K.r 1).length := rfl
  generalize len K = n at *
  generalize (K.r 0).length = x at *
  generalize (K.r 1).length = y at *
  generalize A 0 = A0 at *
  generalize A 1 = A1 at *
  generalize p 0 = p0 at *
  generalize p 1 = p1 at *
  have HN := Lib.hid hn
  clear hn
  have SM : Hid (∀ w1 : World, w1.cell? ⟨b, 3, none⟩ = some (.int .i64 (c : Int)) → ∀ n, Calls Try.prog 73 #[.pointer (some ⟨b, 0, none⟩)] (w1.drewN n) fun e w' => e = .returned (.int .i64 (kin c : Int)) ∧ w' = w1.drewN n) := Lib.hid (fun w1 h n => (small_any (w1.drewN n) hc2 h).mono fun _ _ ⟨h1, h2⟩ => ⟨h1, h2.symm⟩)
  have dN0 : ((n : Int) == 0) = false := by simp; omega
  have hcond : (kin c < x) ∨ (¬ kin c < x ∧ y = 0) := by omega
  clear h1
  rcases hcond with hA | ⟨hA, rfl⟩
  all_goals
    first | (have dA : decide (kin c < x) = true := by simpa using hA) | (have dA : decide (kin c < x) = false := by simpa using hA)
    go_enter Try.func52, Try.ntmps52
    go_wp2_with fail
    refine L.out.mono ?_
    rintro e w1 ⟨rfl, hb1⟩
    have d0 := cell_below hb1 c0
    have d1 := cell_below hb1 c1
    have d3 := cell_below hb1 c3
    have HB1 := Lib.hid hb1
    have SM1 := Lib.hid (SM.out w1 d3)
    clear hb1
    go_wp2_with fail
    go_quiet (first | (go_at_call 73; with_reducible exact Calls.quiet_of_same (SM1.out _)))
    have HRR := Lib.hid (HR.out _ (below_drewN HB1.out nq))
    clear d0 d1 d3 c0 c1 c3
    go_wp2_with fail
    go_loopg [] (x + 1) (fun kk wr => SRel2 w b c F r kk wr)
    case atStart => exact HRR.out
    case round =>
      clear HRR HR
      obtain ⟨f, Kj, v, Fs, hgk, hm, hi, hw, hr⟩ := hrel
      have HGK := Lib.hid hgk
      clear hgk
      obtain ⟨f', rfl⟩ : ∃ f', f = f' + 1 := ⟨f - 1, by omega⟩
      obtain ⟨A, p, hs⟩ := hm.rs
      have c0 : wr.cell? ⟨b, 0, none⟩ = some (.slice (A 0) (cl Kj 0).length (p 0)) := hs.c0
      have s0 : Sc.Sc wr (.slice (A 0) (cl Kj 0).length (p 0)) (Fs 0) (cl Kj 0) := hs.sl 0 (by omega)
      have hl0 := lens hi 0 (by omega)
      have HLE1 : Hid ((cl Kj 1).length ≤ 1000000) := Lib.hid (by rw [cl_length]; have := lens hi 1 (by omega); omega)
      have HM1 := Lib.hid hm
      have HV1 := Lib.hid (hs.v_ 1 (by omega))
      have HI := Lib.hid hi
      have HRR := Lib.hid hr
      have HWW := Lib.hid hw
      by_cases hz : (Kj.r 0).length = 0
      · have hz2 : (cl Kj 0).length = 0 := by rw [cl_length]; exact hz
        rw [hz2] at c0
        have HE := Lib.hid (fromSmall_none (c := c) (f := f') hz)
        have hrr : r = (none, Kj) := by rw [← hr]; exact HE.out
        have hKj : 0 < (Kj.r 1).length := by
          rcases FF.out with ⟨k, L', e, -⟩ | ⟨L', e, i1, i2, i3, -⟩
          · rw [hrr] at e; cases e
          · rw [hrr] at e
            cases e
            unfold len at i3
            rw [i2] at i3
            have := HN.out
            simp at i3
            omega
        have FM := Lib.hid (fromM_at hm hi hKj)
        have ES2 : Hid (evict c K = ((fromMain (weight Kj) Kj).1, true, (fromMain (weight Kj) Kj).2)) := Lib.hid (by rw [ES.out, hrr])
        have IV2 : Hid (Inv c (fromMain (weight Kj) Kj).2) := Lib.hid (by have := IV.out; rw [ES2.out] at this; exact this)
        clear hm hi hs s0 hw hr hz hz2 hrr hKj hl0
        generalize fromMain (weight Kj) Kj = r2 at *
        go_wp2_with fail
        refine FM.out.mono ?_
        rintro e w4 ⟨rfl, v4, Fs4, hm4⟩
        have HM4 := Lib.hid hm4
        clear hm4
        go_wp2_with fail
        go_ret2
        rw [ES2.out]
        exact HM4.out.did IV2.out _
      · obtain ⟨t, ht⟩ := oldest_cons (Kj.r 0) (by omega)
        have hks : (oldest (Kj.r 0)).size ≤ 40 := hi.head_small (by omega) ht
        have hn3 := hi.cnt (oldest (Kj.r 0))
        have HG := Lib.hid (fun h => fromSmall_goes (c := c) (f := f') (K := Kj) hz h)
        have HNX := Lib.hid (fun h => fromSmall_next (c := c) (f := f') (K := Kj) hz h)
        generalize oldest (Kj.r 0) = k at *
        have HT := Lib.hid ht
        have HX1 := Lib.hid (xk_ghost hi ht)
        have HX2 := Lib.hid (xk_move01 hi ht)
        obtain ⟨g, o, hA0, k0, k1⟩ := s0.rc 0 (k, Kj.n k) (by rw [cl_cons ht]; rfl)
        rw [Nat.zero_mul, Nat.add_zero] at k0 k1
        dsimp only at k0 k1
        rw [hA0] at c0 s0
        have hlen : (cl Kj 0).length = t.length + 1 := by rw [cl_cons ht]; simp
        have hl : (cl Kj 0).length ≤ 100000 := by rw [cl_length]; omega
        generalize p 0 = q0 at *
        obtain ⟨N, hN⟩ : ∃ N, N = (cl Kj 0).length := ⟨_, rfl⟩
        rw [← hN] at c0 s0
        have hN0 : 0 < N := by omega
        have HS0 := Lib.hid s0
        have HN0 := Lib.hid hN
        have HLL := Lib.hid hl
        have z0 : (0 : Int) < (N : Int) := by omega
        have hbw := lt_of_block hm.blk
        clear hm hi hs hw hr hz hl0 s0 hA0 hlen hl hN ht
        generalize hn : Kj.n k = n2 at *
        have hb1 : Below wr.heap.size wr (wr.alloc (.cells #[.string k, .int .i64 (n2 : Int)] 77)) := (Below.refl _ _).alloc (Nat.le_refl _) _
        have HM2 := Lib.hid (HM1.out.below hb1)
        have HA := Lib.hid (block_new wr (.cells #[.string k, .int .i64 (n2 : Int)] 77))
        have HW0 := Lib.hid (without_0 (HS0.out.below hb1) HN0.out (by rw [← HN0.out]; exact hN0) HLL.out)
        have d0 := cell_below hb1 c0
        clear hb1
        go_wp2_with fail
        refine HW0.out.mono ?_
        rintro e w2 ⟨v', rfl, ho, hb2⟩
        obtain ⟨A', c', rfl⟩ := own_form' ho
        have HM3 := Lib.hid (HM2.out.below hb2)
        have HM4 := Lib.hid (HM2.out.cutted (r := 0) (by omega) hb2 ho)
        have e0 := HM3.out.cells.1
        have ef := HM3.out.wr
        have ha2 := (hb2.block wr.heap.size (lt_of_block HA.out)).trans HA.out
        have ha4 := block_other (p := ⟨b, 0, none⟩) (v := .slice A' ((cl Kj 0).length - 1) c') (show wr.heap.size ≠ b by omega) ha2
        obtain ⟨a0, a1, -⟩ := In.two_cells ha4
        have hl2 : (cl Kj 0).length - 1 ≤ 100000 := by have := HLL.out; omega
        have HA4 := Lib.hid ha4
        clear ho hb2 ha2
        generalize (cl Kj 0).length - 1 = n' at *
        by_cases hn1 : n2 ≤ 1
        · have i1 : (n2 : Int) ≤ 1 := by omega
          have ES2 : Hid (evict c K = (k, true, toGhost c Kj k)) := Lib.hid (by rw [ES.out, ← HRR.out, HG.out (by omega)])
          have IV2 : Hid (Inv c (toGhost c Kj k)) := Lib.hid (by have := IV.out; rw [ES2.out] at this; exact this)
          have GH := Lib.hid (ghost_at HM4.out (gs := Kj.r 2) (by rw [upd_other _ _ (by omega)]; rfl) HI.out.gh hc1 hc2 k)
          go_wp2_with fail
          refine GH.out.mono ?_
          rintro e w5 ⟨⟨rfl, v5, Fs5, hm5⟩, hu5⟩
          have HM5 := Lib.hid (hm5.same HX1.out)
          obtain ⟨b0, b1, -⟩ := In.two_cells (hu5.get HA4.out (by show ¬ wr.heap.size = b; omega))
          clear hm5 hu5
          go_wp2_with fail
          go_ret2
          rw [ES2.out]
          exact HM5.out.did IV2.out _
        · have i1 : ¬ (n2 : Int) ≤ 1 := by omega
          obtain ⟨j1, j2, j3, j4, j5, j6⟩ := inv_move01 HI.out HT.out
          have I1 := Lib.hid j1
          have I2 : Hid (((comes Kj 1 k 0).r 0).length < f') := Lib.hid (by
            rw [j2]
            have h1 := HWW.out
            rw [HT.out, List.length_cons] at h1
            omega)
          have HN' : Hid (fromSmall c f' (comes Kj 1 k 0) = r) := Lib.hid (by rw [← HRR.out, HNX.out (by omega)])
          have HP4 := Lib.hid (HM4.out.drewN 1)
          have sl : Sc.Sc ((w2.setCell ⟨b, 0, none⟩ (.slice A' n' c')).drewN 1) (v 1) (Fs 1) (cl Kj 1) := by
            have := HP4.out.sl 1 (by omega)
            rw [upd_other _ _ (by omega), upd_other _ _ (by omega), upd_other _ _ (by omega)] at this
            exact this
          have LT : Hid (∀ j, Fs 1 j → j < ((w2.setCell ⟨b, 0, none⟩ (.slice A' n' c')).drewN 1).heap.size) := Lib.hid (by
            have := HP4.out.lt 1 (by omega)
            rw [upd_other _ _ (by omega)] at this
            exact this)
          have NB : Hid (¬ Fs 1 b) := Lib.hid (by
            have := HP4.out.nb 1 (by omega)
            rw [upd_other _ _ (by omega)] at this
            exact this)
          have q41 : (w2.setCell ⟨b, 0, none⟩ (.slice A' n' c')).cell? ⟨b, 1, none⟩ = some (v 1) := by
            have := HM4.out.cells.2.1
            rw [upd_other _ _ (by omega)] at this
            exact this
          have hv1 : v 1 = .slice (A 1) (cl Kj 1).length (p 1) := HV1.out
          rw [hv1] at sl q41
          have SL := Lib.hid sl
          have q42 := fun ob => cell_below ((Below.refl _ _).alloc (Nat.le_refl _) ob) q41
          have a02 := fun ob => cell_below ((Below.refl _ _).alloc (Nat.le_refl _) ob) a0
          have a12 := fun ob => cell_below ((Below.refl _ _).alloc (Nat.le_refl _) ob) a1
          have HPS : Hid (∀ v5 w5, Sc.Pushed ((w2.setCell ⟨b, 0, none⟩ (.slice A' n' c')).drewN 1) (Fs 1) (cl Kj 1) (k, 0) v5 w5 → ∃ v6 Fs6, RM w b c F v6 Fs6 (XK (comes Kj 1 k 0)) (w5.setCell ⟨b, 1, none⟩ v5)) := Lib.hid (fun v5 w5 hp => by
            have := HP4.out.pushed (r := 1) (by omega) (cs := cl Kj 1) (x := (k, 0)) (v' := v5) (w' := w5) (by rw [upd_other _ _ (by omega)]; exact hp)
            exact ⟨_, _, this.same HX2.out⟩)
          clear j1 j2 j3 j4 j5 j6 sl hv1
          generalize A 1 = A1' at *
          generalize p 1 = p1' at *
          go_wp2_with fail
          go_region_law (refine Sc.step_push (by rfl) (.tmp 57) (.tmp 61) (by rfl) (xs := cl Kj 1) SL.out HLE1.out LT.out k 0 0 rfl 1 w2.heap.size (by simp [World.setCell]) (by rfl) (by rfl) ?_; intro v'' w5 hp; obtain ⟨A'', c'', hv, -⟩ := hp.sl.form; generalize (cl Kj 1 ++ [(k, 0)]).length = L5 at hv; subst hv; have HP := Lib.hid hp; have HB5 := Lib.hid (hp.upd.get HP4.out.blk NB.out); have q1 := cell_of HB5.out 1; have qf := free_of HB5.out; clear hp)
          all_goals
            go_wp2_with fail
            go_roundg f'
            case measure => rw [HGK.out]; omega
            case rel =>
              obtain ⟨v6, Fs6, h6⟩ := HPS.out _ _ HP.out
              exact ⟨f', _, v6, Fs6, rfl, h6, I1.out, I2.out, HN'.out⟩

theorem revict_main (h : Ref w b F c K) (h0 : 0 < len K) (h1 : ¬ (kin c < (K.r 0).length ∨ (K.r 1).length = 0)) :
    Calls Try.prog 52 #[.pointer (some ⟨b, 0, none⟩)] w (Did (.tuple #[.string (evict c K).1, .bool true]) b F c (evict c K).2.2 w) := by
  have L := Lib.hid (ref_len h)
  have hi := h.inv
  have hc2 := hi.c2
  have hkin : kin c ≤ 1024 := by unfold kin; omega
  have hl1 := hi.len1
  have hp : (0 : Int) < (len K : Int) := by omega
  have EM := evict_main (c := c) h0 h1
  have IV : Hid (Inv c (fromMain (weight K) K).2) := Lib.hid (by obtain ⟨k, K', e, -, hi, -⟩ := evict_facts h.inv h0; rw [EM] at e; cases e; exact hi)
  obtain ⟨v, Fs, hm, -⟩ := h
  have FM := Lib.hid (fun w1 (hb : Below w.heap.size w w1) => fromM_at (hm.below hb) hi (by omega))
  have HM := Lib.hid hm
  obtain ⟨A, p, hs⟩ := hm.rs
  have c0 : w.cell? ⟨b, 0, none⟩ = some (.slice (A 0) (cl K 0).length (p 0)) := hs.c0
  have c1 : w.cell? ⟨b, 1, none⟩ = some (.slice (A 1) (cl K 1).length (p 1)) := hs.c1
  have c3 := hs.c3
  rw [cl_length] at c0 c1
  rw [EM]
  clear hm hs hi EM
  generalize fromMain (weight K) K = r2 at *
  generalize len K = n at *
  generalize (K.r 0).length = x at *
  generalize (K.r 1).length = y at *
  have SM : Hid (∀ w1 : World, w1.cell? ⟨b, 3, none⟩ = some (.int .i64 (c : Int)) → ∀ n, Calls Try.prog 73 #[.pointer (some ⟨b, 0, none⟩)] (w1.drewN n) fun e w' => e = .returned (.int .i64 (kin c : Int)) ∧ w' = w1.drewN n) := Lib.hid (fun w1 h n => (small_any (w1.drewN n) hc2 h).mono fun _ _ ⟨h1, h2⟩ => ⟨h1, h2.symm⟩)
  have dA : decide (kin c < x) = false := by simp; omega
  have dY : ((y : Int) == 0) = false := by simp; omega
  clear h1
  go_enter Try.func52, Try.ntmps52
  go_wp2_with fail
  refine L.out.mono ?_
  rintro e w1 ⟨rfl, hb1⟩
  have d0 := cell_below hb1 c0
  have d1 := cell_below hb1 c1
  have d3 := cell_below hb1 c3
  have HB1 := Lib.hid hb1
  have SM1 := Lib.hid (SM.out w1 d3)
  clear hb1
  go_wp2_with fail
  go_quiet (first | (go_at_call 73; with_reducible exact Calls.quiet_of_same (SM1.out _)))
  go_wp2_with fail
  refine (FM.out _ (below_drewN HB1.out nq)).mono ?_
  rintro e w4 ⟨rfl, v4, Fs4, hm4⟩
  have HM4 := Lib.hid hm4
  clear hm4
  go_wp2_with fail
  go_ret2
  exact HM4.out.did IV.out _

theorem ref_evict (h : Ref w b F c K) :
    Calls Try.prog 52 #[.pointer (some ⟨b, 0, none⟩)] w (Did (.tuple #[.string (evict c K).1, .bool (evict c K).2.1]) b F c (evict c K).2.2 w) := by
  by_cases h0 : len K = 0
  · rw [evict_none' h0]
    exact (revict_none h h0).mono fun _ _ ⟨h1, h2⟩ => Did.of_below h h1 h2
  · have e : (evict c K).2.1 = true := by
      obtain ⟨k, K', e, -⟩ := evict_facts h.inv (by omega)
      rw [e]
    rw [e]
    by_cases h1 : kin c < (K.r 0).length ∨ (K.r 1).length = 0
    · exact revict_small h (by omega) h1
    · exact revict_main h (by omega) h1
end

end Go.Proofs.Ytodiceafnkojiaa.Rf
