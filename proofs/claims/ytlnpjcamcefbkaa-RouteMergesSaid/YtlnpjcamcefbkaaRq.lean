/- The walk of the reference's Order. -/
import Derived.Test.YtlnpjcamcefbkaaRr
namespace Go.Proofs.Ytlnpjcamcefbkaa.Rw
open Go Go.RowKit Go.Proofs.Ytlnpjcamcefbkaa.K Go.Proofs.Ytlnpjcamcefbkaa.Ro

theorem lb_open {B k : Nat} {cs ps : List Int} {vl vo : Value} {w wr : World} (h : LB B cs ps k vl vo w wr) (hk : (k : Int) < tot cs) :
    ∃ gl lc, vl = .slice (some ⟨gl, 0, none⟩) cs.length lc := by
  have ht := leftF_tot k 0 cs ps (by omega)
  obtain ⟨x, h1, h2, h3, _⟩ := who_spec (ps := ps) (i := k) (left := leftF k 0 cs ps) (by omega)
  obtain ⟨gl, lc, e1, _⟩ := own_at h.left h2
  exact ⟨gl, lc, e1⟩

theorem ord_len {cs ps : List Int} (h : tot cs ≤ 65536) : (ord cs ps).length = (tot cs).toNat := by
  unfold ord; rw [if_neg (by omega), ordF_length]

set_option maxHeartbeats 3200000 in
set_option maxRecDepth 100000 in
theorem ref_calls (A C : Option Addr) (ca cc : Nat) (cs ps : List Int) (w : World) (hc : RInt w A cs) (hp : RInt w C ps) (hlen : cs.length ≤ 20) :
    Calls Try.prog 11 #[.slice A cs.length ca, .slice C ps.length cc] w (OrderPost cs ps w) := by
  have HC := Lib.hid hc
  have HP := Lib.hid hp
  have hpl : (pos cs).length = cs.length := by simp [pos]
  have HPL := Lib.hid hpl
  clear hc hp hpl
  have H1 : LA w.heap.size cs 0 (.slice none 0 0) w w := ⟨World.ownsRow_nil _ _ _ _, by simp [tot], Below.refl _ _⟩
  go_enter Try.func11, Try.ntmps11
  go_wp2_with fail
  go_loopw [5, 6, 7] (fun l t v wr => ∃ k : Nat, k ≤ cs.length ∧ v = .int .i64 k ∧ t = .int .i64 (tot (cs.take k)) ∧ LA w.heap.size cs k l w wr) (fun _ _ v _ => cs.length - (intOf v).toNat)
  case atStart => exact ⟨0, by omega, rfl, by simp [tot], H1⟩
  case round =>
    clear H1
    obtain ⟨k, hk, rfl, rfl, H1⟩ := hrel
    have hB : w.heap.size ≤ wr.heap.size := H1.below.size
    have ht0 := tot_nonneg (cs.take k)
    have ht1 := H1.few
    have HH := Lib.hid H1
    have HBB := Lib.hid hB
    clear H1 hB
    by_cases hlt : k < cs.length
    · obtain ⟨x, hx⟩ : ∃ x, cs[k]? = some x := ⟨_, List.getElem?_eq_getElem hlt⟩
      obtain ⟨b, o, rfl, hcw⟩ := HC.out.get k x hx
      have hcr : wr.cell? ⟨b, o + k, none⟩ = some (.int .i64 x) := by
        rw [HH.out.below.cell (p := ⟨b, o + k, none⟩) (World.block_lt_of_cell? w _ hcw)]; exact hcw
      have HX := Lib.hid hx
      have h00 : (0 : Int) ≤ (k : Int) := by omega
      have hki : (k : Int) < (cs.length : Int) := by omega
      have hkb : (k : Int) ≤ 20 := by omega
      have HT := Lib.hid (tot_succ cs k x hx)
      clear hx hcw
      by_cases h2 : 65536 - tot (cs.take k) < max 0 x
      · have ho : ord cs ps = [] := by
          have h1 := HT.out
          have h3 := tot_take_le cs (k + 1)
          unfold ord
          rw [if_pos (by omega)]
        have HO := Lib.hid ho
        clear ho
        go_wp2_with fail
        go_ret
        refine ⟨_, rfl, ?_, HH.out.below⟩
        rw [HO.out]
        exact World.ownsRow_nil _ _ _ _
      · go_upto_region 9 with (fail)
        go_wp2_with (at_builtin; refine append1 rfl _ _ rfl w.heap.size _ _ _ rfl HH.out.left HBB.out (by omega) _ _ rfl ?_; intro g' cap' w2 ho2 hg2 hat2)
        go_roundw
        case rel =>
          have HT := HT.out
          refine ⟨k + 1, by omega, by go_num, by rw [HT], ⟨?_, by omega, HH.out.below.grown hg2 HBB.out (fun g hgg => (HH.out.left.lt g hgg).1)⟩⟩
          rw [pos_succ HX.out]
          exact ho2
        case measure => simp [intOf]; omega
    · have ek : k = cs.length := by omega
      subst ek
      have hfull : cs.take cs.length = cs := List.take_length
      have hleft := HH.out.left
      have hbe := HH.out.below
      rw [← HPL.out, List.take_length] at hleft
      rw [hfull] at ht0 ht1
      obtain ⟨gA, lcap, rfl⟩ := own_form hleft
      have H2 : LB w.heap.size (pos cs) ps 0 (.slice gA (pos cs).length lcap) (.slice none 0 0) w wr :=
        ⟨hleft, World.ownsRow_nil _ _ _ _, by simp [Value.ownBlock], hbe⟩
      have HF := Lib.hid hfull
      have htp := tot_pos cs
      have HTP := Lib.hid htp
      have hop := ord_pos cs ps
      have HOP := Lib.hid hop
      have hol := ord_len (ps := ps) (cs := cs) ht1
      have HOL := Lib.hid hol
      have hpp : (pos cs).length ≤ 20 := by rw [HPL.out]; exact hlen
      rw [← htp] at ht0 ht1
      clear hleft hbe hfull HH HBB hk hlt htp hop hol
      go_wp2_with fail
      rw [HF.out, ← HTP.out]
      clear HF HC HPL
      generalize pos cs = ms at *
      go_loopw [9, 10] (fun o v wr => ∃ k : Nat, (k : Int) ≤ tot ms ∧ v = .int .i64 k ∧ LB w.heap.size ms ps k (.slice gA ms.length lcap) o w wr) (fun _ v _ => (tot ms - intOf v).toNat)
      case atStart => exact ⟨0, by omega, rfl, H2⟩
      case round =>
        clear H2
        obtain ⟨k, hk, rfl, H2⟩ := hrel
        by_cases hlt : (k : Int) < tot ms
        · obtain ⟨gl, lcap', e1⟩ := lb_open H2 hlt
          injection e1 with e1 _ e3
          subst e1 e3
          have H3 : LC w.heap.size ms ps k 0 (.slice (some ⟨gl, 0, none⟩) ms.length lcap) (.slice none 0 0) u9 w wr :=
            ⟨H2, by simpa [cl, clF, nats] using World.ownsRow_nil _ _ _ _, by simp [Value.ownBlock], by simp [Value.ownBlock]⟩
          clear H2
          have hki : (k : Int) < 65536 := by omega
          have hkn : 0 ≤ (k : Int) := by omega
          go_wp2_with fail
          go_loopw [11, 12] (fun c v wr => ∃ i : Nat, i ≤ ms.length ∧ v = .int .i64 i ∧ LC w.heap.size ms ps k i (.slice (some ⟨gl, 0, none⟩) ms.length lcap) c u9 w wr) (fun _ v _ => ms.length - (intOf v).toNat)
          case atStart => exact ⟨0, by omega, rfl, H3⟩
          case round =>
            clear H3
            obtain ⟨i, hi, rfl, H3⟩ := hrel
            have hB : w.heap.size ≤ wr.heap.size := H3.b.below.size
            by_cases hin : i < ms.length
            · have hlen2 := (leftF_tot k 0 ms ps (by omega)).2
              obtain ⟨x, hx⟩ : ∃ x, (leftF k 0 ms ps)[i]? = some x := ⟨_, List.getElem?_eq_getElem (by omega)⟩
              obtain ⟨g1, lc1, e1, _, hcx, _⟩ := own_at H3.b.left hx
              injection e1 with e1 _ e3
              injection e1 with e1
              injection e1 with e1
              subst e1 e3
              have hcl := clF_length_le 0 ((leftF k 0 ms ps).take i)
              have hcl2 : (cl ((leftF k 0 ms ps).take i)).length ≤ 20 := by
                have : ((leftF k 0 ms ps).take i).length ≤ i := List.length_take_le _ _
                unfold cl
                omega
              have HH := Lib.hid H3
              have HBB := Lib.hid hB
              have HX := Lib.hid hx
              have HCL := Lib.hid hcl2
              have i0 : (0 : Int) ≤ (i : Int) := by omega
              have i1 : (i : Int) < (ms.length : Int) := by omega
              have i2 : (i : Int) ≤ 20 := by omega
              clear H3 hB hx hcl hcl2 hlen2
              by_cases h1 : 0 < x
              · go_upto_region 20 with (fail)
                go_wp2_with (at_builtin; refine append1 rfl _ _ rfl w.heap.size _ _ _ rfl HH.out.cli HBB.out (by have := HCL.out; omega) _ _ rfl ?_; intro g' cap' w2 ho2 hg2 hat2)
                go_roundw
                case rel =>
                  refine ⟨i + 1, by omega, by go_num, lc_step HH.out HBB.out HX.out (by omega) hg2 ho2 ?_⟩
                  intro g hg
                  have : g' = g := by simpa [Value.ownBlock] using hg
                  subst this
                  exact hat2
                case measure => simp [intOf]; omega
              · go_wp2_with fail
                go_roundw
                case rel => exact ⟨i + 1, by omega, by go_num, lc_skip HH.out HX.out (by omega)⟩
                case measure => simp [intOf]; omega
            · have ei : i = ms.length := by omega
              subst ei
              have h2 := lc_done H3 hk
              obtain ⟨m, a, W, x, gl', lc', gc, cc', e1, rfl, em, ea, eW, hx, h1x, ham, hmc, hWc, hc1, hc2⟩ := l2_open h2 hlt
              injection e1 with e1 _ e3
              injection e1 with e1
              injection e1 with e1
              subst e1 e3
              have hxb : x ≤ 65536 := by
                have h1 := get_le_tot _ _ _ hx
                have h2 := leftF_tot k 0 ms ps (by omega)
                omega
              have hno : u9.ownBlock ≠ some gl := h2.lo gl rfl
              obtain ⟨gg, cc2, eg, _, _, hfr, _⟩ := own_at h2.left hx
              injection eg with eg _ eg3
              injection eg with eg
              injection eg with eg
              subst eg eg3
              have HBS := Lib.hid (show w.heap.size ≤ (wr.setCell ⟨gl, W, none⟩ (.int .i64 (x - 1))).heap.size by simpa using hB)
              have HH := Lib.hid h2
              have HBB := Lib.hid hB
              have HX := Lib.hid hx
              have EA := Lib.hid ea
              have EW := Lib.hid eW
              have hai : (a : Int) < (m : Int) := by omega
              have hmp : 0 < (m : Int) := by omega
              have hWi : (W : Int) < (ms.length : Int) := by omega
              have hWb : (W : Int) ≤ 20 := by omega
              have hmb : (m : Int) ≤ 20 := by omega
              clear ham hmc hWc H3 h2 hB hx em ea eW
              by_cases hp : k < ps.length
              · obtain ⟨p, hpp⟩ : ∃ p, ps[k]? = some p := ⟨_, List.getElem?_eq_getElem hp⟩
                have hpi : (k : Int) < (ps.length : Int) := by omega
                obtain ⟨pb, po, rfl, hpc⟩ := HP.out.get k p hpp
                have hpr : wr.cell? ⟨pb, po + k, none⟩ = some (.int .i64 p) := by
                  rw [HH.out.below.cell (p := ⟨pb, po + k, none⟩) (World.block_lt_of_cell? w _ hpc)]; exact hpc
                clear hpc
                have hpl : max 0 p % (m : Int) = (a : Int) := by
                  have := EA.out
                  unfold place at this
                  rw [hpp] at this
                  simp only at this
                  rw [this, Int.natCast_emod, Int.toNat_of_nonneg (by omega)]
                clear hpp
                go_upto_region 26 with (fail)
                go_wp2_with (at_builtin; refine append1' rfl _ _ rfl w.heap.size _ _ _ rfl (ownsRow_setCell_other (a := ⟨gl, W, none⟩) HH.out.ord hno _) HBS.out (by omega) _ _ wr.heap.size (by simp) rfl ?_; intro g' cap' w2 ho2 hg2 hat2)
                go_roundw
                case rel => exact ⟨k + 1, by omega, by go_num, lb_next HH.out hlt HBB.out EW.out HX.out hg2 ho2 hat2⟩
                case measure => simp [intOf]; omega
              · have e0 : a = 0 := by
                  have := EA.out
                  unfold place at this
                  rw [List.getElem?_eq_none (by omega)] at this
                  exact this
                subst e0
                have hpd : decide (k < ps.length) = false := by simp; omega
                go_upto_region 26 with (fail)
                go_wp2_with (at_builtin; refine append1' rfl _ _ rfl w.heap.size _ _ _ rfl (ownsRow_setCell_other (a := ⟨gl, W, none⟩) HH.out.ord hno _) HBS.out (by omega) _ _ wr.heap.size (by simp) rfl ?_; intro g' cap' w2 ho2 hg2 hat2)
                go_roundw
                case rel => exact ⟨k + 1, by omega, by go_num, lb_next HH.out hlt HBB.out EW.out HX.out hg2 ho2 hat2⟩
                case measure => simp [intOf]; omega
        · have ek : k = (tot ms).toNat := by omega
          have hov : ord ms ps = ordF k 0 ms ps := by
            unfold ord
            rw [if_neg (by omega), ek]
          have HO := Lib.hid hov
          have EK := Lib.hid ek
          have HH := Lib.hid H2
          clear H2 hov ek
          go_wp2_with fail
          go_ret
          refine ⟨_, rfl, ?_, HH.out.below⟩
          rw [← HOP.out, HO.out, ordF_length]
          exact HH.out.ord

end Go.Proofs.Ytlnpjcamcefbkaa.Rw
