/- The rows of an engine: newRows. -/
import Derived.Test.YtkeicfajlmhajaaRg
import Derived.Deep.RegionLaw
namespace Go.Proofs.Ytkeicfajlmhajaa.Rw
open Go Go.RowKit Go.Proofs.Ytkeicfajlmhajaa.K
open Go.Proofs.Ytkeicfajlmhajaa.Li (Lst more more_lt hdl own_form')
open Go.Proofs.Ytkeicfajlmhajaa.In (Idx V)

theorem infoL : (Try.prog.info? 64).map (fun i => (i.zero, i.size, i.bytes)) = some (some (.pointer none), 1, 8) := by kernel_rfl

def NewRowsPost (R : Nat) (w : World) (e : Ending) (w' : World) : Prop :=
  ∃ v, e = .returned v ∧ Rows R w' v (fun k => w.heap.size ≤ k ∧ k < w'.heap.size) (fun _ => []) ∧ Below w.heap.size w w'

def NRel (R : Nat) (w3 : World) (bx k : Nat) (v7 : Value) (wr : World) : Prop :=
  ∃ (j : Nat) (l : Nat → Nat) (Fr : Nat → Nat → Prop) (gv : Value), k = R - j ∧ j ≤ R ∧ v7 = .int .i64 (j : Int) ∧
    wr.heap[w3.heap.size]? = some (.cells #[gv, .pointer (some ⟨bx, 0, none⟩)] 42 (0, 0)) ∧
    wr.ownsRow (w3.heap.size + 1) 64 1 gv j ((List.range j).map fun r => Value.pointer (some ⟨l r, 0, none⟩)) ∧
    (∀ r, r < j → Lst wr (l r) (Fr r) []) ∧ (∀ r, r < j → ∀ k, Fr r k → w3.heap.size < k ∧ gv.ownBlock ≠ some k) ∧
    (∀ r q, r < j → q < j → r ≠ q → ∀ k, Fr r k → ¬ Fr q k) ∧ Below w3.heap.size w3 wr

theorem sum_zero (R : Nat) : ((List.range R).map fun _ => ([] : Row).length).sum = 0 := by
  induction R with
  | zero => rfl
  | succ R ih => rw [List.range_succ, List.map_append, List.sum_append, ih]; rfl

/-- One more list. -/
theorem nrel_step {R : Nat} {w3 wr w5 w6 : World} {bx j f' cf' : Nat} {l : Nat → Nat} {Fr : Nat → Nat → Prop} {gv : Value} {o : Obj}
    (hj : j < R) (hc : wr.heap[w3.heap.size]? = some (.cells #[gv, .pointer (some ⟨bx, 0, none⟩)] 42 (0, 0)))
    (ho : wr.ownsRow (w3.heap.size + 1) 64 1 gv j ((List.range j).map fun r => Value.pointer (some ⟨l r, 0, none⟩)))
    (hl : ∀ r, r < j → Lst wr (l r) (Fr r) []) (hf : ∀ r, r < j → ∀ k, Fr r k → w3.heap.size < k ∧ gv.ownBlock ≠ some k)
    (hsep : ∀ r q, r < j → q < j → r ≠ q → ∀ k, Fr r k → ¬ Fr q k) (hb : Below w3.heap.size w3 wr)
    (h5 : Lst w5 (wr.heap.size + 1) (fun k => wr.heap.size ≤ k ∧ k < w5.heap.size) []) (hb5 : Below wr.heap.size wr.drew w5)
    (h6 : w6.ownsRow (w3.heap.size + 1) 64 1 (.slice (some ⟨f', 0, none⟩) (j + 1) cf') (j + 1) (((List.range j).map fun r => Value.pointer (some ⟨l r, 0, none⟩)) ++ [.pointer (some ⟨wr.heap.size + 1, 0, none⟩)]))
    (hg : (w5.alloc o).grownBy w6 gv.ownBlock) (hat : gv.ownBlock = some f' ∨ f' = w5.heap.size + 1) (k : Nat) (hk : k = R - (j + 1)) :
    NRel R w3 bx k (.int .i64 ((j + 1 : Nat) : Int)) (w6.setCell ⟨w3.heap.size, 0, none⟩ (.slice (some ⟨f', 0, none⟩) (j + 1) cf')) := by
  have h3 := lt_of_block hc
  have s5 : wr.heap.size ≤ w5.heap.size := hb5.size
  have hne : ∀ b, b ≤ w3.heap.size → some b ≠ gv.ownBlock := by intro b hb h; have := (ho.lt b h.symm).1; omega
  have hgl : ∀ b, gv.ownBlock = some b → b < wr.heap.size := fun b h => (ho.lt b h).2
  have hG : Upd (fun k => gv.ownBlock = some k) w5 w6 := by
    have h0 : Upd (fun k => gv.ownBlock = some k) w5 (w5.alloc o) := (Upd.refl _ _).alloc o
    exact h0.trans (Upd.of_grown hg)
  have h56 := hG.size
  have h5b : w5.heap[w3.heap.size]? = some (.cells #[gv, .pointer (some ⟨bx, 0, none⟩)] 42 (0, 0)) := (hb5.block _ h3).trans hc
  have h6b := hG.get h5b (fun h => hne _ (Nat.le_refl _) h.symm)
  have hU : Upd (fun k => gv.ownBlock = some k ∨ k = w3.heap.size) w5 (w6.setCell ⟨w3.heap.size, 0, none⟩ (.slice (some ⟨f', 0, none⟩) (j + 1) cf')) :=
    (hG.mono (fun k _ h => .inl h)).setCell (p := ⟨w3.heap.size, 0, none⟩) (.inl (.inr rfl)) _
  have hb5' : Upd (fun _ => False) wr w5 := Upd.of_drew (a := wr) (Upd.of_below (F := fun _ => False) hb5 (fun k h1 h2 => by have : k < wr.heap.size := h2; omega))
  have hs : (w6.setCell ⟨w3.heap.size, 0, none⟩ (.slice (some ⟨f', 0, none⟩) (j + 1) cf')).heap.size = w6.heap.size := by simp [World.setCell]
  have hflt : ∀ r, r < j → ∀ k, Fr r k → k < wr.heap.size := fun r hr => (hl r hr).lt
  refine ⟨j + 1, Rw.upd l j (wr.heap.size + 1), Rw.upd Fr j (fun k => wr.heap.size ≤ k ∧ k < w5.heap.size), .slice (some ⟨f', 0, none⟩) (j + 1) cf', hk, hj, rfl, ?_, ?_, ?_, ?_, ?_, ?_⟩
  · have := block_setCell (o := 0) (v := .slice (some ⟨f', 0, none⟩) (j + 1) cf') h6b
    simpa using this
  · have e : (List.range (j + 1)).map (fun r => Value.pointer (some ⟨Rw.upd l j (wr.heap.size + 1) r, 0, none⟩)) = ((List.range j).map fun r => Value.pointer (some ⟨l r, 0, none⟩)) ++ [.pointer (some ⟨wr.heap.size + 1, 0, none⟩)] := by
      rw [List.range_succ, List.map_append, List.map_cons, List.map_nil, Rw.upd_same]
      congr 1
      refine List.map_congr_left (fun r hr => ?_)
      rw [Rw.upd_other _ _ (by have := List.mem_range.1 hr; omega)]
    rw [e]
    have hf6 := (h6.lt f' rfl).1
    exact own_upd h6 ((Upd.refl (fun k => k = w3.heap.size) w6).setCell (p := ⟨w3.heap.size, 0, none⟩) (.inl rfl) _) (fun k hk h => by
      have : f' = k := by simpa [Value.ownBlock] using hk
      omega)
  · intro r hr
    by_cases e : r = j
    · subst e
      rw [Rw.upd_same, Rw.upd_same]
      refine h5.upd hU ?_
      rintro k ⟨k1, k2⟩ (h | h)
      · have := hgl k h; omega
      · omega
    · have hr' : r < j := by omega
      rw [Rw.upd_other _ _ e, Rw.upd_other _ _ e]
      refine ((hl r hr').upd hb5' (fun _ _ => id)).upd hU ?_
      rintro k h1 (h | h)
      · exact (hf r hr' k h1).2 h
      · have := (hf r hr' k h1).1; omega
  · intro r hr k hk
    have hno : ∀ k, (k < w5.heap.size) → gv.ownBlock ≠ some k → (Value.slice (some ⟨f', 0, none⟩) (j + 1) cf').ownBlock ≠ some k := by
      intro k h1 h2 h
      have : f' = k := by simpa [Value.ownBlock] using h
      subst this
      rcases hat with h3 | h3
      · exact h2 h3
      · omega
    by_cases e : r = j
    · subst e
      rw [Rw.upd_same] at hk
      exact ⟨by have := hk.1; omega, hno k hk.2 (fun h => by have := hgl k h; have := hk.1; omega)⟩
    · have hr' : r < j := by omega
      rw [Rw.upd_other _ _ e] at hk
      exact ⟨(hf r hr' k hk).1, hno k (by have := hflt r hr' k hk; omega) (hf r hr' k hk).2⟩
  · intro r q hr hq hne' k hk
    by_cases e : r = j
    · subst e
      rw [Rw.upd_same] at hk
      rw [Rw.upd_other _ _ (Ne.symm hne')]
      intro h
      have := hflt q (by omega) k h
      have := hk.1
      omega
    · rw [Rw.upd_other _ _ e] at hk
      by_cases e2 : q = j
      · rw [e2, Rw.upd_same]
        intro h
        have := hflt r (by omega) k hk
        have := h.1
        omega
      · rw [Rw.upd_other _ _ e2]
        exact hsep r q (by omega) (by omega) hne' k hk
  · have h0 : Below w3.heap.size w3 w5 := hb.trans ⟨hb5.os, hb5.tape, hb5.output, hb5.size, fun k hk => hb5.block k (by omega)⟩
    have h1 : Below w3.heap.size w5 w6 := hG.below (by omega) (fun i h => by have := (ho.lt i h).1; omega)
    exact (h0.trans h1).setCell (Nat.le_refl _) _

/-- All of them. -/
theorem nrel_end {R : Nat} {w w2 w3 wr : World} {bx : Nat} {l : Nat → Nat} {Fr : Nat → Nat → Prop} {gA : Option Addr} {gc : Nat}
    (h0 : 0 < R) (hX : Idx w3 bx (fun k => w2.heap.size ≤ k ∧ k < w3.heap.size) (fun _ _ => False) 0)
    (hB2 : Below w.heap.size w w2) (hB3 : Below w2.heap.size w2 w3) (hz : w.heap.size < w2.heap.size)
    (ho : wr.ownsRow (w3.heap.size + 1) 64 1 (.slice gA R gc) R ((List.range R).map fun r => Value.pointer (some ⟨l r, 0, none⟩)))
    (hl : ∀ r, r < R → Lst wr (l r) (Fr r) []) (hf : ∀ r, r < R → ∀ k, Fr r k → w3.heap.size < k ∧ (Value.slice gA R gc).ownBlock ≠ some k)
    (hsep : ∀ r q, r < R → q < R → r ≠ q → ∀ k, Fr r k → ¬ Fr q k) (hb : Below w3.heap.size w3 wr) (u v : Value) :
    Rows R ((wr.setCell ⟨w.heap.size, 0, none⟩ u).setCell ⟨w.heap.size, 1, none⟩ v) (.agg #[.slice gA R gc, .pointer (some ⟨bx, 0, none⟩)]) (fun k => w.heap.size ≤ k ∧ k < wr.heap.size) (fun _ => []) ∧
      Below w.heap.size w ((wr.setCell ⟨w.heap.size, 0, none⟩ u).setCell ⟨w.heap.size, 1, none⟩ v) := by
  obtain ⟨o1, (⟨o2, -⟩ | ⟨g, c, cur, o2, o3, o4, o5⟩)⟩ := id ho
  · cases o2; omega
  cases o2
  have s23 := hB3.size
  have s3 := hb.size
  have hU : Upd (fun k => k = w.heap.size) wr ((wr.setCell ⟨w.heap.size, 0, none⟩ u).setCell ⟨w.heap.size, 1, none⟩ v) :=
    ((Upd.refl (fun k => k = w.heap.size) wr).setCell (p := ⟨w.heap.size, 0, none⟩) (.inl rfl) _).setCell (p := ⟨w.heap.size, 1, none⟩) (.inl rfl) _
  have hs : ((wr.setCell ⟨w.heap.size, 0, none⟩ u).setCell ⟨w.heap.size, 1, none⟩ v).heap.size = wr.heap.size := by simp [World.setCell]
  have hg1 := (ho.lt g rfl)
  have hu3 : Upd (fun _ => False) w3 wr := Upd.of_below hb (fun k h1 h2 => by omega)
  refine ⟨⟨g, gc, bx, 0, l, fun _ => [], (fun k => w2.heap.size ≤ k ∧ k < w3.heap.size), Fr, fun _ _ => False, rfl, ⟨?_, ?_, ?_, ?_, hsep, ?_, ?_, ?_, ?_⟩, fun r hr => rfl, ⟨by omega, hg1.2⟩, ?_, ?_, ?_⟩, ?_⟩
  · exact own_mono (own_upd ho hU (fun k hk h => by
      have : g = k := by simpa [Value.ownBlock] using hk
      omega)) (Nat.zero_le _)
  · exact fun r hr => (hl r hr).upd hU (fun k hk h => by have := (hf r hr k hk).1; omega)
  · exact (hX.upd hu3 (fun _ _ => id)).upd hU (fun k hk h => by have := hk.1; omega)
  · intro k v
    exact ⟨False.elim, fun h => by simp at h⟩
  · intro r hr k hk h
    have := (hf r hr k hk).1
    have := h.2
    omega
  · intro h; have := h.2; omega
  · intro r hr h
    exact (hf r hr _ h).2 rfl
  · exact (sum_zero R).symm
  · intro k hk; exact ⟨by have := hk.1; omega, by have := hk.2; omega⟩
  · intro r hr k hk; exact ⟨by have := (hf r hr k hk).1; omega, (hl r hr).lt k hk⟩
  · intro k hk; rw [hs]; exact hk.2
  · exact ((hB2.trans (hB3.mono (by omega))).trans (hb.mono (by omega))).setCell (Nat.le_refl _) _ |>.setCell (Nat.le_refl _) _

/-- A block beside the appended row. -/
theorem far6 {w w5 : World} {b j : Nat} {gv p : Value} {xs : List Value} {T : TypeId} (hb : Below w.heap.size w.drew w5) (hc : w.heap[b]? = some (.cells #[gv, p] T (0, 0))) (ho : w.ownsRow (b + 1) 64 1 gv j xs) (o : Obj) (w6 : World) (hg : (w5.alloc o).grownBy w6 gv.ownBlock) :
    w6.cell? ⟨b, 0, none⟩ = some gv ∧ w6.frozen? ⟨b, 0, none⟩ = false := by
  have hlt := lt_of_block hc
  have hne : some b ≠ gv.ownBlock := by intro h; have := (ho.lt b h.symm).1; omega
  have h5 : w5.heap[b]? = some (.cells #[gv, p] T (0, 0)) := (hb.block b hlt).trans hc
  have h6 := (hg.block b (by simp; have := lt_of_block h5; omega) hne).trans (block_alloc (o := o) h5)
  exact ⟨cell_of h6 0, free_of h6 0⟩

set_option maxRecDepth 6000 in
theorem new_rows (w : World) (R : Nat) (hj0 : 0 < R) (hR : R ≤ 100) : Calls Try.prog 24 #[.int .i64 (R : Int)] w (NewRowsPost R w) := by
  have HI := Lib.hid (In.idx_new (w.alloc (.cells #[.slice none 0 0, .pointer none] 42)))
  have HV := Lib.hid (block_new w (.cells #[.slice none 0 0, .pointer none] 42))
  have HB2 : Hid (Below w.heap.size w (w.alloc (.cells #[.slice none 0 0, .pointer none] 42))) := Lib.hid ((Below.refl _ _).alloc (Nat.le_refl _) _)
  obtain ⟨i0, hi0, hz0, hz1, hz2⟩ := info_parts infoL
  go_enter Try.func24, Try.ntmps24
  go_wp2_with fail
  generalize w.alloc (.cells #[.slice none 0 0, .pointer none] 42) = w2 at *
  refine HI.out.mono ?_
  rintro e w3 ⟨rfl, hx3, hb3⟩
  obtain ⟨bx, hbx⟩ : ∃ bx, bx = w2.heap.size + 1 := ⟨_, rfl⟩
  rw [← hbx] at hx3 ⊢
  have HBX := Lib.hid hbx
  clear hbx
  have HX3 := Lib.hid hx3
  have HB3 := Lib.hid hb3
  clear hx3 hb3 HI
  go_wp2_with fail
  have HB4 : Hid (Below w3.heap.size w3 (w3.alloc (.cells #[.slice none 0 0, .pointer (some ⟨bx, 0, none⟩)] 42))) := Lib.hid ((Below.refl _ _).alloc (Nat.le_refl _) _)
  have HC := Lib.hid (block_new w3 (.cells #[.slice none 0 0, .pointer (some ⟨bx, 0, none⟩)] 42))
  have HS4 : Hid ((w3.alloc (.cells #[.slice none 0 0, .pointer (some ⟨bx, 0, none⟩)] 42)).heap.size = w3.heap.size + 1) := Lib.hid (by simp)
  generalize w3.alloc (.cells #[.slice none 0 0, .pointer (some ⟨bx, 0, none⟩)] 42) = w4 at *
  go_loopg [7] R (fun k v7 wr => NRel R w3 bx k v7 wr)
  case atStart => exact ⟨0, fun _ => 0, fun _ _ => False, .slice none 0 0, by omega, by omega, rfl, HC.out, World.ownsRow_nil _ _ _ _, fun r hr => by omega, fun r hr => by omega, fun r q hr => by omega, HB4.out⟩
  case round =>
    obtain ⟨j, l, Fr, gv, hgk, hj, rfl, hc, ho, hl, hf, hsep, hb⟩ := hrel
    obtain ⟨gA, gc, rfl⟩ := own_form' ho
    obtain ⟨c0, c1, fc⟩ := In.two_cells hc
    have hR' := Lib.hid hR
    clear hR
    have HGK := Lib.hid hgk
    have HO := Lib.hid ho
    have HL := Lib.hid hl
    have HF := Lib.hid hf
    have HSEP := Lib.hid hsep
    have HB := Lib.hid hb
    have HCC := Lib.hid hc
    clear hgk ho hl hf hsep hb hc
    rcases Nat.eq_or_lt_of_le hj with rfl | hjl
    · have hz : w.heap.size < w2.heap.size := lt_of_block HV.out
      have hz3 : w.heap.size < w3.heap.size := Nat.lt_of_lt_of_le hz HB3.out.size
      have hv := (HB.out.block _ hz3).trans ((HB3.out.block _ hz).trans HV.out)
      obtain ⟨t0, t1, ft⟩ := In.two_cells hv
      have HVV := Lib.hid hv
      have ne1 : w.heap.size ≠ w3.heap.size := by omega
      clear hv
      go_wp2_with fail
      have hE := nrel_end hj0 HX3.out HB2.out HB3.out hz HO.out HL.out HF.out HSEP.out HB.out (.slice gA j gc) (.pointer (some ⟨bx, 0, none⟩))
      have g1 := block_setCell (o := 0) (v := .slice gA j gc) HVV.out
      have g2 := block_setCell (o := 1) (v := .pointer (some ⟨bx, 0, none⟩)) g1
      have f0 : (wr.setCell ⟨w.heap.size, 0, none⟩ (.slice gA j gc)).cell? ⟨w.heap.size, 0, none⟩ = some (.slice gA j gc) := cell_of g1 0
      have f1 : ((wr.setCell ⟨w.heap.size, 0, none⟩ (.slice gA j gc)).setCell ⟨w.heap.size, 1, none⟩ (.pointer (some ⟨bx, 0, none⟩))).cell? ⟨w.heap.size, 1, none⟩ = some (.pointer (some ⟨bx, 0, none⟩)) := cell_of g2 1
      exact bodyPost_ret (v := .agg #[.slice gA j gc, .pointer (some ⟨bx, 0, none⟩)]) (by simp [results, Try.results24, go_sem, f0, f1]) rfl ⟨_, rfl, by simpa [World.setCell] using hE.1, hE.2⟩
    · have z1 : (j : Int) < (R : Int) := by omega
      have hj9 : j + 1 ≤ 100 := by have := hR'.out; omega
      have z0 : (0 : Int) ≤ (j : Int) := by omega
      have NW := Lib.hid (Li.lst_new wr.drew)
      go_wp2_with fail
      go_region_law (first | (go_simp; go_at_call 39; refine NW.out.mono ?_; rintro e w5 ⟨rfl, hl5, hb5⟩; have q0 := cell_below (w := wr.drew) hb5 c0; have q1 : ∀ o, (w5.alloc o).cell? ⟨w3.heap.size, 0, none⟩ = some (.slice gA j gc) := (fun o => cell_below ((Below.refl _ _).alloc (Nat.le_refl _) o) q0); have HO5 := Lib.hid (own_below (w := wr.drew) HO.out hb5); have hs5 : w3.heap.size + 1 ≤ w5.heap.size := Nat.le_trans (lt_of_block HCC.out) hb5.size; have HL5 := Lib.hid hl5; have HB5 := Lib.hid hb5; have HK6 := Lib.hid (far6 (w := wr) (gv := .slice gA j gc) hb5 HCC.out HO.out); clear hl5 hb5) | (refine step_append_lies _ (by rfl) (.tmp 10) (.tmp 12) 39 (by rfl) (w3.heap.size + 1) 64 i0 (.pointer none) 1 8 Try.underlying39 hi0 hz0 hz1 hz2 rfl (by omega) (.slice gA j gc) j ((List.range j).map fun r => Value.pointer (some ⟨l r, 0, none⟩)) (by rfl) (HO5.out.alloc _) ⟨w5.heap.size, 0, none⟩ 1 1 [.pointer (some ⟨wr.heap.size + 1, 0, none⟩)] (by rfl) (by rfl) (World.news_of_block (cs := #[.pointer (some ⟨wr.heap.size + 1, 0, none⟩)]) (t := 64) (fr := (0, 0)) (heap_alloc_new w5 _)) (by simp [Value.oneCell']) (by omega) (by unfold maxLen; omega) (by omega) (by simp; omega) (w5.heap.size + 1) (by simp) ?_; intro f' cf' w6 hown hgr hat hlt3; have q6 := HK6.out _ _ hgr; have p6 := q6.1; have p7 := q6.2; have HO6 := Lib.hid hown; have HG6 := Lib.hid hgr; have HA6 := Lib.hid hat; have HL6 := Lib.hid hlt3; clear q6 hown hgr hat hlt3))
      all_goals
        go_wp2
        go_roundg (R - (j + 1))
        case measure => rw [HGK.out]; omega
        case rel => exact nrel_step hjl HCC.out HO.out HL.out HF.out HSEP.out HB.out HL5.out HB5.out HO6.out HG6.out HA6.out _ rfl

end Go.Proofs.Ytkeicfajlmhajaa.Rw
