/- Two rows of operations in one, as plain lists; the walk of Merge. -/
import Derived.Test.YtlnpjcamcefbkaaRa
import Derived.Test.YtlnpjcamcefbkaaRq
import Derived.Test.YtlnpjcamcefbkaaOpen
import Derived.Test.YtlnpjcamcefbkaaFl
import Derived.Deep.RegionHeld3
import Derived.Deep.AppendLies
import Derived.Laws.MakeOwn
namespace Go.Proofs.Ytlnpjcamcefbkaa.Rg
open Go Go.RowKit Go.Proofs.Ytlnpjcamcefbkaa.K Go.Proofs.Ytlnpjcamcefbkaa.Ro Go.Proofs.Ytlnpjcamcefbkaa.Rw

theorem ordF_mem (ps : List Int) : ∀ (k i : Nat) (left : List Int), (k : Int) ≤ tot left → ∀ w ∈ ordF k i left ps, w < left.length := by
  intro k
  induction k with
  | zero => intro i left _ w hw; simp [ordF] at hw
  | succ k ih =>
    intro i left hk w hw
    obtain ⟨y, h1, h2, h3, h4⟩ := who_spec (ps := ps) (i := i) (left := left) (by omega)
    have ht := after_tot (ps := ps) (i := i) (left := left) (by omega)
    rw [ordF] at hw
    rcases List.mem_cons.1 hw with rfl | hw
    · exact lt_of_get h2
    · rw [← ht.2]; exact ih (i + 1) _ (by omega) w hw

/-- The order of two. -/
structure Two (na nb : Nat) (o : List Nat) : Prop where
  len : o.length = na + nb
  bit : ∀ (j w : Nat), o[j]? = some w → w = 0 ∨ w = 1
  ca : o.count 0 = na
  cb : o.count 1 = nb

theorem two_of (na nb : Nat) (ps : List Int) (h : na + nb ≤ 200) : Two na nb (ord [(na : Int), (nb : Int)] ps) := by
  have ht : tot [(na : Int), (nb : Int)] = ((na + nb : Nat) : Int) := by simp only [tot]; omega
  have h0 := Ra.count_ord [(na : Int), (nb : Int)] ps (by omega) 0 na rfl
  have h1 := Ra.count_ord [(na : Int), (nb : Int)] ps (by omega) 1 nb rfl
  refine ⟨by rw [ord_len (by omega), ht]; omega, fun j w hw => ?_, by omega, by omega⟩
  have hm := List.mem_of_getElem? hw
  unfold ord at hm
  rw [if_neg (by omega)] at hm
  have := ordF_mem ps _ 0 _ (by omega) w hm
  simp at this
  omega

/-- How often a client came ahead of j. -/
def cn (o : List Nat) (j w : Nat) : Nat := (o.take j).count w
def pick (a b : List COp) (w : Nat) : List COp := if w = 0 then a else b

theorem take_snoc {α : Type} {l : List α} {k : Nat} {x : α} (h : l[k]? = some x) : l.take (k + 1) = l.take k ++ [x] := by
  rw [List.take_add_one, h]; rfl

theorem cn_succ {o : List Nat} {j w : Nat} (h : o[j]? = some w) (v : Nat) : cn o (j + 1) v = cn o j v + if w = v then 1 else 0 := by
  unfold cn
  rw [take_snoc h, List.count_append]
  simp [List.count_cons]

theorem cn_lt {o : List Nat} {j w : Nat} (h : o[j]? = some w) : cn o j w < o.count w := by
  have h1 := cn_succ h w
  rw [if_pos rfl] at h1
  have h2 : cn o (j + 1) w ≤ o.count w := (List.take_sublist (j + 1) o).count_le w
  omega

theorem two_at {a b : List COp} {o : List Nat} {j w : Nat} (h : Two a.length b.length o) (hw : o[j]? = some w) : ∃ x, (pick a b w)[cn o j w]? = some x := by
  have hl := cn_lt hw
  unfold pick
  rcases h.bit j w hw with rfl | rfl
  · rw [h.ca] at hl
    exact ⟨_, List.getElem?_eq_getElem hl⟩
  · rw [h.cb] at hl
    exact ⟨_, List.getElem?_eq_getElem hl⟩

/-- The row, so far. -/
def mrg (a b : List COp) (o : List Nat) : Nat → List COp
  | 0 => []
  | j + 1 => mrg a b o j ++ ((pick a b (o.getD j 0))[cn o j (o.getD j 0)]?).toList

theorem mrg_succ {a b : List COp} {o : List Nat} {j w : Nat} {x : COp} (hw : o[j]? = some w) (hx : (pick a b w)[cn o j w]? = some x) : mrg a b o (j + 1) = mrg a b o j ++ [x] := by
  have : o.getD j 0 = w := by rw [List.getD_eq_getElem?_getD, hw]; rfl
  rw [mrg, this, hx]; rfl

theorem mrg_length {a b : List COp} {o : List Nat} (h : Two a.length b.length o) : ∀ j, j ≤ o.length → (mrg a b o j).length = j
  | 0, _ => rfl
  | j + 1, hj => by
    have hw : o[j]? = some o[j] := List.getElem?_eq_getElem (by omega)
    obtain ⟨x, hx⟩ := two_at h hw
    rw [mrg_succ hw hx, List.length_append, mrg_length h j (by omega)]; rfl

theorem mrg_get {a b : List COp} {o : List Nat} (h : Two a.length b.length o) {j w : Nat} {x : COp} (hw : o[j]? = some w) (hx : (pick a b w)[cn o j w]? = some x) :
    ∀ n, j < n → n ≤ o.length → (mrg a b o n)[j]? = some x
  | 0, h1, _ => by omega
  | n + 1, h1, h2 => by
    have hl := mrg_length h n (by omega)
    have hwn : o[n]? = some o[n] := List.getElem?_eq_getElem (by omega)
    obtain ⟨y, hy⟩ := two_at h hwn
    rw [mrg_succ hwn hy]
    by_cases e : j = n
    · subst e
      rw [hw] at hwn
      cases hwn
      rw [hx] at hy
      cases hy
      rw [List.getElem?_append_right (by omega), hl, Nat.sub_self]; rfl
    · rw [List.getElem?_append_left (by omega)]
      exact mrg_get h hw hx n (by omega) (by omega)

def opc (l : List COp) : List Value := l.flatMap COp.cells
theorem op4 (x : COp) : x.cells.length = 4 := rfl
theorem opc_snoc (l : List COp) (x : COp) : opc (l ++ [x]) = opc l ++ x.cells := by simp [opc]

theorem info32 : (Try.prog.info? 32).map (fun i => (i.zero, i.size, i.bytes)) = some (some (.agg #[.int .i64 0, .string ByteArray.empty, .string ByteArray.empty, .int .i64 0]), 4, 48) := by kernel_rfl

/-- In the loop of Merge. -/
structure LM (B : Nat) (a b : List COp) (o : List Nat) (j gat : Nat) (vo va : Value) (w wr : World) : Prop where
  all : wr.ownsRow B 32 4 va j (opc (mrg a b o j))
  at_ : wr.heap[gat]? = some (.cells #[.int .i64 (cn o j 0 : Int), .int .i64 (cn o j 1 : Int)] 3 (0, 0))
  ord : wr.ownsRow B 3 1 vo o.length (nats o)
  ne : va.ownBlock ≠ some gat
  no : vo.ownBlock ≠ some gat
  nn : ∀ g, va.ownBlock = some g → vo.ownBlock ≠ some g
  ge : B ≤ gat
  below : Below B w wr

theorem LM.step {B : Nat} {a b : List COp} {o : List Nat} {j gat g cap w : Nat} {vo va : Value} {w0 wr w1 : World} {x : COp} (h : LM B a b o j gat vo va w0 wr) (hw : o[j]? = some w) (h01 : w = 0 ∨ w = 1)
    (hx : (pick a b w)[cn o j w]? = some x) (hg : wr.grownBy w1 va.ownBlock) (hB : B ≤ wr.heap.size)
    (hown : w1.ownsRow B 32 4 (.slice (some ⟨g, 0, none⟩) (j + 1) cap) (j + 1) (opc (mrg a b o j) ++ x.cells)) (hat : va.ownBlock = some g ∨ wr.heap.size ≤ g) :
    LM B a b o (j + 1) gat vo (.slice (some ⟨g, 0, none⟩) (j + 1) cap) w0 (w1.setCell ⟨gat, w, none⟩ (.int .i64 (cn o (j + 1) w : Int))) := by
  have hgl := lt_of_block h.at_
  have hne : g ≠ gat := by
    rintro rfl
    rcases hat with e | e
    · exact h.ne e
    · omega
  have hat1 : w1.heap[gat]? = some (.cells #[.int .i64 (cn o j 0 : Int), .int .i64 (cn o j 1 : Int)] 3 (0, 0)) := by
    rw [hg.block gat hgl (fun e => h.ne e.symm)]; exact h.at_
  have ho1 := h.ord.kept hg (by
    cases hv : vo.ownBlock with
    | none => exact .inl rfl
    | some q => exact .inr (fun e => h.nn q e.symm hv))
  have hb1 := h.below.grown hg hB (fun q hq => (h.all.lt q hq).1)
  have h0 := cn_succ hw 0
  have h1 := cn_succ hw 1
  refine ⟨?_, ?_, ?_, by simpa [Value.ownBlock] using hne, h.no, ?_, h.ge, hb1.setCell h.ge _⟩
  · rw [mrg_succ hw hx, opc_snoc]
    exact ownsRow_setCell_other (a := ⟨gat, w, none⟩) hown (by simpa [Value.ownBlock] using hne) _
  · rw [block_setCell hat1]
    rcases h01 with rfl | rfl
    · rw [if_neg (by decide)] at h1
      rw [h1, Nat.add_zero]; rfl
    · rw [if_neg (by decide)] at h0
      rw [h0, Nat.add_zero]; rfl
  · exact ownsRow_setCell_other (a := ⟨gat, w, none⟩) ho1 h.no _
  · intro q hq hv
    have e : g = q := by simpa [Value.ownBlock] using hq
    subst e
    rcases hat with e | e
    · exact h.nn g e hv
    · have := (h.ord.lt g hv).2; omega

theorem own_base {w : World} {base base' : Nat} {e : TypeId} {size : Nat} {v : Value} {n : Nat} {xs : List Value} (h : w.ownsRow base e size v n xs) (hb : base' ≤ base) : w.ownsRow base' e size v n xs := by
  refine ⟨h.1, ?_⟩
  rcases h.2 with h2 | ⟨g, cap, cur, e1, h3, rest⟩
  · exact .inl h2
  · exact .inr ⟨g, cap, cur, e1, Nat.le_trans hb h3, rest⟩

theorem cells2 {w : World} {b : Nat} {x y : Value} {T : TypeId} (h : w.heap[b]? = some (.cells #[x, y] T (0, 0))) :
    w.cell? ⟨b, 0, none⟩ = some x ∧ w.cell? ⟨b, 1, none⟩ = some y ∧ (∀ o, w.frozen? ⟨b, o, none⟩ = false) :=
  ⟨cell_of h 0, cell_of h 1, free_of h⟩

theorem far {w w' : World} {row : Option Nat} {b o n : Nat} (hg : w.grownBy w' row) (hne : row ≠ some b) (hlt : b < n) (hn : n ≤ w.heap.size) : w'.cell? ⟨b, o, none⟩ = w.cell? ⟨b, o, none⟩ :=
  hg.cell_far ⟨b, o, none⟩ (Nat.lt_of_lt_of_le hlt hn) (Ne.symm hne)

theorem keep6 {w w' : World} {row : Option Nat} {bo gt ob n o0 o1 o2 o3 o4 o5 : Nat} {v0 v1 v2 v3 v4 v5 : Value} (hg : w.grownBy w' row) (n1 : row ≠ some bo) (n2 : row ≠ some gt) (n3 : row ≠ some ob)
    (l1 : bo < n) (l2 : gt < n) (l3 : ob < n) (hn : n ≤ w.heap.size)
    (h : w.cell? ⟨bo, o0, none⟩ = some v0 ∧ w.cell? ⟨gt, o1, none⟩ = some v1 ∧ w.cell? ⟨ob, o2, none⟩ = some v2 ∧ w.cell? ⟨ob, o3, none⟩ = some v3 ∧ w.cell? ⟨ob, o4, none⟩ = some v4 ∧ w.cell? ⟨ob, o5, none⟩ = some v5) :
    w'.cell? ⟨bo, o0, none⟩ = some v0 ∧ w'.cell? ⟨gt, o1, none⟩ = some v1 ∧ w'.cell? ⟨ob, o2, none⟩ = some v2 ∧ w'.cell? ⟨ob, o3, none⟩ = some v3 ∧ w'.cell? ⟨ob, o4, none⟩ = some v4 ∧ w'.cell? ⟨ob, o5, none⟩ = some v5 := by
  rw [far hg n1 l1 hn, far hg n2 l2 hn, far hg n3 l3 hn, far hg n3 l3 hn, far hg n3 l3 hn, far hg n3 l3 hn]
  exact h

theorem grown_alloc {w w' : World} {row : Option Nat} {x : Obj} (hg : (w.alloc x).drew.grownBy w' row) : w.grownBy w' row := by
  refine ⟨hg.os, hg.tape, hg.output, ?_, fun i hi hne => ?_⟩
  · have := hg.size; simp at this; omega
  · rw [hg.block i (by simp; omega) hne]; exact Below.heap_alloc w _ i hi

/-- What Merge leaves. -/
def MergePost (a b : List COp) (o : List Nat) (w : World) (e : Ending) (w' : World) : Prop :=
  ∃ v, e = .returned v ∧ w'.ownsRow w.heap.size 32 4 v o.length (opc (mrg a b o o.length)) ∧ Below w.heap.size w w'

set_option maxHeartbeats 1600000 in
set_option maxRecDepth 100000 in
theorem merge_calls (bo : Nat) (A C D : Option Addr) (ca cb cd : Nat) (a b : List COp) (ps : List Int) (w : World)
    (hbo : w.heap[bo]? = some (.cells #[.slice A a.length ca, .slice C b.length cb] 28 (0, 0))) (hA : ROp w A a) (hC : ROp w C b) (hD : RInt w D ps) (hn : a.length + b.length ≤ 200) :
    Calls Try.prog 13 #[.slice (some ⟨bo, 0, none⟩) 2 2, .slice D ps.length cd] w (MergePost a b (ord [(a.length : Int), (b.length : Int)] ps) w) := by
  have two := two_of a.length b.length ps hn
  generalize hor : ord [(a.length : Int), (b.length : Int)] ps = o at *
  have HOR := Lib.hid hor
  have HBO := Lib.hid hbo
  have HA := Lib.hid hA
  have HC := Lib.hid hC
  have HD := Lib.hid hD
  have TW := Lib.hid two
  have hol := two.len
  clear hor hbo hA hC hD two
  go_enter Try.func13, Try.ntmps13
  go_wp2_with fail
  go_loopw [5, 14] (fun v5 v14 wr => ∃ k : Nat, k ≤ 2 ∧ v14 = .int .i64 k ∧ wr.ownsRow w.heap.size 3 1 v5 k (ints (([(a.length : Int), (b.length : Int)]).take k)) ∧ Below w.heap.size w wr) (fun v5 v14 wr => 2 - (intOf v14).toNat)
  case atStart => exact ⟨0, by omega, rfl, World.ownsRow_nil _ _ _ _, Below.refl _ _⟩
  case round =>
    obtain ⟨k, hk, rfl, ho, hb⟩ := hrel
    have HO := Lib.hid ho
    have HB := Lib.hid hb
    have HBS : Hid (w.heap.size ≤ wr.heap.size) := Lib.hid hb.size
    obtain ⟨gA, gc, rfl⟩ := own_form ho
    have HO := Lib.hid ho
    have hboR : wr.heap[bo]? = _ := (hb.block bo (lt_of_block HBO.out)).trans HBO.out
    obtain ⟨c0, c1, fr⟩ := cells2 hboR
    clear ho hb hboR
    obtain rfl | rfl | rfl : k = 0 ∨ k = 1 ∨ k = 2 := by omega
    · go_wp2_with (at_builtin; refine append1 rfl _ _ rfl w.heap.size _ _ _ rfl HO.out HBS.out (by omega) _ _ rfl ?_; intro g' cap' w2 ho2 hg2 hat2)
      go_roundw
      case rel => exact ⟨1, by omega, by go_num, ho2, HB.out.grown hg2 HBS.out (fun g hg => (HO.out.lt g hg).1)⟩
      case measure => simp [intOf]
    · go_wp2_with (at_builtin; refine append1 rfl _ _ rfl w.heap.size _ _ _ rfl HO.out HBS.out (by omega) _ _ rfl ?_; intro g' cap' w2 ho2 hg2 hat2)
      go_roundw
      case rel => exact ⟨2, by omega, by go_num, ho2, HB.out.grown hg2 HBS.out (fun g hg => (HO.out.lt g hg).1)⟩
      case measure => simp [intOf]
    · have hmk : ∀ w : World, (Instr.makeSlice 22 (.int .i64 2) (.int .i64 2)).run Try.prog w = .ok (.slice (some ⟨w.heap.size, 0, none⟩) 2 2) (w.alloc (.cells #[.int .i64 0, .int .i64 0] 3)) := fun _ => by kernel_rfl
      go_wp2_with fail
      have ho' : wr.ownsRow w.heap.size 3 1 (.slice gA 2 gc) 2 (([(a.length : Int), (b.length : Int)]).map (Value.int .i64)) := HO.out
      obtain ⟨A', c', e', hR⟩ := RInt.of_own ho' (by simp)
      injection e' with e1 _ e3
      subst e1 e3
      have hR1 := hR.below (w' := wr.alloc (.cells #[.int .i64 0, .int .i64 0] 3)) ((Below.refl _ _).alloc (Nat.le_refl _) _)
      have hD1 := (HD.out.below HB.out).below (w' := wr.alloc (.cells #[.int .i64 0, .int .i64 0] 3)) ((Below.refl _ _).alloc (Nat.le_refl _) _)
      refine (order_calls _ _ gc cd [(a.length : Int), (b.length : Int)] ps _ hR1 hD1).mono ?_
      rintro e w1 ⟨v, rfl, hv, hb1⟩
      rw [HOR.out] at hv
      obtain ⟨oA, oc, rfl⟩ := own_form hv
      have hgs : Hid (w.heap.size ≤ wr.heap.size) := HBS
      have h0 : LM w.heap.size a b o 0 wr.heap.size (.slice oA o.length oc) (.slice none 0 0) w w1 := by
        have hat : w1.heap[wr.heap.size]? = some (.cells #[.int .i64 0, .int .i64 0] 3 (0, 0)) :=
          (hb1.block _ (by simp)).trans (block_new wr _)
        refine ⟨World.ownsRow_nil _ _ _ _, hat, own_base hv (by simp; have := HBS.out; omega), by simp [Value.ownBlock], fun e => ?_, by simp [Value.ownBlock], HBS.out, ?_⟩
        · have h9 := (hv.lt _ e).1
          rw [show (wr.alloc (.cells #[.int .i64 0, .int .i64 0] 3)).heap.size = wr.heap.size + 1 by simp] at h9
          omega
        · exact HB.out.trans (((Below.refl wr.heap.size wr).alloc (Nat.le_refl _) _).mono HBS.out |>.trans (hb1.mono (by simp; have := HBS.out; omega)))
      have H0 := Lib.hid h0
      clear h0 hv hb1 hR hR1 hD1 HO ho' hmk c0 c1 fr
      obtain ⟨gt, hgt⟩ : ∃ gt, gt = wr.heap.size := ⟨_, rfl⟩
      rw [← hgt] at H0 ⊢
      clear hgt
      go_wp2_with fail
      go_loopw [9, 31] (fun v9 v31 wq => ∃ j : Nat, j ≤ o.length ∧ v31 = .int .i64 j ∧ LM w.heap.size a b o j gt (.slice oA o.length oc) v9 w wq) (fun v9 v31 wq => o.length - (intOf v31).toNat)
      case atStart => exact ⟨0, by omega, rfl, H0.out⟩
      case round =>
        clear H0
        obtain ⟨j, hj, rfl, hL⟩ := hrel
        have HL := Lib.hid hL
        have HBS2 : Hid (w.heap.size ≤ wr.heap.size) := Lib.hid hL.below.size
        clear hL
        by_cases hlt : j < o.length
        · obtain ⟨q, hq⟩ : ∃ q, o[j]? = some q := ⟨_, List.getElem?_eq_getElem hlt⟩
          have h01 := TW.out.bit j q hq
          obtain ⟨x, hx⟩ := two_at TW.out hq
          have hcl := cn_lt hq
          obtain ⟨og, ocap, eo, -, hco, -⟩ := own_at_nat HL.out.ord hq
          injection eo with eo1 _ eo3
          subst eo1 eo3
          have hcb : cn o j q ≤ j := by unfold cn; have := List.count_le_length (a := q) (l := o.take j); simp at this; omega
          have hbr : wr.heap[bo]? = _ := (HL.out.below.block bo (lt_of_block HBO.out)).trans HBO.out
          obtain ⟨c0, c1, fr⟩ := cells2 hbr
          obtain ⟨a0, a1, afr⟩ := cells2 HL.out.at_
          have hj0 : (0 : Int) ≤ (j : Int) := by omega
          have hj1 : (j : Int) < (o.length : Int) := by omega
          have hcs := cn_succ hq q
          rw [if_pos rfl] at hcs
          have HCS := Lib.hid hcs
          clear hcs
          rcases h01 with rfl | rfl
          · rw [TW.out.ca] at hcl
            obtain ⟨ob, oo, rfl, hc, -⟩ := (HA.out.below HL.out.below).get _ x hx
            have hoc : ∀ t v, x.cells[t]? = some v → wr.cell? ⟨ob, oo + cn o j 0 * 4 + t, none⟩ = some v := fun t v hv => by rw [Nat.add_assoc]; exact hc t v hv
            have k0 := hoc 0 _ rfl
            have k1 := hoc 1 _ rfl
            have k2 := hoc 2 _ rfl
            have k3 := hoc 3 _ rfl
            simp only [Nat.add_zero] at k0
            have lob : ob < w.heap.size := by
              obtain ⟨ob', oo', e', hc', -⟩ := HA.out.get _ x hx
              cases e'
              exact World.block_lt_of_cell? w _ (hc' 0 _ rfl)
            have lbo := lt_of_block HBO.out
            have lgt := lt_of_block HL.out.at_
            have na : ∀ k, k < w.heap.size → u9.ownBlock ≠ some k := fun k hk e => by have := (HL.out.all.lt k e).1; omega
            have nb := na bo lbo
            have no := na ob lob
            have ng := HL.out.ne
            have hs := HBS2.out
            have lbo' : bo < wr.heap.size := by omega
            have lob' : ob < wr.heap.size := by omega
            have hc0 : (0 : Int) ≤ (cn o j 0 : Int) := by omega
            have hc1 : (cn o j 0 : Int) < (a.length : Int) := by omega
            obtain ⟨i0, hi0, hz0, hz1, hz2⟩ := info_parts info32
            have HX := Lib.hid hx
            have HQ := Lib.hid hq
            have hcw : (cn o j 0 : Int) + 1 = (cn o (j + 1) 0 : Int) := by rw [HCS.out]; rfl
            have HCW := Lib.hid hcw
            have hcb2 : (cn o j 0 : Int) ≤ 200 := by omega
            clear hc hoc na hx hq fr afr hcw
            go_wp2_with fail
            go_region_held3 (fun w' => w'.cell? ⟨bo, 0, none⟩ = some (.slice (some ⟨ob, oo, none⟩) a.length ca) ∧ w'.cell? ⟨gt, 0, none⟩ = some (.int .i64 (cn o j 0 : Int)) ∧
                w'.cell? ⟨ob, oo + cn o j 0 * 4, none⟩ = some (.int .i64 x.kind) ∧ w'.cell? ⟨ob, oo + cn o j 0 * 4 + 1, none⟩ = some (.string x.key) ∧
                w'.cell? ⟨ob, oo + cn o j 0 * 4 + 2, none⟩ = some (.string x.val) ∧ w'.cell? ⟨ob, oo + cn o j 0 * 4 + 3, none⟩ = some (.int .i64 x.n))
              (first
                | (go_keep; done)
                | (exact keep6 hgrow nb ng no lbo' lgt lob' (by simp) (by assumption))
                | (exact keep6 hgrow nb ng no lbo' lgt lob' (by simp) ⟨by assumption, by assumption, by assumption, by assumption, by assumption, by assumption⟩))
              ((refine step_append_lies _ (by rfl) _ _ _ (by rfl) w.heap.size 32 i0 _ 4 48 Try.underlying28 hi0 hz0 hz1 hz2 rfl (by omega) u9 j _ (by rfl) ((HL.out.all.alloc _).drew)
                  ⟨wr.heap.size, 0, none⟩ 1 1 x.cells (by rfl) (by rfl) (World.news_of_block (cs := #[.int .i64 x.kind, .string x.key, .string x.val, .int .i64 x.n]) (t := 32) (fr := (0, 0)) (heap_alloc_new wr _)) (by simp [COp.cells, Value.oneCell'])
                  (by omega) (by unfold maxLen; omega) (by omega) (by simp; omega) (wr.heap.size + 1) (by simp) ?_; intro gg cap w1 hown1 hgrow hat hlt))
            have hgw := grown_alloc hgrow
            have hat' : u9.ownBlock = some gg ∨ wr.heap.size ≤ gg := hat.imp id (fun e => by omega)
            have hst := HL.out.step HQ.out (.inl rfl) HX.out hgw HBS2.out hown1 hat'
            rw [← HCW.out] at hst
            have hg1 : w1.heap[gt]? = _ := (hgw.block gt lgt (fun e => ng e.symm)).trans HL.out.at_
            obtain ⟨d0, d1, dfr⟩ := cells2 hg1
            have HST := Lib.hid hst
            clear hst hat hat' hgrow hgw hown1 hg1 c0 c1 a0 a1 k0 k1 k2 k3
            go_wp2_with fail
            go_roundw
            case rel => exact ⟨j + 1, by omega, by go_num, HST.out⟩
            case measure => simp [intOf]; omega
          · rw [TW.out.cb] at hcl
            obtain ⟨ob, oo, rfl, hc, -⟩ := (HC.out.below HL.out.below).get _ x hx
            have hoc : ∀ t v, x.cells[t]? = some v → wr.cell? ⟨ob, oo + cn o j 1 * 4 + t, none⟩ = some v := fun t v hv => by rw [Nat.add_assoc]; exact hc t v hv
            have k0 := hoc 0 _ rfl
            have k1 := hoc 1 _ rfl
            have k2 := hoc 2 _ rfl
            have k3 := hoc 3 _ rfl
            simp only [Nat.add_zero] at k0
            have lob : ob < w.heap.size := by
              obtain ⟨ob', oo', e', hc', -⟩ := HC.out.get _ x hx
              cases e'
              exact World.block_lt_of_cell? w _ (hc' 0 _ rfl)
            have lbo := lt_of_block HBO.out
            have lgt := lt_of_block HL.out.at_
            have na : ∀ k, k < w.heap.size → u9.ownBlock ≠ some k := fun k hk e => by have := (HL.out.all.lt k e).1; omega
            have nb := na bo lbo
            have no := na ob lob
            have ng := HL.out.ne
            have hs := HBS2.out
            have lbo' : bo < wr.heap.size := by omega
            have lob' : ob < wr.heap.size := by omega
            have hc0 : (0 : Int) ≤ (cn o j 1 : Int) := by omega
            have hc1 : (cn o j 1 : Int) < (b.length : Int) := by omega
            obtain ⟨i0, hi0, hz0, hz1, hz2⟩ := info_parts info32
            have HX := Lib.hid hx
            have HQ := Lib.hid hq
            have hcw : (cn o j 1 : Int) + 1 = (cn o (j + 1) 1 : Int) := by rw [HCS.out]; rfl
            have HCW := Lib.hid hcw
            have hcb2 : (cn o j 1 : Int) ≤ 200 := by omega
            clear hc hoc na hx hq fr afr hcw
            go_wp2_with fail
            go_region_held3 (fun w' => w'.cell? ⟨bo, 1, none⟩ = some (.slice (some ⟨ob, oo, none⟩) b.length cb) ∧ w'.cell? ⟨gt, 1, none⟩ = some (.int .i64 (cn o j 1 : Int)) ∧
                w'.cell? ⟨ob, oo + cn o j 1 * 4, none⟩ = some (.int .i64 x.kind) ∧ w'.cell? ⟨ob, oo + cn o j 1 * 4 + 1, none⟩ = some (.string x.key) ∧
                w'.cell? ⟨ob, oo + cn o j 1 * 4 + 2, none⟩ = some (.string x.val) ∧ w'.cell? ⟨ob, oo + cn o j 1 * 4 + 3, none⟩ = some (.int .i64 x.n))
              (first
                | (go_keep; done)
                | (exact keep6 hgrow nb ng no lbo' lgt lob' (by simp) (by assumption))
                | (exact keep6 hgrow nb ng no lbo' lgt lob' (by simp) ⟨by assumption, by assumption, by assumption, by assumption, by assumption, by assumption⟩))
              ((refine step_append_lies _ (by rfl) _ _ _ (by rfl) w.heap.size 32 i0 _ 4 48 Try.underlying28 hi0 hz0 hz1 hz2 rfl (by omega) u9 j _ (by rfl) ((HL.out.all.alloc _).drew)
                  ⟨wr.heap.size, 0, none⟩ 1 1 x.cells (by rfl) (by rfl) (World.news_of_block (cs := #[.int .i64 x.kind, .string x.key, .string x.val, .int .i64 x.n]) (t := 32) (fr := (0, 0)) (heap_alloc_new wr _)) (by simp [COp.cells, Value.oneCell'])
                  (by omega) (by unfold maxLen; omega) (by omega) (by simp; omega) (wr.heap.size + 1) (by simp) ?_; intro gg cap w1 hown1 hgrow hat hlt))
            have hgw := grown_alloc hgrow
            have hat' : u9.ownBlock = some gg ∨ wr.heap.size ≤ gg := hat.imp id (fun e => by omega)
            have hst := HL.out.step HQ.out (.inr rfl) HX.out hgw HBS2.out hown1 hat'
            rw [← HCW.out] at hst
            have hg1 : w1.heap[gt]? = _ := (hgw.block gt lgt (fun e => ng e.symm)).trans HL.out.at_
            obtain ⟨d0, d1, dfr⟩ := cells2 hg1
            have HST := Lib.hid hst
            clear hst hat hat' hgrow hgw hown1 hg1 c0 c1 a0 a1 k0 k1 k2 k3
            go_wp2_with fail
            go_roundw
            case rel => exact ⟨j + 1, by omega, by go_num, HST.out⟩
            case measure => simp [intOf]; omega
        · obtain rfl : j = o.length := by omega
          go_wp2_with fail
          go_ret
          exact ⟨_, rfl, HL.out.all, HL.out.below⟩

end Go.Proofs.Ytlnpjcamcefbkaa.Rg
