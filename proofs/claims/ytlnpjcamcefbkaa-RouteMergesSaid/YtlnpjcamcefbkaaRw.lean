/- The walk of route.Order. -/
import Derived.Test.YtlnpjcamcefbkaaInt
import Derived.Test.YtlnpjcamcefbkaaRo
import Derived.Test.YtlnpjcamcefbkaaShelf
import Derived.Lib.Hide
import Derived.OwnWalk
import Derived.Deep.Cut
import Derived.Deep.DeepCutAuto
import Derived.Laws.OwnMore
import Derived.Deep.AppendLies
namespace Go.Proofs.Ytlnpjcamcefbkaa.Rw
open Go Go.RowKit Go.Proofs.Ytlnpjcamcefbkaa.K Go.Proofs.Ytlnpjcamcefbkaa.Ro

theorem info3 : (Try.prog.info? 3).map (fun i => (i.zero, i.size, i.bytes)) = some (some (.int .i64 0), 1, 8) := by kernel_rfl

def ints (l : List Int) : List Value := l.map (Value.int .i64)
def nats (l : List Nat) : List Value := l.map fun n : Nat => Value.int .i64 (n : Int)

theorem clone_any (A : Option Addr) (c : Nat) (xs : List Int) (w : World) (h : RInt w A xs) :
    Calls Try.prog 16 #[.slice A xs.length c] w fun e w' => ∃ v', e = .returned v' ∧ w'.ownsRow w.heap.size 3 1 v' xs.length (ints xs) ∧ Below w.heap.size w w' := by
  cases A with
  | none =>
    have : xs = [] := by
      cases xs with
      | nil => rfl
      | cons x t => obtain ⟨b, o, he, _⟩ := h.get 0 x rfl; cases he
    subst this
    refine (Try.slices_Clone_int_nil _ c w).mono ?_
    rintro e w' ⟨rfl, rfl⟩
    exact ⟨_, rfl, World.ownsRow_nil _ _ _ _, Below.refl _ _⟩
  | some a =>
    cases hx : xs with
    | nil =>
      refine (Try.slices_Clone_int_zero a c w).mono ?_
      rintro e w' ⟨v', rfl, h1, _, h2⟩
      exact ⟨_, rfl, h1, h2⟩
    | cons x t =>
      obtain ⟨b, o, he, _⟩ := h.get 0 x (by rw [hx]; rfl)
      cases he
      rw [← hx]
      refine (Try.slices_Clone_int b o xs.length c xs w (Nat.le_refl _) (by have := h.len; omega) (fun j hj => ?_)).mono ?_
      · obtain ⟨b', o', he, hc⟩ := h.get j _ (List.getElem?_eq_getElem hj)
        cases he
        rw [hc, List.getD_eq_getElem?_getD, List.getElem?_eq_getElem hj]; rfl
      · rintro e w' ⟨v', rfl, h1, _, h2⟩
        rw [List.take_of_length_le (Nat.le_refl _)] at h1
        exact ⟨_, rfl, h1, h2⟩

/-- In the first loop. -/
structure L1 (B : Nat) (cs : List Int) (k : Nat) (vl vc : Value) (w wr : World) : Prop where
  left : wr.ownsRow B 3 1 vl cs.length (ints cs)
  cli : wr.ownsRow B 3 1 vc (cl (cs.take k)).length (nats (cl (cs.take k)))
  apart : ∀ g, vl.ownBlock = some g → vc.ownBlock ≠ some g
  few : tot (cs.take k) ≤ 65536
  below : Below B w wr

/-- What Order leaves. -/
def OrderPost (cs ps : List Int) (w : World) (e : Ending) (w' : World) : Prop :=
  ∃ v, e = .returned v ∧ w'.ownsRow w.heap.size 3 1 v (ord cs ps).length (nats (ord cs ps)) ∧ Below w.heap.size w w'

theorem own_at {w : World} {B : Nat} {v : Value} {n k : Nat} {l : List Int} {x : Int} (h : w.ownsRow B 3 1 v n (ints l)) (hx : l[k]? = some x) :
    ∃ g cap, v = .slice (some ⟨g, 0, none⟩) n cap ∧ k < n ∧ w.cell? ⟨g, k, none⟩ = some (.int .i64 x) ∧ (∀ o, w.frozen? ⟨g, o, none⟩ = false) ∧ B ≤ g ∧ n ≤ cap ∧ cap ≤ maxLen := by
  have hl := h.1
  have hk := lt_of_get hx
  simp only [ints, List.length_map, Nat.mul_one] at hl
  rcases h.2 with ⟨rfl, h0⟩ | ⟨g, cap, cur, rfl, hB, hg, hnc, hcm, _, _⟩
  · omega
  · have := h.cells (g := g) rfl k (.int .i64 x) (by unfold ints; rw [List.getElem?_map, hx]; rfl)
    rw [add_plain'] at this
    rw [Nat.zero_add] at this
    exact ⟨g, cap, rfl, by omega, this, free_of hg, hB, hnc, hcm⟩

theorem kept_of {v u : Value} (h : ∀ g, v.ownBlock = some g → u.ownBlock ≠ some g) : v.ownBlock = none ∨ v.ownBlock ≠ u.ownBlock := by
  cases hv : v.ownBlock with
  | none => exact .inl rfl
  | some g => exact .inr (fun e => h g hv e.symm)

theorem own_form {w : World} {B e size n : Nat} {v : Value} {xs : List Value} (h : w.ownsRow B e size v n xs) : ∃ A c, v = .slice A n c := by
  rcases h.2 with ⟨rfl, h0⟩ | ⟨g, cap, cur, rfl, _⟩
  · exact ⟨none, 0, by rw [h0]⟩
  · exact ⟨_, _, rfl⟩

theorem first_step {B k : Nat} {cs : List Int} {vl vc v' : Value} {w wr w1 : World} {x : Int} (h : L1 B cs k vl vc w wr) (hB : B ≤ wr.heap.size) (hx : cs[k]? = some x) (h1 : 1 ≤ x) (h2 : tot (cs.take k) + x ≤ 65536)
    (hg : wr.grownBy w1 vc.ownBlock) (ho : w1.ownsRow B 3 1 v' ((cl (cs.take k)).length + 1) (nats (cl (cs.take k)) ++ [.int .i64 (k : Int)]))
    (hv : ∀ g, v'.ownBlock = some g → vc.ownBlock = some g ∨ wr.heap.size ≤ g) : L1 B cs (k + 1) vl v' w w1 := by
  have hs := cl_succ cs k x hx
  rw [if_pos h1] at hs
  refine ⟨h.left.kept hg (kept_of h.apart), ?_, fun g hgl he => ?_, ?_, h.below.grown hg hB (fun g hgg => (h.cli.lt g hgg).1)⟩
  · rw [hs]; simpa [nats] using ho
  · rcases hv g he with e | e
    · exact h.apart g hgl e
    · have := (h.left.lt g hgl).2
      omega
  · rw [tot_succ cs k x hx]; omega

/-- One number more behind an owned row. -/
theorem first_skip {B k : Nat} {cs : List Int} {vl vc : Value} {w wr : World} {x : Int} (h : L1 B cs k vl vc w wr) (hx : cs[k]? = some x) (h1 : x < 1) : L1 B cs (k + 1) vl vc w wr := by
  have hs := cl_succ cs k x hx
  rw [if_neg (by omega), List.append_nil] at hs
  refine ⟨h.left, by rw [hs]; exact h.cli, h.apart, ?_, h.below⟩
  rw [tot_succ cs k x hx]
  have := h.few
  omega

theorem ord_over {cs ps : List Int} {k : Nat} {x : Int} (hx : cs[k]? = some x) (h : 65536 - tot (cs.take k) < x) : ord cs ps = [] := by
  have h1 := tot_succ cs k x hx
  have h2 := tot_take_le cs (k + 1)
  unfold ord
  rw [if_pos (by omega)]

theorem cl_le (cs : List Int) (k : Nat) : (cl (cs.take k)).length ≤ cs.length := by
  have h := clF_length_le 0 (cs.take k)
  simp only [List.length_take] at h
  unfold cl
  omega

/-- In the second loop. -/
structure L2 (B : Nat) (cs ps : List Int) (k : Nat) (vl vc vo : Value) (w wr : World) : Prop where
  left : wr.ownsRow B 3 1 vl cs.length (ints (leftF k 0 cs ps))
  cli : wr.ownsRow B 3 1 vc (cl (leftF k 0 cs ps)).length (nats (cl (leftF k 0 cs ps)))
  ord : wr.ownsRow B 3 1 vo k (nats (ordF k 0 cs ps))
  lc : ∀ g, vl.ownBlock = some g → vc.ownBlock ≠ some g
  lo : ∀ g, vl.ownBlock = some g → vo.ownBlock ≠ some g
  co : ∀ g, vc.ownBlock = some g → vo.ownBlock ≠ some g
  below : Below B w wr

/-- Behind the append of a round. -/
structure L3 (B : Nat) (cs ps : List Int) (k : Nat) (vl vc vo : Value) (w wr : World) : Prop where
  left : wr.ownsRow B 3 1 vl cs.length (ints (leftF k 0 cs ps))
  cli : wr.ownsRow B 3 1 vc (cl (leftF k 0 cs ps)).length (nats (cl (leftF k 0 cs ps)))
  ord : wr.ownsRow B 3 1 vo (k + 1) (nats (ordF (k + 1) 0 cs ps))
  lc : ∀ g, vl.ownBlock = some g → vc.ownBlock ≠ some g
  lo : ∀ g, vl.ownBlock = some g → vo.ownBlock ≠ some g
  co : ∀ g, vc.ownBlock = some g → vo.ownBlock ≠ some g
  below : Below B w wr

theorem l3_of {B k : Nat} {cs ps : List Int} {vl vc vo v' : Value} {w wr w1 : World} (h : L2 B cs ps k vl vc vo w wr) (hB : B ≤ wr.heap.size)
    (hg : wr.grownBy w1 vo.ownBlock) (ho : w1.ownsRow B 3 1 v' (k + 1) (nats (ordF k 0 cs ps) ++ [.int .i64 ((who (leftF k 0 cs ps) ps k : Nat) : Int)]))
    (hv : ∀ g, v'.ownBlock = some g → vo.ownBlock = some g ∨ wr.heap.size ≤ g) : L3 B cs ps k vl vc v' w w1 := by
  refine ⟨h.left.kept hg (kept_of h.lo), h.cli.kept hg (kept_of h.co), ?_, h.lc, fun g h1 h2 => ?_, fun g h1 h2 => ?_, h.below.grown hg hB (fun g hgg => (h.ord.lt g hgg).1)⟩
  · rw [ordF_snoc, Nat.zero_add]; simpa [nats] using ho
  · rcases hv g h2 with e | e
    · exact h.lo g h1 e
    · have := (h.left.lt g h1).2; omega
  · rcases hv g h2 with e | e
    · exact h.co g h1 e
    · have := (h.cli.lt g h1).2; omega

theorem nats_ints (l : List Nat) : nats l = ints (l.map fun n : Nat => (n : Int)) := by simp [nats, ints]

/-- The store of a round: one operation less. -/
theorem l2_store {B k gl cl' : Nat} {cs ps : List Int} {vc vo : Value} {w w1 : World} {x : Int} (h : L3 B cs ps k (.slice (some ⟨gl, 0, none⟩) cs.length cl') vc vo w w1) (hk : 1 ≤ tot (leftF k 0 cs ps))
    (hx : (leftF k 0 cs ps)[who (leftF k 0 cs ps) ps k]? = some x) (hne : x ≠ 1) :
    L2 B cs ps (k + 1) (.slice (some ⟨gl, 0, none⟩) cs.length cl') vc vo w (w1.setCell ⟨gl, who (leftF k 0 cs ps) ps k, none⟩ (.int .i64 (x - 1))) := by
  obtain ⟨x', h1, h2, h3, h4⟩ := who_spec (ps := ps) (i := k) hk
  rw [hx] at h2
  cases h2
  have e := leftF_snoc k 0 cs ps
  rw [Nat.zero_add, h4] at e
  have ec := cl_set h1 hx h3
  rw [if_neg hne] at ec
  have hnc := h.lc gl rfl
  have hno := h.lo gl rfl
  refine ⟨?_, ?_, ownsRow_setCell_other h.ord hno _, h.lc, h.lo, h.co, h.below.setCell (h.left.lt gl rfl).1 _⟩
  · have := own_set h.left (who (leftF k 0 cs ps) ps k) (.int .i64 (x - 1))
    rw [e]
    simpa [ints, List.map_set] using this
  · rw [e, ec]
    exact ownsRow_setCell_other h.cli hnc _

/-- The store of a round, and a client leaves. -/
theorem l2_leave {B k gl cl' gc cc q : Nat} {cs ps : List Int} {vo : Value} {w w1 : World} {x : Int}
    (h : L3 B cs ps k (.slice (some ⟨gl, 0, none⟩) cs.length cl') (.slice (some ⟨gc, 0, none⟩) (cl (leftF k 0 cs ps)).length cc) vo w w1) (hk : 1 ≤ tot (leftF k 0 cs ps))
    (hx : (leftF k 0 cs ps)[who (leftF k 0 cs ps) ps k]? = some x) (hne : x = 1) (hBw : B ≤ w.heap.size) (a : Nat) (ha : a = place ps k (cl (leftF k 0 cs ps)).length) :
    L2 B cs ps (k + 1) (.slice (some ⟨gl, 0, none⟩) cs.length cl') (.slice (some ⟨gc, 0, none⟩) ((cl (leftF k 0 cs ps)).length - 1) cc) vo w
      (((w1.setCell ⟨gl, who (leftF k 0 cs ps) ps k, none⟩ (.int .i64 (x - 1))).drewN q).setCells gc 0
        ((((cl (leftF k 0 cs ps)).map fun n : Nat => (n : Int)).take a ++ ((cl (leftF k 0 cs ps)).map fun n : Nat => (n : Int)).drop (a + 1) ++ [0]).map (Value.int .i64))) := by
  obtain ⟨x', h1, h2, h3, h4⟩ := who_spec (ps := ps) (i := k) hk
  rw [hx] at h2
  cases h2
  have e := leftF_snoc k 0 cs ps
  rw [Nat.zero_add, h4] at e
  have ec := cl_set h1 hx h3
  rw [if_pos hne] at ec
  have hnc := h.lc gl rfl
  have hno := h.lo gl rfl
  have hco := h.co gc rfl
  have hpl := place_lt ps k _ (cl_pos hk)
  rw [← ha] at hpl ec
  have hgl := (h.left.lt gl rfl).1
  have hgc := (h.cli.lt gc rfl).1
  have l1 := own_set h.left (who (leftF k 0 cs ps) ps k) (.int .i64 (x - 1))
  have c1 := ownsRow_setCell_other (a := ⟨gl, who (leftF k 0 cs ps) ps k, none⟩) h.cli hnc (.int .i64 (x - 1))
  have o1 := ownsRow_setCell_other (a := ⟨gl, who (leftF k 0 cs ps) ps k, none⟩) h.ord hno (.int .i64 (x - 1))
  generalize hW : (w1.setCell ⟨gl, who (leftF k 0 cs ps) ps k, none⟩ (.int .i64 (x - 1))).drewN q = W at *
  have hb1 : Below B w W := by rw [← hW]; exact below_drewN (h.below.setCell hgl _) q
  have l2 : W.ownsRow B 3 1 (.slice (some ⟨gl, 0, none⟩) cs.length cl') cs.length ((ints (leftF k 0 cs ps)).set (who (leftF k 0 cs ps) ps k) (.int .i64 (x - 1))) := by rw [← hW]; exact l1
  have c2 : W.ownsRow B 3 1 (.slice (some ⟨gc, 0, none⟩) (cl (leftF k 0 cs ps)).length cc) (cl (leftF k 0 cs ps)).length (nats (cl (leftF k 0 cs ps))) := by rw [← hW]; exact c1
  have o2 : W.ownsRow B 3 1 vo (k + 1) (nats (ordF (k + 1) 0 cs ps)) := by rw [← hW]; exact o1
  have hu : Upd (· = gc) W (W.setCells gc 0 ((((cl (leftF k 0 cs ps)).map fun n : Nat => (n : Int)).take a ++ ((cl (leftF k 0 cs ps)).map fun n : Nat => (n : Int)).drop (a + 1) ++ [0]).map (Value.int .i64))) :=
    upd_setCells _ _ _ (Upd.refl _ _) (.inl rfl)
  have hlen : ((((cl (leftF k 0 cs ps)).map fun n : Nat => (n : Int)).take a ++ ((cl (leftF k 0 cs ps)).map fun n : Nat => (n : Int)).drop (a + 1) ++ [0]).map (Value.int .i64)).length = (cl (leftF k 0 cs ps)).length := by
    simp; omega
  refine ⟨?_, ?_, ?_, fun g hg he => ?_, h.lo, fun g hg he => ?_, Upd.onto hb1 hu hBw hgc⟩
  · rw [e]
    have := own_upd l2 hu (fun g hg he => by have := h.lc g hg; subst he; exact this rfl)
    simpa [ints, List.map_set] using this
  · rw [e, ec]
    generalize cl (leftF k 0 cs ps) = c at *
    generalize hN : ((c.map fun n : Nat => (n : Int)).take a ++ (c.map fun n : Nat => (n : Int)).drop (a + 1) ++ [0]).map (Value.int .i64) = N at *
    have c3 := own_setCells N 0 _ _ (by rw [hlen]; omega) c2
    rw [hlen] at c3
    have e3 : (nats c).take 0 ++ N ++ (nats c).drop (0 + c.length) = N := by
      rw [List.take_zero, List.nil_append, List.drop_of_length_le (by simp [nats]), List.append_nil]
    rw [e3] at c3
    have c4 := own_cut c3 (m := c.length - 1) (by omega)
    have el : (c.eraseIdx a).length = c.length - 1 := by rw [List.length_eraseIdx, if_pos hpl]
    have e4 : N.take ((c.length - 1) * 1) = nats (c.eraseIdx a) := by
      rw [← hN, List.eraseIdx_eq_take_drop_succ, Nat.mul_one]
      simp only [List.map_append, List.map_take, List.map_drop, List.map_map, List.map_cons, List.map_nil, nats]
      rw [List.take_append_of_le_length (by simp; omega), List.take_of_length_le (by simp; omega)]
      rfl
    rw [e4] at c4
    rw [el]
    exact c4
  · exact own_upd o2 hu (fun g hg he => by subst he; exact hco hg)
  · simp only [Value.ownBlock] at he
    exact h.lc g hg (by simpa [Value.ownBlock] using he)
  · exact h.co g (by simpa [Value.ownBlock] using hg) he

theorem own_at_nat {w : World} {B : Nat} {v : Value} {n k : Nat} {l : List Nat} {x : Nat} (h : w.ownsRow B 3 1 v n (nats l)) (hx : l[k]? = some x) :
    ∃ g cap, v = .slice (some ⟨g, 0, none⟩) n cap ∧ k < n ∧ w.cell? ⟨g, k, none⟩ = some (.int .i64 (x : Int)) ∧ (∀ o, w.frozen? ⟨g, o, none⟩ = false) ∧ B ≤ g ∧ n ≤ cap ∧ cap ≤ maxLen := by
  rw [nats_ints] at h
  exact own_at h (by rw [List.getElem?_map, hx]; rfl)

theorem l2_open {B k : Nat} {cs ps : List Int} {vl vc vo : Value} {w wr : World} (h : L2 B cs ps k vl vc vo w wr) (hk : (k : Int) < tot cs) :
    ∃ (m a W : Nat) (x : Int) (gl lc gc cc : Nat), vl = .slice (some ⟨gl, 0, none⟩) cs.length lc ∧ vc = .slice (some ⟨gc, 0, none⟩) m cc ∧
      m = (cl (leftF k 0 cs ps)).length ∧ a = place ps k m ∧ W = who (leftF k 0 cs ps) ps k ∧ (leftF k 0 cs ps)[W]? = some x ∧ 1 ≤ x ∧ a < m ∧ m ≤ cs.length ∧ W < cs.length ∧
      wr.cell? ⟨gl, W, none⟩ = some (.int .i64 x) ∧ wr.cell? ⟨gc, a, none⟩ = some (.int .i64 (W : Int)) := by
  have ht := leftF_tot k 0 cs ps (by omega)
  have hk1 : 1 ≤ tot (leftF k 0 cs ps) := by omega
  obtain ⟨x, h1, h2, h3, _⟩ := who_spec (ps := ps) (i := k) hk1
  obtain ⟨gl, lc, e1, b1, c1, _⟩ := own_at h.left h2
  obtain ⟨gc, cc, e2, b2, c2, _⟩ := own_at_nat h.cli h1
  have hm := clF_length_le 0 (leftF k 0 cs ps)
  exact ⟨_, _, _, x, gl, lc, gc, cc, e1, e2, rfl, rfl, rfl, h2, h3, b2, by unfold cl; omega, b1, c1, c2⟩

/-- Behind the append: what is known of the new world. -/
theorem l3_facts {B k W : Nat} {cs ps : List Int} {vc vo : Value} {gl lc g cap : Nat} {x : Int} {w wr w1 : World} (h : L2 B cs ps k (.slice (some ⟨gl, 0, none⟩) cs.length lc) vc vo w wr) (hB : B ≤ wr.heap.size)
    (eW : W = who (leftF k 0 cs ps) ps k) (hx : (leftF k 0 cs ps)[W]? = some x)
    (hg : wr.grownBy w1 vo.ownBlock) (ho : w1.ownsRow B 3 1 (.slice (some ⟨g, 0, none⟩) (k + 1) cap) (k + 1) (nats (ordF k 0 cs ps) ++ [.int .i64 (W : Int)]))
    (hv : vo.ownBlock = some g ∨ wr.heap.size ≤ g) :
    L3 B cs ps k (.slice (some ⟨gl, 0, none⟩) cs.length lc) vc (.slice (some ⟨g, 0, none⟩) (k + 1) cap) w w1 ∧ w1.cell? ⟨gl, W, none⟩ = some (.int .i64 x) ∧ ∀ o, w1.frozen? ⟨gl, o, none⟩ = false := by
  have h3 : L3 B cs ps k (.slice (some ⟨gl, 0, none⟩) cs.length lc) vc (.slice (some ⟨g, 0, none⟩) (k + 1) cap) w w1 := l3_of h hB hg (by rw [← eW]; exact ho) (by
    intro g1 hg1
    have : g = g1 := by simpa [Value.ownBlock] using hg1
    subst this
    exact hv)
  obtain ⟨gl', lc', e, _, c1, f1, _⟩ := own_at h3.left hx
  injection e with e1 _ _
  injection e1 with e1
  injection e1 with e1
  subst e1
  exact ⟨h3, c1, f1⟩

theorem leave_calls {B k gl cl' gc cc m a W : Nat} {cs ps : List Int} {vo : Value} {w w1 : World}
    (h : L3 B cs ps k (.slice (some ⟨gl, 0, none⟩) cs.length cl') (.slice (some ⟨gc, 0, none⟩) m cc) vo w w1) (hk : (k : Int) < tot cs) (hB : B ≤ w.heap.size)
    (em : m = (cl (leftF k 0 cs ps)).length) (ea : a = place ps k m) (eW : W = who (leftF k 0 cs ps) ps k) (hx : (leftF k 0 cs ps)[W]? = some 1) :
    Calls Try.prog 17 #[.slice (some ⟨gc, 0, none⟩) m cc, .int .i64 a, .int .i64 ((a : Int) + 1)] (w1.setCell ⟨gl, W, none⟩ (.int .i64 0)) fun e w' =>
      e = .returned (.slice (some ⟨gc, 0, none⟩) (m - 1) cc) ∧ L2 B cs ps (k + 1) (.slice (some ⟨gl, 0, none⟩) cs.length cl') (.slice (some ⟨gc, 0, none⟩) (m - 1) cc) vo w w' := by
  have ht := leftF_tot k 0 cs ps (by omega)
  have hk1 : 1 ≤ tot (leftF k 0 cs ps) := by omega
  subst em ea eW
  have hpl := place_lt ps k _ (cl_pos hk1)
  have hnc := h.lc gl rfl
  have c1 := ownsRow_setCell_other (a := ⟨gl, who (leftF k 0 cs ps) ps k, none⟩) h.cli hnc (.int .i64 0)
  have hl2 : (((cl (leftF k 0 cs ps)).map fun n : Nat => (n : Int))).length = (cl (leftF k 0 cs ps)).length := by simp
  have hform : (cl (leftF k 0 cs ps)).length ≤ cc ∧ cc ≤ maxLen := by
    rcases h.cli.2 with ⟨hh, _⟩ | ⟨g, cap, cur, hv, _, _, hnc', hcm, _, _⟩
    · cases hh
    · injection hv with _ _ h3
      subst h3
      exact ⟨hnc', hcm⟩
  have := Try.slices_Delete_int_cells gc 0 (cl (leftF k 0 cs ps)).length cc (place ps k (cl (leftF k 0 cs ps)).length) (place ps k (cl (leftF k 0 cs ps)).length + 1) ((cl (leftF k 0 cs ps)).map fun n : Nat => (n : Int))
    (w1.setCell ⟨gl, who (leftF k 0 cs ps) ps k, none⟩ (.int .i64 0)) (by omega) hform.1 (by have := hform.2; unfold maxLen at this; omega) (by omega) (by omega)
    (fun j hj => by
      have hj' : j < (cl (leftF k 0 cs ps)).length := by omega
      rw [Nat.zero_add, c1.cellAt j (by omega)]
      simp [nats, List.getD_eq_getElem?_getD, List.getElem?_eq_getElem hj'])
    (fun j _ => c1.frozenAt _)
  rw [show ((place ps k (cl (leftF k 0 cs ps)).length + 1 : Nat) : Int) = ((place ps k (cl (leftF k 0 cs ps)).length : Nat) : Int) + 1 by omega] at this
  refine this.mono ?_
  rintro e w' ⟨rfl, q, rfl⟩
  have e1 : place ps k (cl (leftF k 0 cs ps)).length + 1 - place ps k (cl (leftF k 0 cs ps)).length = 1 := by omega
  rw [e1, List.take_of_length_le (Nat.le_of_eq hl2)]
  refine ⟨rfl, ?_⟩
  have := l2_leave (q := q) h hk1 hx rfl hB _ rfl
  exact this

theorem store_calls {B k gl cl' W : Nat} {cs ps : List Int} {vc vo : Value} {w w1 : World} {x : Int} (h : L3 B cs ps k (.slice (some ⟨gl, 0, none⟩) cs.length cl') vc vo w w1) (hk : (k : Int) < tot cs)
    (eW : W = who (leftF k 0 cs ps) ps k) (hx : (leftF k 0 cs ps)[W]? = some x) (hne : x ≠ 1) :
    L2 B cs ps (k + 1) (.slice (some ⟨gl, 0, none⟩) cs.length cl') vc vo w (w1.setCell ⟨gl, W, none⟩ (.int .i64 (x - 1))) := by
  have ht := leftF_tot k 0 cs ps (by omega)
  subst eW
  exact l2_store h (by omega) hx hne

theorem get_le_tot : ∀ (l : List Int) (W : Nat) (x : Int), l[W]? = some x → x ≤ tot l
  | [], _, _, h => by simp at h
  | n :: l, 0, x, h => by
    simp at h
    subst h
    have := tot_nonneg l
    simp only [tot]; omega
  | n :: l, W + 1, x, h => by
    have := get_le_tot l W x (by simpa using h)
    simp only [tot]; omega

theorem append1 {ops : Array Oper} {rest : List Oper} {o : Oper} {a : Act} {Q : Exit → Act → World → Prop} {w : World} (hgd : o.guard = none) (s x : Operand)
    (ho : o.op = .call { callee := .builtin .append, args := #[s, x], argTypes := #[22, 22] }) (B : Nat) (v : Value) (n : Nat) (xs : List Value) (hs : a.eval s = v)
    (hown : w.ownsRow B 3 1 v n xs) (hB : B ≤ w.heap.size) (hn : n ≤ 17592186044404) (k : Int) (c : Nat)
    (hx : a.eval x = .slice (some ⟨w.heap.size, 0, none⟩) 1 c)
    (h : ∀ g cap w', w'.ownsRow B 3 1 (.slice (some ⟨g, 0, none⟩) (n + 1) cap) (n + 1) (xs ++ [.int .i64 k]) → w.grownBy w' v.ownBlock → (v.ownBlock = some g ∨ w.heap.size ≤ g) →
      wpList Try.prog ops Q rest (a.put o.dst (.slice (some ⟨g, 0, none⟩) (n + 1) cap)) w') :
    wpList Try.prog ops Q (o :: rest) a (w.alloc (.cells #[.int .i64 k] 3)) := by
  obtain ⟨i0, hi, hz0, hz1, hz2⟩ := info_parts info3
  refine wpList_append_lies _ hgd s x 22 ho B 3 i0 (.int .i64 0) 1 8 Try.underlying22 hi hz0 hz1 hz2 rfl (by decide) v n xs hs (hown.alloc _) ⟨w.heap.size, 0, none⟩ 1 c [.int .i64 k] hx rfl ?_ ?_ (by omega) ?_ ?_ ?_ (w.heap.size + 1) (by simp) ?_
  · exact World.news_of_block (heap_alloc_new w _)
  · simp [Value.oneCell']
  · unfold maxLen; omega
  · omega
  · simp; omega
  · intro g cap w' h1 h2 h3 h4
    refine h g cap w' h1 ⟨h2.os, h2.tape, h2.output, ?_, fun i hi hne => ?_⟩ (h3.imp id (fun e => by omega))
    · have := h2.size; simp at this; omega
    · rw [h2.block i (by simp; omega) hne]; exact Below.heap_alloc w _ i hi

set_option maxHeartbeats 3200000 in
set_option maxRecDepth 100000 in
theorem order_calls (A C : Option Addr) (ca cc : Nat) (cs ps : List Int) (w : World) (hc : RInt w A cs) (hp : RInt w C ps) :
    Calls Try.prog 10 #[.slice A cs.length ca, .slice C ps.length cc] w (OrderPost cs ps w) := by
  have HC := Lib.hid hc
  have HP := Lib.hid hp
  have hlen := hc.len
  have hlen' : cs.length ≤ 17592186044404 := by omega
  clear hc hp hlen
  have HLEN := Lib.hid hlen'
  clear hlen'
  go_enter Try.func10, Try.ntmps10
  go_wp2_with fail
  refine (clone_any A ca cs w HC.out).mono ?_
  rintro e w1 ⟨vl, rfl, hl, hb⟩
  have H1 : L1 w.heap.size cs 0 vl (.slice none 0 0) w w1 := ⟨hl, by simpa [cl, clF, nats] using World.ownsRow_nil _ _ _ _, by simp [Value.ownBlock], by simp [tot], hb⟩
  obtain ⟨L, lc, rfl⟩ := own_form hl
  clear hl hb
  go_wp2_with fail
  go_loopw [6, 7, 18] (fun t c v wr => ∃ k : Nat, k ≤ cs.length ∧ v = .int .i64 k ∧ t = .int .i64 (tot (cs.take k)) ∧ L1 w.heap.size cs k (.slice L cs.length lc) c w wr) (fun _ _ v _ => cs.length - (intOf v).toNat)
  case atStart => exact ⟨0, by omega, rfl, by simp [tot], H1⟩
  case round =>
    clear H1
    obtain ⟨k, hk, rfl, rfl, H1⟩ := hrel
    have hB : w.heap.size ≤ wr.heap.size := H1.below.size
    have ht0 := tot_nonneg (cs.take k)
    have ht1 := H1.few
    by_cases hlt : k < cs.length
    · obtain ⟨x, hx⟩ : ∃ x, cs[k]? = some x := ⟨_, List.getElem?_eq_getElem hlt⟩
      obtain ⟨g, lc', he, _, hcell, hfr, _⟩ := own_at H1.left hx
      injection he with he1 he2 he3
      subst he1 he3
      have HX := Lib.hid hx
      have h00 : (0 : Int) ≤ (k : Int) := by omega
      have hki : (k : Int) < (cs.length : Int) := by omega
      have hkb : (k : Int) ≤ 17592186044404 := by have := HLEN.out; omega
      have HH := Lib.hid H1
      have HBB := Lib.hid hB
      have HT := Lib.hid (tot_succ cs k x hx)
      clear H1 hx hB hfr
      by_cases h1 : x < 1
      · go_wp2_with fail
        go_roundw
        case rel =>
          have HT := HT.out
          exact ⟨k + 1, by omega, by go_num, by rw [HT]; congr 1; omega, first_skip HH.out HX.out h1⟩
        case measure => simp [intOf]; omega
      · by_cases h2 : 65536 - tot (cs.take k) < x
        · go_wp2_with fail
          go_ret
          have ho := ord_over (ps := ps) HX.out h2
          refine ⟨_, rfl, ?_, HH.out.below⟩
          rw [ho]
          exact World.ownsRow_nil _ _ _ _
        · go_wp2_with (at_builtin; refine append1 rfl _ _ rfl w.heap.size _ _ _ rfl HH.out.cli HBB.out (by have := cl_le cs k; have := HLEN.out; omega) _ _ rfl ?_; intro g' cap' w2 ho2 hg2 hat2)
          go_roundw
          case rel =>
            have HT := HT.out
            refine ⟨k + 1, by omega, by go_num, by rw [HT]; congr 1; omega, first_step HH.out HBB.out HX.out (by omega) (by omega) hg2 ho2 ?_⟩
            intro g hg
            have : g' = g := by simpa [Value.ownBlock] using hg
            subst this
            exact hat2
          case measure => simp [intOf]; omega
    · have ek : k = cs.length := by omega
      subst ek
      have hfull : cs.take cs.length = cs := List.take_length
      have hcli := H1.cli
      have hleft := H1.left
      have hap := H1.apart
      have hbe := H1.below
      rw [hfull] at hcli ht0 ht1
      obtain ⟨gA, ccap, rfl⟩ := own_form hcli
      have H2 : L2 w.heap.size cs ps 0 (.slice L cs.length lc) (.slice gA (cl cs).length ccap) (.slice none 0 0) w wr :=
        ⟨hleft, hcli, World.ownsRow_nil _ _ _ _, hap, by simp [Value.ownBlock], by simp [Value.ownBlock], hbe⟩
      have HF := Lib.hid hfull
      clear H1 hcli hleft hap hbe hfull
      go_wp2_with fail
      rw [HF.out]
      go_loopw [7, 10, 38] (fun c o v wr => ∃ k : Nat, (k : Int) ≤ tot cs ∧ v = .int .i64 k ∧ L2 w.heap.size cs ps k (.slice L cs.length lc) c o w wr) (fun _ _ v _ => (tot cs - intOf v).toNat)
      case atStart => exact ⟨0, by omega, rfl, H2⟩
      case round =>
        clear H2
        obtain ⟨k, hk, rfl, H2⟩ := hrel
        have hB : w.heap.size ≤ wr.heap.size := H2.below.size
        by_cases hlt : (k : Int) < tot cs
        · obtain ⟨m, a, W, x, gl, lc', gc, cc', e1, rfl, em, ea, eW, hx, h1x, ham, hmc, hWc, hc1, hc2⟩ := l2_open H2 hlt
          injection e1 with e1 _ e3
          subst e1 e3
          have HH := Lib.hid H2
          have HBB := Lib.hid hB
          have HX := Lib.hid hx
          have EM := Lib.hid em
          have EA := Lib.hid ea
          have EW := Lib.hid eW
          have hai : (a : Int) < (m : Int) := by omega
          have hmp : 0 < (m : Int) := by omega
          have hWi : (W : Int) < (cs.length : Int) := by omega
          have hWb : (W : Int) ≤ 17592186044404 := by have := HLEN.out; omega
          have hmb : (m : Int) ≤ 17592186044404 := by have := HLEN.out; omega
          clear ham hmc hWc
          clear H2 hB hx em ea eW
          have hxb : x ≤ 65536 := by
            have h1 := get_le_tot _ _ _ HX.out
            have h2 := leftF_tot k 0 cs ps (by omega)
            omega
          have hki : (k : Int) < 65536 := by omega
          have hkn : 0 ≤ (k : Int) := by omega
          by_cases hp : k < ps.length
          · obtain ⟨p, hpp⟩ : ∃ p, ps[k]? = some p := ⟨_, List.getElem?_eq_getElem hp⟩
            have hpi : (k : Int) < (ps.length : Int) := by omega
            obtain ⟨pb, po, rfl, hpc⟩ := HP.out.get k p hpp
            have hpr : wr.cell? ⟨pb, po + k, none⟩ = some (.int .i64 p) := by
              rw [HH.out.below.cell (p := ⟨pb, po + k, none⟩) (World.block_lt_of_cell? w _ hpc)]; exact hpc
            clear hpc
            have hpl : max 0 p % (m : Int) = (a : Int) := by
              have := EA.out
              unfold place at this
              rw [hpp] at this
              simp only at this
              rw [this, Int.natCast_emod, Int.toNat_of_nonneg (by omega)]
            clear hpp
            by_cases hx1 : x = 1
            · subst hx1
              go_wp2_with (at_builtin; refine append1 rfl _ _ rfl w.heap.size _ _ _ rfl HH.out.ord HBB.out (by omega) _ _ rfl ?_; intro g' cap' w2 ho2 hg2 hat2; obtain ⟨h3, hc3, hf3⟩ := l3_facts HH.out HBB.out EW.out HX.out hg2 ho2 hat2; have H3 := Lib.hid h3; clear h3 ho2 hg2 hat2 hc1 hc2 hpr)
              refine (leave_calls H3.out hlt (Nat.le_refl _) EM.out EA.out EW.out HX.out).mono ?_
              rintro e w4 ⟨rfl, h4⟩
              have H4 := Lib.hid h4
              clear h4 hc3 hf3
              go_wp2_with fail
              go_roundw
              case rel => exact ⟨k + 1, by omega, by go_num, H4.out⟩
              case measure => simp [intOf]; omega
            · have hb1 : (x - 1 == 0) = false := by simp; omega
              have hb2 : (x == 1) = false := by simp; omega
              have HX1 := Lib.hid hx1
              clear hx1
              go_wp2_with (at_builtin; refine append1 rfl _ _ rfl w.heap.size _ _ _ rfl HH.out.ord HBB.out (by omega) _ _ rfl ?_; intro g' cap' w2 ho2 hg2 hat2; obtain ⟨h3, hc3, hf3⟩ := l3_facts HH.out HBB.out EW.out HX.out hg2 ho2 hat2; have H3 := Lib.hid h3; clear h3 ho2 hg2 hat2 hc1 hc2 hpr)
              go_roundw
              case rel => exact ⟨k + 1, by omega, by go_num, store_calls H3.out hlt EW.out HX.out HX1.out⟩
              case measure => simp [intOf]; omega
          · have e0 : a = 0 := by
              have := EA.out
              unfold place at this
              rw [List.getElem?_eq_none (by omega)] at this
              exact this
            subst e0
            have hpd : decide (k < ps.length) = false := by simp; omega
            by_cases hx1 : x = 1
            · subst hx1
              go_wp2_with (at_builtin; refine append1 rfl _ _ rfl w.heap.size _ _ _ rfl HH.out.ord HBB.out (by omega) _ _ rfl ?_; intro g' cap' w2 ho2 hg2 hat2; obtain ⟨h3, hc3, hf3⟩ := l3_facts HH.out HBB.out EW.out HX.out hg2 ho2 hat2; have H3 := Lib.hid h3; clear h3 ho2 hg2 hat2 hc1 hc2)
              refine (leave_calls H3.out hlt (Nat.le_refl _) EM.out EA.out EW.out HX.out).mono ?_
              rintro e w4 ⟨rfl, h4⟩
              have H4 := Lib.hid h4
              clear h4 hc3 hf3
              go_wp2_with fail
              go_roundw
              case rel => exact ⟨k + 1, by omega, by go_num, H4.out⟩
              case measure => simp [intOf]; omega
            · have hb1 : (x - 1 == 0) = false := by simp; omega
              have hb2 : (x == 1) = false := by simp; omega
              have HX1 := Lib.hid hx1
              clear hx1
              go_wp2_with (at_builtin; refine append1 rfl _ _ rfl w.heap.size _ _ _ rfl HH.out.ord HBB.out (by omega) _ _ rfl ?_; intro g' cap' w2 ho2 hg2 hat2; obtain ⟨h3, hc3, hf3⟩ := l3_facts HH.out HBB.out EW.out HX.out hg2 ho2 hat2; have H3 := Lib.hid h3; clear h3 ho2 hg2 hat2 hc1 hc2)
              go_roundw
              case rel => exact ⟨k + 1, by omega, by go_num, store_calls H3.out hlt EW.out HX.out HX1.out⟩
              case measure => simp [intOf]; omega
        · have ek : k = (tot cs).toNat := by omega
          have hov : ord cs ps = ordF k 0 cs ps := by
            unfold ord
            rw [if_neg (by omega), ek]
          have hol : (ord cs ps).length = k := by rw [hov, ordF_length]
          have HH := Lib.hid H2
          have HO := Lib.hid hov
          have HOL := Lib.hid hol
          clear H2 hov ek hol
          go_wp2_with fail
          go_ret
          refine ⟨_, rfl, ?_, HH.out.below⟩
          rw [HOL.out, HO.out]
          exact HH.out.ord

end Go.Proofs.Ytlnpjcamcefbkaa.Rw
