/- The walks of the reference's sketch, over a list of cells. -/
import Derived.Test.YtlencmliaephjaaSo
import Derived.WalkLawsBesides
namespace Go.Proofs.Ytlencmliaephjaa.Sr
open Go Go.RowKit Go.Proofs.Ytlencmliaephjaa.K Go.Proofs.Ytlencmliaephjaa.Ha Go.Proofs.Ytlencmliaephjaa.Sk

/-- The reference's sketch at b, its cells at c. -/
structure Rf (w : World) (b c n : Nat) (C : List Nat) (sum : Int) : Prop where
  obj : w.heap[b]? = some (.cells #[.slice (some ⟨c, 0, none⟩) (4 * n) (4 * n), .int .i64 (n : Int), .int .i64 sum] 41 (0, 0))
  row : w.heap[c]? = some (.cells (nats C).toArray 3 (0, 0))
  len : C.length = 4 * n
  small : ∀ i, C.getD i 0 < 16
  n1 : 8 ≤ n
  n2 : n ≤ 1024

theorem Rf.ne {w : World} {b c n : Nat} {C : List Nat} {sum : Int} (h : Rf w b c n C sum) : b ≠ c := by
  rintro rfl
  have := h.obj.symm.trans h.row
  simp at this
theorem Rf.drewN {w : World} {b c n : Nat} {C : List Nat} {sum : Int} (h : Rf w b c n C sum) (k : Nat) : Rf (w.drewN k) b c n C sum := ⟨h.obj, h.row, h.len, h.small, h.n1, h.n2⟩
theorem Rf.upd {w w' : World} {b c n : Nat} {C : List Nat} {sum : Int} {F : Nat → Prop} (h : Rf w b c n C sum) (hu : Upd F w w') (h1 : ¬ F b) (h2 : ¬ F c) : Rf w' b c n C sum :=
  ⟨hu.get h.obj h1, hu.get h.row h2, h.len, h.small, h.n1, h.n2⟩
theorem Rf.below {w w' : World} {b c n : Nat} {C : List Nat} {sum : Int} (h : Rf w b c n C sum) (hu : Below w.heap.size w w') : Rf w' b c n C sum :=
  ⟨(hu.block _ (lt_of_block h.obj)).trans h.obj, (hu.block _ (lt_of_block h.row)).trans h.row, h.len, h.small, h.n1, h.n2⟩
theorem Rf.put_sum {w : World} {b c n : Nat} {C : List Nat} {sum : Int} (h : Rf w b c n C sum) (s : Int) : Rf (w.setCell ⟨b, 2, none⟩ (.int .i64 s)) b c n C s :=
  ⟨block_setCell h.obj, block_other (Ne.symm h.ne) h.row, h.len, h.small, h.n1, h.n2⟩
theorem Rf.put {w : World} {b c n : Nat} {C : List Nat} {sum : Int} (h : Rf w b c n C sum) (i v : Nat) (hv : v < 16) : Rf (w.setCell ⟨c, i, none⟩ (.int .i64 (v : Int))) b c n (C.set i v) sum := by
  refine ⟨block_other h.ne h.obj, (block_setCell h.row).trans ?_, by simpa using h.len, fun j => ?_, h.n1, h.n2⟩
  · congr 2
    apply Array.ext'
    simp [nats, List.map_set]
  · rw [getD_set]
    split
    · exact hv
    · exact h.small j
theorem Rf.cell {w : World} {b c n : Nat} {C : List Nat} {sum : Int} (h : Rf w b c n C sum) (i : Nat) (hi : i < 4 * n) : w.cell? ⟨c, i, none⟩ = some (.int .i64 ((C.getD i 0 : Nat) : Int)) := by
  rw [cell_of h.row]
  have := h.len
  simp [nats, List.getD_eq_getElem?_getD, List.getElem?_eq_getElem (show i < C.length by omega)]

theorem cells_rf (b c n : Nat) (C : List Nat) (sum : Int) (key : ByteArray) (w : World) (h : Rf w b c n C sum) (hn : key.size ≤ 140737488351232) :
    Calls Try.prog 46 #[.pointer (some ⟨b, 0, none⟩), .string key] w fun e w' => e = .returned (.agg (plv n key).toArray) ∧ Below w.heap.size w w' := by
  have n1 := h.n1
  have n2 := h.n2
  have ho := h.obj
  clear h
  go_enter Try.func46, Try.ntmps46
  go_wp2_with fail
  go_loopw [6] (fun v6 wr => ∃ k : Nat, k ≤ 4 ∧ v6 = .int .i64 k ∧ wr.heap[w.heap.size + 1]? = some (.cells (pvk n key k).toArray 48 (0, 0)) ∧ wr.heap[w.heap.size]? = some (.cells #[.int .i64 0, .int .i64 0, .int .i64 0, .int .i64 0] 48 (0, 0)) ∧ Below w.heap.size w wr) (fun v6 wr => 4 - (intOf v6).toNat)
  case atStart =>
    refine ⟨0, by omega, rfl, block_new' (by simp) _, block_alloc (block_new w _), ?_⟩
    exact ((Below.refl _ _).alloc (Nat.le_refl _) _).alloc (by simp) _
  case round =>
    obtain ⟨k, hk, rfl, h5, h4, hb⟩ := hrel
    by_cases hlt : k < 4
    · have ho2 := (hb.block _ (lt_of_block ho)).trans ho
      obtain ⟨c0, c1, c2, fr⟩ := cells3 ho2
      have f5 := free_of h5
      have i4 : (k : Int) < 4 := by omega
      obtain ⟨v5, hv5⟩ : ∃ v, wr.cell? ⟨w.heap.size + 1, k, none⟩ = some v := by
        rw [cell_of h5]
        exact ⟨_, Array.getElem?_eq_getElem (show k < (pvk n key k).toArray.size by simp [pvk]; omega)⟩
      have H5 := Lib.hid h5
      have H4 := Lib.hid h4
      have HB := Lib.hid hb
      have HO := Lib.hid ho
      clear ho2 h5 h4 hb ho
      obtain ⟨-, hh, g0, g1⟩ := HF_spec key ((k : Int) + 1) hn
      have HHA := fun w => hash_any2 hh w
      have HPL := fun w => place_any2 (HF ((k : Int) + 1) key) n g0 (by omega) (by omega) w
      generalize hq : HF ((k : Int) + 1) key = q at *
      have HQ := Lib.hid hq
      clear hq hh
      have p1 : (k : Int) * (n : Int) ≤ 4 * 1024 := Int.mul_le_mul (by omega) (by omega) (by omega) (by omega)
      have p2 : 0 ≤ (k : Int) * (n : Int) := Int.mul_nonneg (by omega) (by omega)
      have p3 := Nat.mod_lt q.toNat (show n > 0 by omega)
      have e1 : IntKind.i64.wrap ((k : Int) * (n : Int)) = (k : Int) * (n : Int) := IntWalk.i64_in _ (by omega)
      have e2 : IntKind.i64.wrap ((k : Int) + 1) = (k : Int) + 1 := IntWalk.i64_in _ (by omega)
      have e3 : IntKind.u64.wrap ((k : Int) + 1) = (k : Int) + 1 := by simp only [IntKind.wrap_u64]; omega
      have e4 : IntKind.i64.wrap ((k : Int) * (n : Int) + ((q.toNat % n : Nat) : Int)) = (k : Int) * (n : Int) + ((q.toNat % n : Nat) : Int) := IntWalk.i64_in _ (by omega)
      have E4 := Lib.hid e4
      clear p1 p2 p3 e4
      have hne : b ≠ w.heap.size + 1 := by have := lt_of_block HO.out; omega
      go_wp2_with fail
      go_region_held3 (fun w' => w'.cell? ⟨b, 1, none⟩ = some (.int .i64 (n : Int)))
        (first | go_keep | exact keep_far hne c1)
        (first | (go_at_call 50; refine (HHA _).mono ?_; rintro e w' ⟨rfl, m, rfl⟩) | (go_at_call 49; refine (HPL _).mono ?_; rintro e w' ⟨rfl, m, rfl⟩))
      go_wp2_with fail
      go_roundw
      case rel =>
        have hv : wrap64 ((k : Int) * (n : Int) + max q 0 % (n : Int)) = (plc n key k : Int) := by
          have e4 := E4.out
          unfold plc pl
          rw [HQ.out]
          clear HHA HPL
          obtain ⟨m, rfl⟩ := Int.eq_ofNat_of_zero_le g0
          rw [Int.max_eq_left g0]
          refine Eq.trans ?_ (e4.trans ?_)
          · simp [IntKind.wrap_i64, wrap64]
          · simp
        refine ⟨k + 1, by omega, by go_num, ?_, ?_, ?_⟩
        · rw [pvk_succ n key k hlt, hv]
          refine (block_setCell (w := wr.drewN _) H5.out).trans ?_
          simp
        · refine block_other (w := wr.drewN _) (by simp) H4.out
        · exact (below_drewN HB.out _).setCell (by simp) _
      case measure => simp [intOf]; omega
    · obtain rfl : k = 4 := by omega
      have d0 : wr.cell? ⟨w.heap.size + 1, 0, none⟩ = some (.int .i64 (plc n key 0 : Int)) := (cell_of h5 0).trans rfl
      have d1 : wr.cell? ⟨w.heap.size + 1, 1, none⟩ = some (.int .i64 (plc n key 1 : Int)) := (cell_of h5 1).trans rfl
      have d2 : wr.cell? ⟨w.heap.size + 1, 2, none⟩ = some (.int .i64 (plc n key 2 : Int)) := (cell_of h5 2).trans rfl
      have d3 : wr.cell? ⟨w.heap.size + 1, 3, none⟩ = some (.int .i64 (plc n key 3 : Int)) := (cell_of h5 3).trans rfl
      have z0 := cell_of h4 0
      have z1 := cell_of h4 1
      have z2 := cell_of h4 2
      have z3 := cell_of h4 3
      have f4 := free_of h4
      have f5 := free_of h5
      have H5 := Lib.hid h5
      have H4 := Lib.hid h4
      have HB := Lib.hid hb
      clear h4 h5 hb ho
      go_wp2_with fail
      (try simp only [Exit.inBlock, Exit.then])
      refine bodyPost_ret (results_cell_row rfl _ _ w.heap.size 48 (plv n key).toArray (0, 0) _ rfl ?_ Try.underlying48 rfl (by kernel_rfl)) rfl ?_
      · exact (block_setCell (block_setCell (block_setCell (block_setCell H4.out)))).trans rfl
      · exact ⟨rfl, (((HB.out.setCell (p := ⟨w.heap.size, 0, none⟩) (Nat.le_refl _) _).setCell (p := ⟨w.heap.size, 1, none⟩) (Nat.le_refl _) _).setCell (p := ⟨w.heap.size, 2, none⟩) (Nat.le_refl _) _).setCell (p := ⟨w.heap.size, 3, none⟩) (Nat.le_refl _) _⟩

theorem cnt_min (n : Nat) (C : List Nat) (key : ByteArray) (h : ∀ i, C.getD i 0 < 16) :
    cnt n C key = min (min (min (C.getD (plc n key 0) 0) (C.getD (plc n key 1) 0)) (C.getD (plc n key 2) 0)) (C.getD (plc n key 3) 0) := by
  have e : cntk n C key 0 = 15 := rfl
  unfold cnt
  simp only [cntk_succ, e]
  have := h (plc n key 0)
  omega

theorem cells_rf' (b c n : Nat) (C : List Nat) (sum : Int) (key : ByteArray) (w : World) (h : Rf w b c n C sum) (hn : key.size ≤ 140737488351232) :
    Calls Try.prog 46 #[.pointer (some ⟨b, 0, none⟩), .string key] w fun e w' =>
      e = .returned (.agg #[.int .i64 (plc n key 0 : Int), .int .i64 (plc n key 1 : Int), .int .i64 (plc n key 2 : Int), .int .i64 (plc n key 3 : Int)]) ∧ Below w.heap.size w w' := by
  have := cells_rf b c n C sum key w h hn
  rw [plv_eq] at this
  exact this

theorem min4 (w : World) (x0 x1 x2 x3 : Nat) : (Builtin.min_ #[3, 3, 3, 3] 3 #[.int .i64 (x0 : Int), .int .i64 (x1 : Int), .int .i64 (x2 : Int), .int .i64 (x3 : Int)]).run Try.prog w = .ok (.int .i64 ((min (min (min x0 x1) x2) x3 : Nat) : Int)) w := by
  have e : (if (x3 : Int) < (if (x2 : Int) < (if (x1 : Int) < (x0 : Int) then (x1 : Int) else (x0 : Int)) then (x2 : Int) else (if (x1 : Int) < (x0 : Int) then (x1 : Int) else (x0 : Int))) then (x3 : Int)
      else (if (x2 : Int) < (if (x1 : Int) < (x0 : Int) then (x1 : Int) else (x0 : Int)) then (x2 : Int) else (if (x1 : Int) < (x0 : Int) then (x1 : Int) else (x0 : Int)))) = ((min (min (min x0 x1) x2) x3 : Nat) : Int) := by
    (repeat' split) <;> omega
  rw [← e]
  simp [Builtin.min_, Builtin.min2]

theorem count_rf (b c n : Nat) (C : List Nat) (sum : Int) (key : ByteArray) (w : World) (h : Rf w b c n C sum) (hn : key.size ≤ 140737488351232) :
    Calls Try.prog 33 #[.pointer (some ⟨b, 0, none⟩), .string key] w fun e w' => e = .returned (.int .i64 (cnt n C key : Nat)) ∧ Below w.heap.size w w' := by
  have n1 := h.n1
  have n2 := h.n2
  have H := Lib.hid h
  have HM := Lib.hid (cnt_min n C key h.small)
  have P0 := plc_lt n key 0 (by omega) (by omega)
  have P1 := plc_lt n key 1 (by omega) (by omega)
  have P2 := plc_lt n key 2 (by omega) (by omega)
  have P3 := plc_lt n key 3 (by omega) (by omega)
  have HC := Lib.hid (cells_rf' b c n C sum key w h hn)
  have hmin := min4
  clear h
  generalize plc n key 0 = p0 at *
  generalize plc n key 1 = p1 at *
  generalize plc n key 2 = p2 at *
  generalize plc n key 3 = p3 at *
  go_enter Try.func33, Try.ntmps33
  go_wp2_with (go_at_call 46; refine HC.out.mono ?_; rintro e w1 ⟨rfl, hb⟩)
  have H1 := (H.out.below hb).below ((Below.refl _ _).alloc (Nat.le_refl _) (.cells #[.int .i64 (p0 : Int), .int .i64 (p1 : Int), .int .i64 (p2 : Int), .int .i64 (p3 : Int)] 48))
  have HB := Lib.hid (hb.alloc hb.size (.cells #[.int .i64 (p0 : Int), .int .i64 (p1 : Int), .int .i64 (p2 : Int), .int .i64 (p3 : Int)] 48))
  clear hb
  go_wp2_with fail
  have e5 := block_new w1 (.cells #[.int .i64 (p0 : Int), .int .i64 (p1 : Int), .int .i64 (p2 : Int), .int .i64 (p3 : Int)] 48)
  generalize w1.alloc (.cells #[.int .i64 (p0 : Int), .int .i64 (p1 : Int), .int .i64 (p2 : Int), .int .i64 (p3 : Int)] 48) = w2 at *
  generalize w1.heap.size = g at *
  have g0 : w2.cell? ⟨g, 0, none⟩ = some (.int .i64 (p0 : Int)) := (cell_of e5 0).trans rfl
  have g1 : w2.cell? ⟨g, 1, none⟩ = some (.int .i64 (p1 : Int)) := (cell_of e5 1).trans rfl
  have g2 : w2.cell? ⟨g, 2, none⟩ = some (.int .i64 (p2 : Int)) := (cell_of e5 2).trans rfl
  have g3 : w2.cell? ⟨g, 3, none⟩ = some (.int .i64 (p3 : Int)) := (cell_of e5 3).trans rfl
  obtain ⟨c0, c1, c2, fr⟩ := cells3 H1.obj
  have d0 := H1.cell p0 P0
  have d1 := H1.cell p1 P1
  have d2 := H1.cell p2 P2
  have d3 := H1.cell p3 P3
  generalize C.getD p0 0 = x0 at *
  generalize C.getD p1 0 = x1 at *
  generalize C.getD p2 0 = x2 at *
  generalize C.getD p3 0 = x3 at *
  have i0 : (p0 : Int) < ((4 * n : Nat) : Int) := by omega
  have i1 : (p1 : Int) < ((4 * n : Nat) : Int) := by omega
  have i2 : (p2 : Int) < ((4 * n : Nat) : Int) := by omega
  have i3 : (p3 : Int) < ((4 * n : Nat) : Int) := by omega
  have z0 : (0 : Int) ≤ (p0 : Int) := by omega
  have z1 : (0 : Int) ≤ (p1 : Int) := by omega
  have z2 : (0 : Int) ≤ (p2 : Int) := by omega
  have z3 : (0 : Int) ≤ (p3 : Int) := by omega
  clear H1 e5
  go_quiet (fail)
  go_wp2_with fail
  all_goals
    go_ret
    exact ⟨ret_int (by rw [HM.out]; omega), below_drewN HB.out _⟩

end Go.Proofs.Ytlencmliaephjaa.Sr
