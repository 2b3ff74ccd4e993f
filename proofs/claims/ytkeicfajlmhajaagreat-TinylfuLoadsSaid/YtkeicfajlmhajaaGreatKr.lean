/- The walks of the reference's sketch, over a list of cells. -/
import Derived.Test.YtkeicfajlmhajaaGreatKa
import Derived.Test.YtkeicfajlmhajaaGreatHc
import Derived.Test.YtkeicfajlmhajaaGreatAp
import Derived.WalkLawsBesides
namespace Go.Proofs.YtkeicfajlmhajaaGreat.Sr
open Go Go.RowKit Go.Proofs.YtkeicfajlmhajaaGreat.K Go.Proofs.YtkeicfajlmhajaaGreat.Ha Go.Proofs.YtkeicfajlmhajaaGreat.Sk

/-- The reference's sketch at b, its cells at c. -/
structure Rf (w : World) (b c n : Nat) (C : List Nat) (sum : Int) : Prop where
  obj : w.heap[b]? = some (.cells #[.slice (some ⟨c, 0, none⟩) (4 * n) (4 * n), .int .i64 (n : Int), .int .i64 sum] 94 (0, 0))
  row : w.heap[c]? = some (.cells (nats C).toArray 3 (0, 0))
  len : C.length = 4 * n
  small : ∀ i, C.getD i 0 < 16
  n1 : 8 ≤ n
  n2 : n ≤ 1024

theorem Rf.ne {w : World} {b c n : Nat} {C : List Nat} {sum : Int} (h : Rf w b c n C sum) : b ≠ c := by
  rintro rfl
  have := h.obj.symm.trans h.row
  simp at this
theorem Rf.drewN {w : World} {b c n : Nat} {C : List Nat} {sum : Int} (h : Rf w b c n C sum) (k : Nat) : Rf (w.drewN k) b c n C sum := ⟨h.obj, h.row, h.len, h.small, h.n1, h.n2⟩
theorem Rf.upd {w w' : World} {b c n : Nat} {C : List Nat} {sum : Int} {F : Nat → Prop} (h : Rf w b c n C sum) (hu : Upd F w w') (h1 : ¬ F b) (h2 : ¬ F c) : Rf w' b c n C sum :=
  ⟨hu.get h.obj h1, hu.get h.row h2, h.len, h.small, h.n1, h.n2⟩
theorem Rf.below {w w' : World} {b c n : Nat} {C : List Nat} {sum : Int} (h : Rf w b c n C sum) (hu : Below w.heap.size w w') : Rf w' b c n C sum :=
  ⟨(hu.block _ (lt_of_block h.obj)).trans h.obj, (hu.block _ (lt_of_block h.row)).trans h.row, h.len, h.small, h.n1, h.n2⟩
theorem Rf.put_sum {w : World} {b c n : Nat} {C : List Nat} {sum : Int} (h : Rf w b c n C sum) (s : Int) : Rf (w.setCell ⟨b, 2, none⟩ (.int .i64 s)) b c n C s :=
  ⟨block_setCell h.obj, block_other (Ne.symm h.ne) h.row, h.len, h.small, h.n1, h.n2⟩
theorem Rf.put {w : World} {b c n : Nat} {C : List Nat} {sum : Int} (h : Rf w b c n C sum) (i v : Nat) (hv : v < 16) : Rf (w.setCell ⟨c, i, none⟩ (.int .i64 (v : Int))) b c n (C.set i v) sum := by
  refine ⟨block_other h.ne h.obj, (block_setCell h.row).trans ?_, by simpa using h.len, fun j => ?_, h.n1, h.n2⟩
  · congr 2
    apply Array.ext'
    simp [nats, List.map_set]
  · rw [getD_set]
    split
    · exact hv
    · exact h.small j
theorem Rf.cell {w : World} {b c n : Nat} {C : List Nat} {sum : Int} (h : Rf w b c n C sum) (i : Nat) (hi : i < 4 * n) : w.cell? ⟨c, i, none⟩ = some (.int .i64 ((C.getD i 0 : Nat) : Int)) := by
  rw [cell_of h.row]
  have := h.len
  simp [nats, List.getD_eq_getElem?_getD, List.getElem?_eq_getElem (show i < C.length by omega)]

theorem cells_rf (b c n : Nat) (C : List Nat) (sum : Int) (key : ByteArray) (w : World) (h : Rf w b c n C sum) (hn : key.size ≤ 140737488351232) :
    Calls Tryz.prog 109 #[.pointer (some ⟨b, 0, none⟩), .string key] w fun e w' => e = .returned (.agg (plv n key).toArray) ∧ Below w.heap.size w w' := by
  have n1 := h.n1
  have n2 := h.n2
  have ho := h.obj
  clear h
  go_enter Tryz.func109, Tryz.ntmps109
  go_wp2_with fail
  go_loopw [6] (fun v6 wr => ∃ k : Nat, k ≤ 4 ∧ v6 = .int .i64 k ∧ wr.heap[w.heap.size + 1]? = some (.cells (pvk n key k).toArray 128 (0, 0)) ∧ wr.heap[w.heap.size]? = some (.cells #[.int .i64 0, .int .i64 0, .int .i64 0, .int .i64 0] 128 (0, 0)) ∧ Below w.heap.size w wr) (fun v6 wr => 4 - (intOf v6).toNat)
  case atStart =>
    refine ⟨0, by omega, rfl, block_new' (by simp) _, block_alloc (block_new w _), ?_⟩
    exact ((Below.refl _ _).alloc (Nat.le_refl _) _).alloc (by simp) _
  case round =>
    obtain ⟨k, hk, rfl, h5, h4, hb⟩ := hrel
    by_cases hlt : k < 4
    · have ho2 := (hb.block _ (lt_of_block ho)).trans ho
      obtain ⟨c0, c1, c2, fr⟩ := cells3 ho2
      have f5 := free_of h5
      have i4 : (k : Int) < 4 := by omega
      obtain ⟨v5, hv5⟩ : ∃ v, wr.cell? ⟨w.heap.size + 1, k, none⟩ = some v := by
        rw [cell_of h5]
        exact ⟨_, Array.getElem?_eq_getElem (show k < (pvk n key k).toArray.size by simp [pvk]; omega)⟩
      have H5 := Lib.hid h5
      have H4 := Lib.hid h4
      have HB := Lib.hid hb
      have HO := Lib.hid ho
      clear ho2 h5 h4 hb ho
      obtain ⟨-, hh, g0, g1⟩ := HF_spec key ((k : Int) + 1) hn
      have HHA := fun w => hash_any2 hh w
      have HPL := fun w => place_any2 (HF ((k : Int) + 1) key) n ⟨g0, g1⟩ (by omega) (by omega) w
      generalize hq : HF ((k : Int) + 1) key = q at *
      have HQ := Lib.hid hq
      clear hq hh
      have p1 : (k : Int) * (n : Int) ≤ 4 * 1024 := Int.mul_le_mul (by omega) (by omega) (by omega) (by omega)
      have p2 : 0 ≤ (k : Int) * (n : Int) := Int.mul_nonneg (by omega) (by omega)
      have p3 := Nat.mod_lt q.toNat (show n > 0 by omega)
      have e1 : IntKind.i64.wrap ((k : Int) * (n : Int)) = (k : Int) * (n : Int) := IntWalk.i64_in _ (by omega)
      have e2 : IntKind.i64.wrap ((k : Int) + 1) = (k : Int) + 1 := IntWalk.i64_in _ (by omega)
      have e3 : IntKind.u64.wrap ((k : Int) + 1) = (k : Int) + 1 := by simp only [IntKind.wrap_u64]; omega
      have e4 : IntKind.i64.wrap ((k : Int) * (n : Int) + ((q.toNat % n : Nat) : Int)) = (k : Int) * (n : Int) + ((q.toNat % n : Nat) : Int) := IntWalk.i64_in _ (by omega)
      have E4 := Lib.hid e4
      clear p1 p2 p3 e4
      have hne : b ≠ w.heap.size + 1 := by have := lt_of_block HO.out; omega
      go_wp2_with fail
      go_region_held3 (fun w' => w'.cell? ⟨b, 1, none⟩ = some (.int .i64 (n : Int)))
        (first | go_keep | exact keep_far hne c1)
        (first | (go_at_call 117; refine (HHA _).mono ?_; rintro e w' ⟨rfl, m, rfl⟩) | (go_at_call 116; refine (HPL _).mono ?_; rintro e w' ⟨rfl, m, rfl⟩))
      go_wp2_with fail
      go_roundw
      case rel =>
        have hv : wrap64 ((k : Int) * (n : Int) + max q 0 % (n : Int)) = (plc n key k : Int) := by
          have e4 := E4.out
          unfold plc pl
          rw [HQ.out]
          clear HHA HPL
          obtain ⟨m, rfl⟩ := Int.eq_ofNat_of_zero_le g0
          rw [Int.max_eq_left g0]
          refine Eq.trans ?_ (e4.trans ?_)
          · simp [IntKind.wrap_i64, wrap64]
          · simp
        refine ⟨k + 1, by omega, by go_num, ?_, ?_, ?_⟩
        · rw [pvk_succ n key k hlt, hv]
          refine (block_setCell (w := wr.drewN _) H5.out).trans ?_
          simp
        · refine block_other (w := wr.drewN _) (by simp) H4.out
        · exact (below_drewN HB.out _).setCell (by simp) _
      case measure => simp [intOf]; omega
    · obtain rfl : k = 4 := by omega
      have d0 : wr.cell? ⟨w.heap.size + 1, 0, none⟩ = some (.int .i64 (plc n key 0 : Int)) := (cell_of h5 0).trans rfl
      have d1 : wr.cell? ⟨w.heap.size + 1, 1, none⟩ = some (.int .i64 (plc n key 1 : Int)) := (cell_of h5 1).trans rfl
      have d2 : wr.cell? ⟨w.heap.size + 1, 2, none⟩ = some (.int .i64 (plc n key 2 : Int)) := (cell_of h5 2).trans rfl
      have d3 : wr.cell? ⟨w.heap.size + 1, 3, none⟩ = some (.int .i64 (plc n key 3 : Int)) := (cell_of h5 3).trans rfl
      have z0 := cell_of h4 0
      have z1 := cell_of h4 1
      have z2 := cell_of h4 2
      have z3 := cell_of h4 3
      have f4 := free_of h4
      have f5 := free_of h5
      have H5 := Lib.hid h5
      have H4 := Lib.hid h4
      have HB := Lib.hid hb
      clear h4 h5 hb ho
      go_wp2_with fail
      (try simp only [Exit.inBlock, Exit.then])
      refine bodyPost_ret (results_cell_row rfl _ _ w.heap.size 128 (plv n key).toArray (0, 0) _ rfl ?_ Tryz.underlying128 rfl (by kernel_rfl)) rfl ?_
      · exact (block_setCell (block_setCell (block_setCell (block_setCell H4.out)))).trans rfl
      · exact ⟨rfl, (((HB.out.setCell (p := ⟨w.heap.size, 0, none⟩) (Nat.le_refl _) _).setCell (p := ⟨w.heap.size, 1, none⟩) (Nat.le_refl _) _).setCell (p := ⟨w.heap.size, 2, none⟩) (Nat.le_refl _) _).setCell (p := ⟨w.heap.size, 3, none⟩) (Nat.le_refl _) _⟩

theorem cnt_min (n : Nat) (C : List Nat) (key : ByteArray) (h : ∀ i, C.getD i 0 < 16) :
    cnt n C key = min (min (min (C.getD (plc n key 0) 0) (C.getD (plc n key 1) 0)) (C.getD (plc n key 2) 0)) (C.getD (plc n key 3) 0) := by
  have e : cntk n C key 0 = 15 := rfl
  unfold cnt
  simp only [cntk_succ, e]
  have := h (plc n key 0)
  omega

theorem cells_rf' (b c n : Nat) (C : List Nat) (sum : Int) (key : ByteArray) (w : World) (h : Rf w b c n C sum) (hn : key.size ≤ 140737488351232) :
    Calls Tryz.prog 109 #[.pointer (some ⟨b, 0, none⟩), .string key] w fun e w' =>
      e = .returned (.agg #[.int .i64 (plc n key 0 : Int), .int .i64 (plc n key 1 : Int), .int .i64 (plc n key 2 : Int), .int .i64 (plc n key 3 : Int)]) ∧ Below w.heap.size w w' := by
  have := cells_rf b c n C sum key w h hn
  rw [plv_eq] at this
  exact this

theorem min4 (w : World) (x0 x1 x2 x3 : Nat) : (Builtin.min_ #[3, 3, 3, 3] 3 #[.int .i64 (x0 : Int), .int .i64 (x1 : Int), .int .i64 (x2 : Int), .int .i64 (x3 : Int)]).run Tryz.prog w = .ok (.int .i64 ((min (min (min x0 x1) x2) x3 : Nat) : Int)) w := by
  have e : (if (x3 : Int) < (if (x2 : Int) < (if (x1 : Int) < (x0 : Int) then (x1 : Int) else (x0 : Int)) then (x2 : Int) else (if (x1 : Int) < (x0 : Int) then (x1 : Int) else (x0 : Int))) then (x3 : Int)
      else (if (x2 : Int) < (if (x1 : Int) < (x0 : Int) then (x1 : Int) else (x0 : Int)) then (x2 : Int) else (if (x1 : Int) < (x0 : Int) then (x1 : Int) else (x0 : Int)))) = ((min (min (min x0 x1) x2) x3 : Nat) : Int) := by
    (repeat' split) <;> omega
  rw [← e]
  simp [Builtin.min_, Builtin.min2]

theorem count_rf (b c n : Nat) (C : List Nat) (sum : Int) (key : ByteArray) (w : World) (h : Rf w b c n C sum) (hn : key.size ≤ 140737488351232) :
    Calls Tryz.prog 110 #[.pointer (some ⟨b, 0, none⟩), .string key] w fun e w' => e = .returned (.int .i64 (cnt n C key : Nat)) ∧ Below w.heap.size w w' := by
  have n1 := h.n1
  have n2 := h.n2
  have H := Lib.hid h
  have HM := Lib.hid (cnt_min n C key h.small)
  have P0 := plc_lt n key 0 (by omega) (by omega)
  have P1 := plc_lt n key 1 (by omega) (by omega)
  have P2 := plc_lt n key 2 (by omega) (by omega)
  have P3 := plc_lt n key 3 (by omega) (by omega)
  have HC := Lib.hid (cells_rf' b c n C sum key w h hn)
  have hmin := min4
  clear h
  generalize plc n key 0 = p0 at *
  generalize plc n key 1 = p1 at *
  generalize plc n key 2 = p2 at *
  generalize plc n key 3 = p3 at *
  go_enter Tryz.func110, Tryz.ntmps110
  go_wp2_with (go_at_call 109; refine HC.out.mono ?_; rintro e w1 ⟨rfl, hb⟩)
  have H1 := (H.out.below hb).below ((Below.refl _ _).alloc (Nat.le_refl _) (.cells #[.int .i64 (p0 : Int), .int .i64 (p1 : Int), .int .i64 (p2 : Int), .int .i64 (p3 : Int)] 128))
  have HB := Lib.hid (hb.alloc hb.size (.cells #[.int .i64 (p0 : Int), .int .i64 (p1 : Int), .int .i64 (p2 : Int), .int .i64 (p3 : Int)] 128))
  clear hb
  go_wp2_with fail
  have e5 := block_new w1 (.cells #[.int .i64 (p0 : Int), .int .i64 (p1 : Int), .int .i64 (p2 : Int), .int .i64 (p3 : Int)] 128)
  generalize w1.alloc (.cells #[.int .i64 (p0 : Int), .int .i64 (p1 : Int), .int .i64 (p2 : Int), .int .i64 (p3 : Int)] 128) = w2 at *
  generalize w1.heap.size = g at *
  have g0 : w2.cell? ⟨g, 0, none⟩ = some (.int .i64 (p0 : Int)) := (cell_of e5 0).trans rfl
  have g1 : w2.cell? ⟨g, 1, none⟩ = some (.int .i64 (p1 : Int)) := (cell_of e5 1).trans rfl
  have g2 : w2.cell? ⟨g, 2, none⟩ = some (.int .i64 (p2 : Int)) := (cell_of e5 2).trans rfl
  have g3 : w2.cell? ⟨g, 3, none⟩ = some (.int .i64 (p3 : Int)) := (cell_of e5 3).trans rfl
  obtain ⟨c0, c1, c2, fr⟩ := cells3 H1.obj
  have d0 := H1.cell p0 P0
  have d1 := H1.cell p1 P1
  have d2 := H1.cell p2 P2
  have d3 := H1.cell p3 P3
  generalize C.getD p0 0 = x0 at *
  generalize C.getD p1 0 = x1 at *
  generalize C.getD p2 0 = x2 at *
  generalize C.getD p3 0 = x3 at *
  have i0 : (p0 : Int) < ((4 * n : Nat) : Int) := by omega
  have i1 : (p1 : Int) < ((4 * n : Nat) : Int) := by omega
  have i2 : (p2 : Int) < ((4 * n : Nat) : Int) := by omega
  have i3 : (p3 : Int) < ((4 * n : Nat) : Int) := by omega
  have z0 : (0 : Int) ≤ (p0 : Int) := by omega
  have z1 : (0 : Int) ≤ (p1 : Int) := by omega
  have z2 : (0 : Int) ≤ (p2 : Int) := by omega
  have z3 : (0 : Int) ≤ (p3 : Int) := by omega
  clear H1 e5
  go_quiet (fail)
  go_wp2_with fail
  all_goals
    go_ret
    exact ⟨ret_int (by rw [HM.out]; omega), below_drewN HB.out _⟩

end Go.Proofs.YtkeicfajlmhajaaGreat.Sr

/- The walks of the reference's sketch: New, Halve, Add. -/
namespace Go.Proofs.YtkeicfajlmhajaaGreat.Sr
open Go Go.RowKit Go.Proofs.YtkeicfajlmhajaaGreat.K Go.Proofs.YtkeicfajlmhajaaGreat.Ha Go.Proofs.YtkeicfajlmhajaaGreat.Sk

theorem power8_any (room : Int) (w : World) :
    Calls Tryz.prog 59 #[.int .i64 room, .int .i64 8] w fun e w' => e = .returned (.int .i64 (pw (clamp room 1 1024) : Nat)) ∧ w' = w := by
  have hcl : clamp room 1 1024 = min (max room 1) 1024 := rfl
  have hc2 : clamp room 1 1024 ≤ 1024 := by unfold clamp; omega
  generalize clamp room 1 1024 = c at *
  have HC := Lib.hid hcl
  clear hcl
  go_enter Tryz.func59, Tryz.ntmps59
  go_wp2_with fail
  go_loop [5] (fun v5 => ∃ n : Nat, v5 = .int .i64 n ∧ Pow1 n ∧ (n ≤ 8 ∨ (n : Int) < 2 * c) ∧ n ≤ 1024) (fun v5 => 1024 - (intOf v5).toNat)
  case atStart => exact ⟨1, rfl, .inl rfl, .inl (by omega), by omega⟩
  case round =>
    obtain ⟨n, rfl, hp, hb, hn⟩ := hrel
    have HP := Lib.hid hp
    clear hp
    have hn1 : 1 ≤ n := by have h := HP.out; unfold Pow1 Sk.Pow at h; omega
    go_wp2_with fail
    all_goals
      first
        | (have e := HC.out
           have e2 := pow1_next (c := c) HP.out (by omega) hc2
           exact ⟨⟨2 * n, by go_num, e2.1, e2.2.2, e2.2.1⟩, by simp [intOf]; omega⟩)
        | (have e := HC.out
           go_ret
           exact ⟨ret_int (by rw [pow1_end (c := c) HP.out hb (by omega) (by omega) hc2]), rfl⟩)

theorem halve_rf (b c n : Nat) (C : List Nat) (sum : Int) (w : World) (h : Rf w b c n C sum) (h0 : 0 ≤ sum) (h1 : sum ≤ 4611686018427387904) :
    Calls Tryz.prog 111 #[.pointer (some ⟨b, 0, none⟩)] w fun e w' => e = .returned (.tuple #[]) ∧ Rf w' b c n (C.map (· / 2)) (sum / 2) ∧ Upd (BC b c) w w' := by
  have n2 := h.n2
  have hl := h.len
  have H := Lib.hid h
  clear h
  go_enter Tryz.func111, Tryz.ntmps111
  go_wp2_with fail
  go_loopw [2] (fun v2 wr => ∃ k : Nat, k ≤ 4 * n ∧ v2 = .int .i64 k ∧ Rf wr b c n (hv C k) sum ∧ Upd (BC b c) w wr) (fun v2 wr => 4 * n - (intOf v2).toNat)
  case atStart => exact ⟨0, by omega, rfl, by have := H.out; unfold hv; simpa using this, Upd.refl _ _⟩
  case round =>
    obtain ⟨k, hk, rfl, hs, hu⟩ := hrel
    have HS := Lib.hid hs
    have HU := Lib.hid hu
    obtain ⟨c0, c1, c2, fr⟩ := cells3 hs.obj
    clear hs hu
    by_cases hlt : k < 4 * n
    · have d := HS.out.cell k hlt
      have fc := free_of HS.out.row
      have hx := HS.out.small k
      have S := Lib.hid (HS.out.put k ((hv C k).getD k 0 / 2) (by omega))
      have HV := Lib.hid (hv_succ C k (by omega))
      generalize (hv C k).getD k 0 = x at *
      have e1 : wrap64 (((x : Int)).tdiv 2) = ((x / 2 : Nat) : Int) := by
        rw [Int.tdiv_eq_ediv_of_nonneg (by omega)]; unfold wrap64; omega
      have z0 : (0 : Int) ≤ (k : Int) := by omega
      have z1 : (k : Int) < ((4 * n : Nat) : Int) := by omega
      go_wp2_with fail
      go_region
      go_wp2_with fail
      go_roundw
      case rel => exact ⟨k + 1, by omega, by go_num, by rw [HV.out]; exact S.out.drewN 1, (HU.out.setCell (p := ⟨c, k, none⟩) (.inl (.inr rfl)) _).drew⟩
      case measure => simp [intOf]; omega
    · obtain rfl : k = 4 * n := by omega
      have e1 : wrap64 (sum.tdiv 2) = sum / 2 := by rw [Int.tdiv_eq_ediv_of_nonneg h0]; unfold wrap64; omega
      go_wp2_with fail
      go_end0
      have hh : hv C (4 * n) = C.map (· / 2) := by
        unfold hv
        rw [List.take_of_length_le (by omega), List.drop_of_length_le (by omega), List.append_nil]
      have hs3 := HS.out
      rw [hh] at hs3
      exact ⟨rfl, hs3.put_sum _, HU.out.setCell (p := ⟨b, 2, none⟩) (.inl (.inl rfl)) _⟩

end Go.Proofs.YtkeicfajlmhajaaGreat.Sr

/- The walks of the reference's sketch: New, Add. -/
namespace Go.Proofs.YtkeicfajlmhajaaGreat.Sr
open Go Go.RowKit Go.Proofs.YtkeicfajlmhajaaGreat.K Go.Proofs.YtkeicfajlmhajaaGreat.Ha Go.Proofs.YtkeicfajlmhajaaGreat.Sk

theorem made_nats (n : Nat) : (madeCells (Value.int .i64 0).cells (n * 1)).toList = nats (List.replicate n 0) := by
  rw [Nat.mul_one]
  refine (made_one (.int .i64 0) n).trans ?_
  simp [nats]

theorem new_rf (room : Int) (w : World) :
    Calls Tryz.prog 38 #[.int .i64 room] w fun e w' => ∃ b c, e = .returned (.pointer (some ⟨b, 0, none⟩)) ∧ w.heap.size ≤ b ∧ w.heap.size ≤ c ∧
      Rf w' b c (pw (clamp room 1 1024)) (List.replicate (4 * pw (clamp room 1 1024)) 0) 0 ∧ Below w.heap.size w w' := by
  have hr : 8 ≤ pw (clamp room 1 1024) ∧ pw (clamp room 1 1024) ≤ 1024 := by unfold pw; (repeat' split) <;> omega
  have HP := fun w => power8_any room w
  generalize pw (clamp room 1 1024) = n at *
  obtain ⟨n1, n2⟩ := hr
  obtain ⟨i3, hi3, hz3, hs3, hb3⟩ := info_parts info3
  go_enter Tryz.func38, Tryz.ntmps38
  go_wp2_with (first | (go_at_call 59; refine (HP _).mono ?_; rintro e w' ⟨rfl, hw⟩; have hw := hw.symm; subst hw) | (refine wpList_make_full _ rfl _ _ 92 rfl w.heap.size 3 i3 _ 1 Tryz.underlying92 hi3 hz3 hs3 .i64 .i64 _ _ (4 * n) rfl rfl (by omega) (by omega) (by rw [hb3]; omega) (by unfold maxLen; omega) (Nat.le_refl _) ?_; intro w5 hown hgr))
  go_ret
  have hrow := own_full hown
  rw [made_nats] at hrow
  refine ⟨w5.heap.size, w.heap.size, rfl, hgr.size, Nat.le_refl _, ⟨block_new w5 _, block_alloc hrow, by simp, fun i => ?_, n1, n2⟩, ?_⟩
  · rw [List.getD_eq_getElem?_getD, List.getElem?_replicate]; split <;> simp
  · exact (⟨hgr.os, hgr.tape, hgr.output, hgr.size, fun k hk => hgr.block k hk (by simp)⟩ : Below w.heap.size w w5).alloc hgr.size _

def pla (n : Nat) (key : ByteArray) : Array Value := #[.int .i64 (plc n key 0 : Int), .int .i64 (plc n key 1 : Int), .int .i64 (plc n key 2 : Int), .int .i64 (plc n key 3 : Int)]
theorem pla_at (n : Nat) (key : ByteArray) : ∀ k, k < 4 → (pla n key)[k]? = some (.int .i64 (plc n key k : Int))
  | 0, _ => rfl
  | 1, _ => rfl
  | 2, _ => rfl
  | 3, _ => rfl
  | k + 4, h => by omega

def AddPost (b c n : Nat) (C : List Nat) (sum : Int) (key : ByteArray) (w : World) (e : Ending) (w' : World) : Prop :=
  e = .returned (.tuple #[]) ∧ Rf w' b c n (addS n key (C, sum)).1 (addS n key (C, sum)).2 ∧ Upd (BC b c) w w'

set_option maxHeartbeats 800000 in
theorem add_full (b c n : Nat) (C : List Nat) (sum : Int) (key : ByteArray) (w : World) (h : Rf w b c n C sum) (hn : key.size ≤ 140737488351232) (hl : cnt n C key = 15)
    (h1 : sum < 10 * (n : Int)) :
    Calls Tryz.prog 86 #[.pointer (some ⟨b, 0, none⟩), .string key] w (AddPost b c n C sum key w) := by
  have n1 := h.n1
  have n2 := h.n2
  have H := Lib.hid h
  have HC := Lib.hid (cells_rf' b c n C sum key w h hn)
  have HL := Lib.hid hl
  have HP : Hid (∀ k, k < 4 → plc n key k < 4 * n) := Lib.hid (fun k hk => plc_lt n key k hk (by omega))
  have HA := Lib.hid (pla_at n key)
  have hpla : Hid (#[.int .i64 (plc n key 0 : Int), .int .i64 (plc n key 1 : Int), .int .i64 (plc n key 2 : Int), .int .i64 (plc n key 3 : Int)] = pla n key) := Lib.hid rfl
  clear h hl
  go_enter Tryz.func86, Tryz.ntmps86
  go_wp2_with (go_at_call 109; refine HC.out.mono ?_; rintro e w1 ⟨rfl, hb⟩)
  have HB := Lib.hid hb
  clear hb
  go_wp2_with fail
  have H2 : Hid (Rf (w1.alloc (.cells #[.int .i64 (plc n key 0 : Int), .int .i64 (plc n key 1 : Int), .int .i64 (plc n key 2 : Int), .int .i64 (plc n key 3 : Int)] 128)) b c n C sum) :=
    Lib.hid ((H.out.below HB.out).below ((Below.refl _ _).alloc (Nat.le_refl _) _))
  have CT := count_rf b c n C sum key _ H2.out hn
  rw [HL.out] at CT
  have hg0 := block_new w1 (.cells #[.int .i64 (plc n key 0 : Int), .int .i64 (plc n key 1 : Int), .int .i64 (plc n key 2 : Int), .int .i64 (plc n key 3 : Int)] 128)
  rw [hpla.out] at hg0 H2 CT ⊢
  have hb1 : Below w.heap.size w (w1.alloc (.cells (pla n key) 128)) := HB.out.alloc HB.out.size _
  have HG0 := Lib.hid hg0
  have HB1 := Lib.hid hb1
  clear hg0 hb1
  refine CT.mono ?_
  rintro e w2 ⟨rfl, hb2⟩
  have hg2 : w2.heap[w1.heap.size]? = some (.cells (pla n key) 128 (0, 0)) := (hb2.block _ (lt_of_block HG0.out)).trans HG0.out
  have hR2 : Rf w2 b c n C sum := H2.out.below hb2
  have hu2 : Upd (BC b c) w w2 := Upd.of_below (HB1.out.trans (hb2.mono HB1.out.size)) (fun i h1 h2 => by omega)
  generalize w1.heap.size = g at *
  have G2 := Lib.hid hg2
  have R2 := Lib.hid hR2
  have U2 := Lib.hid hu2
  clear hb2 hg2 hR2 hu2 CT HB HG0 HB1 H2 hpla HC
  go_wp2_with fail
  go_loopw [6] (fun v6 wr => ∃ k : Nat, k ≤ 4 ∧ v6 = .int .i64 k ∧ Rf wr b c n C sum ∧ wr.heap[g]? = some (.cells (pla n key) 128 (0, 0)) ∧ Upd (BC b c) w wr) (fun v6 wr => 4 - (intOf v6).toNat)
  case atStart => exact ⟨0, by omega, rfl, R2.out, G2.out, U2.out⟩
  case round =>
    clear R2 G2 U2
    obtain ⟨k, hk, rfl, hs, hg, hu⟩ := hrel
    have HS := Lib.hid hs
    have HG := Lib.hid hg
    have HU := Lib.hid hu
    obtain ⟨c0, c1, c2, fr⟩ := cells3 hs.obj
    clear hs hg hu
    by_cases hlt : k < 4
    · have hp := HP.out k hlt
      have hgk : wr.cell? ⟨g, k, none⟩ = some (.int .i64 (plc n key k : Int)) := (cell_of HG.out k).trans (HA.out k hlt)
      have d := HS.out.cell (plc n key k) hp
      generalize C.getD (plc n key k) 0 = x at *
      generalize plc n key k = p at *
      have z0 : (0 : Int) ≤ (p : Int) := by omega
      have z1 : (p : Int) < ((4 * n : Nat) : Int) := by omega
      have z2 : (0 : Int) ≤ (k : Int) := by omega
      have z3 : (k : Int) < 4 := by omega
      by_cases hx : x = 15
      · subst hx
        go_wp2_with fail
        go_quiet (fail)
        go_wp2_with fail
        go_roundw
        case rel => exact ⟨k + 1, by omega, by go_num, HS.out.drewN _, HG.out, HU.out.drewN _⟩
        case measure => simp [intOf]; omega
      · have t1 : ((x : Int) == 15) = false := by simp; omega
        go_wp2_with fail
        go_quiet (fail)
        go_wp2_with fail
        go_roundw
        case rel => exact ⟨k + 1, by omega, by go_num, HS.out.drewN _, HG.out, HU.out.drewN _⟩
        case measure => simp [intOf]; omega
    · obtain rfl : k = 4 := by omega
      have e2 : wrap64 (10 * (n : Int)) = 10 * (n : Int) := by unfold wrap64; omega
      have t2 : decide (10 * (n : Int) ≤ sum) = false := by simp; omega
      go_wp2_with fail
      go_quiet (fail)
      go_wp2_with fail
      go_end0
      unfold AddPost addS
      rw [if_pos HL.out]
      exact ⟨rfl, HS.out.drewN _, HU.out.drewN _⟩

set_option maxHeartbeats 800000 in
theorem add_less (b c n : Nat) (C : List Nat) (sum : Int) (key : ByteArray) (w : World) (h : Rf w b c n C sum) (hn : key.size ≤ 140737488351232) (hl : cnt n C key ≠ 15)
    (h0 : 0 ≤ sum) (h1 : sum < 10 * (n : Int)) :
    Calls Tryz.prog 86 #[.pointer (some ⟨b, 0, none⟩), .string key] w (AddPost b c n C sum key w) := by
  have n1 := h.n1
  have n2 := h.n2
  have H := Lib.hid h
  have HC := Lib.hid (cells_rf' b c n C sum key w h hn)
  have hle := cnt_le n C key
  have HL := Lib.hid hl
  have CT0 : Hid (∀ w, Rf w b c n C sum → Calls Tryz.prog 110 #[.pointer (some ⟨b, 0, none⟩), .string key] w fun e w' => e = .returned (.int .i64 (cnt n C key : Nat)) ∧ Below w.heap.size w w') := Lib.hid (fun w hw => count_rf b c n C sum key w hw hn)
  have HCL : Hid (∀ k, k < 4 → cnt n C key ≤ C.getD (plc n key k) 0) := Lib.hid (fun k hk => cnt_le_cell n C key k hk)
  have HAM : Hid (∀ low i k, C.getD i 0 ≤ (addk n C key low k).getD i 0) := Lib.hid (fun low i k => addk_mono n C key low i 0 k (by omega))
  generalize hlow : cnt n C key = low at *
  have hl15 : low < 15 := by omega
  have HLow := Lib.hid hlow
  have HP : Hid (∀ k, k < 4 → plc n key k < 4 * n) := Lib.hid (fun k hk => plc_lt n key k hk (by omega))
  have HA := Lib.hid (pla_at n key)
  have hpla : Hid (#[.int .i64 (plc n key 0 : Int), .int .i64 (plc n key 1 : Int), .int .i64 (plc n key 2 : Int), .int .i64 (plc n key 3 : Int)] = pla n key) := Lib.hid rfl
  clear h hl hlow hle
  go_enter Tryz.func86, Tryz.ntmps86
  go_wp2_with (go_at_call 109; refine HC.out.mono ?_; rintro e w1 ⟨rfl, hb⟩)
  have HB := Lib.hid hb
  clear hb
  go_wp2_with fail
  have H2 : Hid (Rf (w1.alloc (.cells #[.int .i64 (plc n key 0 : Int), .int .i64 (plc n key 1 : Int), .int .i64 (plc n key 2 : Int), .int .i64 (plc n key 3 : Int)] 128)) b c n C sum) :=
    Lib.hid ((H.out.below HB.out).below ((Below.refl _ _).alloc (Nat.le_refl _) _))
  have CT := CT0.out _ H2.out
  have hg0 := block_new w1 (.cells #[.int .i64 (plc n key 0 : Int), .int .i64 (plc n key 1 : Int), .int .i64 (plc n key 2 : Int), .int .i64 (plc n key 3 : Int)] 128)
  rw [hpla.out] at hg0 H2 CT ⊢
  have hb1 : Below w.heap.size w (w1.alloc (.cells (pla n key) 128)) := HB.out.alloc HB.out.size _
  have HG0 := Lib.hid hg0
  have HB1 := Lib.hid hb1
  clear hg0 hb1
  refine CT.mono ?_
  rintro e w2 ⟨rfl, hb2⟩
  have hg2 : w2.heap[w1.heap.size]? = some (.cells (pla n key) 128 (0, 0)) := (hb2.block _ (lt_of_block HG0.out)).trans HG0.out
  have hR2 : Rf w2 b c n C sum := H2.out.below hb2
  have hu2 : Upd (BC b c) w w2 := Upd.of_below (HB1.out.trans (hb2.mono HB1.out.size)) (fun i h1 h2 => by omega)
  have hgb : Hid (w1.heap.size ≠ b ∧ w1.heap.size ≠ c) := by
    have h5 := H.out.below HB.out
    have h3 := lt_of_block h5.obj
    have h4 := lt_of_block h5.row
    exact Lib.hid ⟨by omega, by omega⟩
  generalize w1.heap.size = g at *
  have G2 := Lib.hid hg2
  have R2 := Lib.hid hR2
  have U2 := Lib.hid hu2
  clear hb2 hg2 hR2 hu2 CT HB HG0 HB1 H2 hpla HC CT0
  go_wp2_with fail
  go_loopw [6] (fun v6 wr => ∃ k : Nat, k ≤ 4 ∧ v6 = .int .i64 k ∧ Rf wr b c n (addk n C key low k) sum ∧ wr.heap[g]? = some (.cells (pla n key) 128 (0, 0)) ∧ Upd (BC b c) w wr) (fun v6 wr => 4 - (intOf v6).toNat)
  case atStart => exact ⟨0, by omega, rfl, R2.out, G2.out, U2.out⟩
  case round =>
    clear R2 G2 U2
    obtain ⟨k, hk, rfl, hs, hg, hu⟩ := hrel
    have HS := Lib.hid hs
    have HG := Lib.hid hg
    have HU := Lib.hid hu
    obtain ⟨c0, c1, c2, fr⟩ := cells3 hs.obj
    clear hs hg hu
    by_cases hlt : k < 4
    · have hp := HP.out k hlt
      have hgk : wr.cell? ⟨g, k, none⟩ = some (.int .i64 (plc n key k : Int)) := (cell_of HG.out k).trans (HA.out k hlt)
      have d := HS.out.cell (plc n key k) hp
      have fc := free_of HS.out.row
      have hge : low ≤ (addk n C key low k).getD (plc n key k) 0 := Nat.le_trans (HCL.out k hlt) (HAM.out low _ k)
      have hadd : addk n C key low (k + 1) = if (addk n C key low k).getD (plc n key k) 0 ≤ low then (addk n C key low k).set (plc n key k) ((addk n C key low k).getD (plc n key k) 0 + 1) else addk n C key low k := rfl
      have S := Lib.hid (fun m => (HS.out.drewN m).put (plc n key k) (low + 1) (by omega))
      generalize (addk n C key low k).getD (plc n key k) 0 = x at *
      generalize plc n key k = p at *
      have HD := Lib.hid hadd
      clear hadd
      have z0 : (0 : Int) ≤ (p : Int) := by omega
      have z1 : (p : Int) < ((4 * n : Nat) : Int) := by omega
      have z2 : (0 : Int) ≤ (k : Int) := by omega
      have z3 : (k : Int) < 4 := by omega
      by_cases hx : x = low
      · subst hx
        have t1 : ((x : Int) == (x : Int)) = true := by simp
        go_wp2_with fail
        go_quiet (fail)
        go_wp2_with fail
        go_region
        go_wp2_with fail
        go_roundw
        case rel =>
          refine ⟨k + 1, by omega, by go_num, ?_, ?_, ?_⟩
          · rw [HD.out, if_pos (Nat.le_refl _)]; exact S.out _
          · exact block_other (w := wr.drewN _) (p := ⟨c, p, none⟩) hgb.out.2 HG.out
          · exact (HU.out.drewN _).setCell (p := ⟨c, p, none⟩) (.inl (.inr rfl)) _
        case measure => simp [intOf]; omega
      · have t1 : ((x : Int) == (low : Int)) = false := by simp; omega
        go_wp2_with fail
        go_quiet (fail)
        go_wp2_with fail
        go_roundw
        case rel => exact ⟨k + 1, by omega, by go_num, by rw [HD.out, if_neg (by omega)]; exact HS.out.drewN _, HG.out, HU.out.drewN _⟩
        case measure => simp [intOf]; omega
    · obtain rfl : k = 4 := by omega
      have e2 : wrap64 (10 * (n : Int)) = 10 * (n : Int) := by unfold wrap64; omega
      have hfin : Hid (addS n key (C, sum) = if sum + 1 = 10 * (n : Int) then ((addk n C key low 4).map (· / 2), (sum + 1) / 2) else (addk n C key low 4, sum + 1)) := Lib.hid (by
        unfold addS
        rw [HLow.out, if_neg HL.out])
      have e1 : wrap64 (sum + 1) = sum + 1 := by unfold wrap64; omega
      by_cases ht : sum + 1 = 10 * (n : Int)
      · have t2 : decide (10 * (n : Int) ≤ sum + 1) = true := by simp; omega
        go_wp2_with fail
        go_quiet (fail)
        go_wp2_with fail
        refine (halve_rf b c n (addk n C key low 4) (10 * (n : Int)) _ ((HS.out.put_sum _).drewN _) (by omega) (by omega)).mono ?_
        rintro e w6 ⟨rfl, hs6, hu6⟩
        go_wp2_with fail
        go_end0
        unfold AddPost
        rw [hfin.out, if_pos ht, ht]
        exact ⟨rfl, hs6, (HU.out.setCell (p := ⟨b, 2, none⟩) (.inl (.inl rfl)) _).trans (hu6.of_drewN)⟩
      · have t2 : decide (10 * (n : Int) ≤ sum + 1) = false := by simp; omega
        go_wp2_with fail
        go_quiet (fail)
        go_wp2_with fail
        go_end0
        unfold AddPost
        rw [hfin.out, if_neg ht]
        exact ⟨rfl, (HS.out.put_sum _).drewN _, (HU.out.setCell (p := ⟨b, 2, none⟩) (.inl (.inl rfl)) _).drewN _⟩

theorem add_rf (b c n : Nat) (C : List Nat) (sum : Int) (key : ByteArray) (w : World) (h : Rf w b c n C sum) (hn : key.size ≤ 140737488351232)
    (h0 : 0 ≤ sum) (h1 : sum < 10 * (n : Int)) :
    Calls Tryz.prog 86 #[.pointer (some ⟨b, 0, none⟩), .string key] w (AddPost b c n C sum key w) := by
  by_cases hl : cnt n C key = 15
  · exact add_full b c n C sum key w h hn hl h1
  · exact add_less b c n C sum key w h hn hl h0 h1

end Go.Proofs.YtkeicfajlmhajaaGreat.Sr
