/- The walk of places. -/
import Derived.Test.YtkeicfajlmhajaaKb
import Derived.BigRegion
import Derived.IntWalk
import Derived.Deep.RegionHeld3
namespace Go.Proofs.Ytkeicfajlmhajaa.Sk
open Go Go.RowKit Go.Proofs.Ytkeicfajlmhajaa.K Go.Proofs.Ytkeicfajlmhajaa.Ha

def pvk (n : Nat) (key : ByteArray) (k : Nat) : List Value := (List.range 4).map fun i => if i < k then Value.int .i64 (plc n key i : Int) else .int .i64 0
theorem pvk_four (n : Nat) (key : ByteArray) : pvk n key 4 = plv n key := rfl
theorem pvk_succ (n : Nat) (key : ByteArray) : ∀ k, k < 4 → pvk n key (k + 1) = (pvk n key k).set k (.int .i64 (plc n key k : Int))
  | 0, _ => rfl
  | 1, _ => rfl
  | 2, _ => rfl
  | 3, _ => rfl
  | k + 4, h => by omega

theorem keep_far {w : World} {b g k o n : Nat} {u v : Value} (hne : b ≠ g) (h : w.cell? ⟨b, o, none⟩ = some v) : ((w.drewN n).setCell ⟨g, k, none⟩ u).cell? ⟨b, o, none⟩ = some v := by
  have hb : ((w.drewN n).setCell ⟨g, k, none⟩ u).heap[b]? = w.heap[b]? := block_other (p := ⟨g, k, none⟩) hne rfl
  unfold World.cell? at h ⊢
  simp only [hb]
  exact h

theorem places_sq (b c n : Nat) (C : List Nat) (sum : Int) (key : ByteArray) (w : World) (h : Sq w b c n C sum) (hn : key.size ≤ 140737488351232) :
    Calls Try.prog 61 #[.pointer (some ⟨b, 0, none⟩), .string key] w fun e w' => e = .returned (.agg (plv n key).toArray) ∧ Below w.heap.size w w' := by
  have n1 := h.n1
  have n2 := h.n2
  obtain ⟨l, ho⟩ := h.obj
  go_enter Try.func61, Try.ntmps61
  go_wp2_with fail
  go_loopw [7] (fun v7 wr => ∃ k : Nat, k ≤ 4 ∧ v7 = .int .i64 k ∧ wr.heap[w.heap.size + 1]? = some (.cells (pvk n key k).toArray 94 (0, 0)) ∧ wr.heap[w.heap.size]? = some (.cells #[.int .i64 0, .int .i64 0, .int .i64 0, .int .i64 0] 94 (0, 0)) ∧ Below w.heap.size w wr) (fun v7 wr => 4 - (intOf v7).toNat)
  case atStart => 
    refine ⟨0, by omega, rfl, block_new' (by simp) _, block_alloc (block_new w _), ?_⟩
    exact ((Below.refl _ _).alloc (Nat.le_refl _) _).alloc (by simp) _
  case round =>
    obtain ⟨k, hk, rfl, h5, h4, hb⟩ := hrel
    by_cases hlt : k < 4
    · have ho2 := (hb.block _ (lt_of_block ho)).trans ho
      obtain ⟨c0, c1, c2, fr⟩ := cells3 ho2
      have f5 := free_of h5
      have i4 : (k : Int) < 4 := by omega
      obtain ⟨v5, hv5⟩ : ∃ v, wr.cell? ⟨w.heap.size + 1, k, none⟩ = some v := by
        rw [cell_of h5]
        exact ⟨_, Array.getElem?_eq_getElem (show k < (pvk n key k).toArray.size by simp [pvk]; omega)⟩
      have H5 := Lib.hid h5
      have H4 := Lib.hid h4
      have HB := Lib.hid hb
      have HO := Lib.hid ho
      have HH := Lib.hid h
      clear ho2 h5 h4 hb ho h
      obtain ⟨hh, -, g0, g1⟩ := HF_spec key ((k : Int) + 1) hn
      have HHA := fun w => hash_any hh w
      have HPL := fun w => place_any (HF ((k : Int) + 1) key) n ⟨g0, g1⟩ (by omega) (by omega) w
      generalize hq : HF ((k : Int) + 1) key = q at *
      have HQ := Lib.hid hq
      clear hq hh
      have p1 : (k : Int) * (n : Int) ≤ 4 * 1024 := Int.mul_le_mul (by omega) (by omega) (by omega) (by omega)
      have p2 : 0 ≤ (k : Int) * (n : Int) := Int.mul_nonneg (by omega) (by omega)
      have p3 := Nat.mod_lt q.toNat (show n > 0 by omega)
      have e1 : IntKind.i64.wrap ((k : Int) * (n : Int)) = (k : Int) * (n : Int) := IntWalk.i64_in _ (by omega)
      have e2 : IntKind.i64.wrap ((k : Int) + 1) = (k : Int) + 1 := IntWalk.i64_in _ (by omega)
      have e3 : IntKind.u64.wrap ((k : Int) + 1) = (k : Int) + 1 := by simp only [IntKind.wrap_u64]; omega
      have e4 : IntKind.i64.wrap ((k : Int) * (n : Int) + ((q.toNat % n : Nat) : Int)) = (k : Int) * (n : Int) + ((q.toNat % n : Nat) : Int) := IntWalk.i64_in _ (by omega)
      have E4 := Lib.hid e4
      clear p1 p2 p3 e4
      have hne : b ≠ w.heap.size + 1 := by have := lt_of_block HO.out; omega
      go_wp2_with fail
      go_region_held3 (fun w' => w'.cell? ⟨b, 0, none⟩ = some (.int .i64 (n : Int)))
        (first | go_keep | exact keep_far hne c0)
        (first | (go_at_call 77; refine (HHA _).mono ?_; rintro e w' ⟨rfl, m, rfl⟩) | (go_at_call 76; refine (HPL _).mono ?_; rintro e w' ⟨rfl, m, rfl⟩))
      go_wp2_with fail
      go_roundw
      case rel =>
        have hv : wrap64 ((k : Int) * (n : Int) + max q 0 % (n : Int)) = (plc n key k : Int) := by
          have e4 := E4.out
          unfold plc pl
          rw [HQ.out]
          clear HHA HPL
          obtain ⟨m, rfl⟩ := Int.eq_ofNat_of_zero_le g0
          rw [Int.max_eq_left g0]
          refine Eq.trans ?_ (e4.trans ?_)
          · simp [IntKind.wrap_i64, wrap64]
          · simp
        refine ⟨k + 1, by omega, by go_num, ?_, ?_, ?_⟩
        · rw [pvk_succ n key k hlt, hv]
          refine (block_setCell (w := wr.drewN _) H5.out).trans ?_
          simp
        · refine block_other (w := wr.drewN _) (by simp) H4.out
        · exact (below_drewN HB.out _).setCell (by simp) _
      case measure => simp [intOf]; omega
    · obtain rfl : k = 4 := by omega
      have d0 : wr.cell? ⟨w.heap.size + 1, 0, none⟩ = some (.int .i64 (plc n key 0 : Int)) := (cell_of h5 0).trans rfl
      have d1 : wr.cell? ⟨w.heap.size + 1, 1, none⟩ = some (.int .i64 (plc n key 1 : Int)) := (cell_of h5 1).trans rfl
      have d2 : wr.cell? ⟨w.heap.size + 1, 2, none⟩ = some (.int .i64 (plc n key 2 : Int)) := (cell_of h5 2).trans rfl
      have d3 : wr.cell? ⟨w.heap.size + 1, 3, none⟩ = some (.int .i64 (plc n key 3 : Int)) := (cell_of h5 3).trans rfl
      have z0 := cell_of h4 0
      have z1 := cell_of h4 1
      have z2 := cell_of h4 2
      have z3 := cell_of h4 3
      have f4 := free_of h4
      have f5 := free_of h5
      have H5 := Lib.hid h5
      have H4 := Lib.hid h4
      have HB := Lib.hid hb
      clear h4 h5 hb ho h
      go_wp2_with fail
      (try simp only [Exit.inBlock, Exit.then])
      refine bodyPost_ret (results_cell_row rfl _ _ w.heap.size 94 (plv n key).toArray (0, 0) _ rfl ?_ Try.underlying94 rfl (by kernel_rfl)) rfl ?_
      · exact (block_setCell (block_setCell (block_setCell (block_setCell H4.out)))).trans rfl
      · exact ⟨rfl, (((HB.out.setCell (p := ⟨w.heap.size, 0, none⟩) (Nat.le_refl _) _).setCell (p := ⟨w.heap.size, 1, none⟩) (Nat.le_refl _) _).setCell (p := ⟨w.heap.size, 2, none⟩) (Nat.le_refl _) _).setCell (p := ⟨w.heap.size, 3, none⟩) (Nat.le_refl _) _⟩

end Go.Proofs.Ytkeicfajlmhajaa.Sk
