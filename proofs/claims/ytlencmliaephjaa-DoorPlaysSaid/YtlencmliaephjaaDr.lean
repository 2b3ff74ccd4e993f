/- The walks of the reference's door, over a list of bits. -/
import Derived.Test.YtlencmliaephjaaDt
namespace Go.Proofs.Ytlencmliaephjaa.Do
open Go Go.RowKit Go.Proofs.Ytlencmliaephjaa.K Go.Proofs.Ytlencmliaephjaa.Ha Go.Proofs.Ytlencmliaephjaa.Sk

def bools (B : List Bool) : List Value := B.map Value.bool

/-- The reference's door at b, its bits at c. -/
structure Rd (w : World) (b c m : Nat) (B : List Bool) : Prop where
  obj : w.heap[b]? = some (.cells #[.slice (some ⟨c, 0, none⟩) (64 * m) (64 * m)] 62 (0, 0))
  row : w.heap[c]? = some (.cells (bools B).toArray 4 (0, 0))
  len : B.length = 64 * m
  m1 : 1 ≤ m
  m2 : m ≤ 128

variable {w : World} {b c m : Nat} {B : List Bool}
theorem Rd.ne (h : Rd w b c m B) : b ≠ c := by
  rintro rfl
  have := h.obj.symm.trans h.row
  simp only [Option.some.injEq, Obj.cells.injEq] at this
  exact absurd this.2.1 (by decide)
theorem Rd.drewN (h : Rd w b c m B) (k : Nat) : Rd (w.drewN k) b c m B := ⟨h.obj, h.row, h.len, h.m1, h.m2⟩
theorem Rd.upd {w' : World} {F : Nat → Prop} (h : Rd w b c m B) (hu : Upd F w w') (h1 : ¬ F b) (h2 : ¬ F c) : Rd w' b c m B := ⟨hu.get h.obj h1, hu.get h.row h2, h.len, h.m1, h.m2⟩
theorem Rd.below {w' : World} (h : Rd w b c m B) (hu : Below w.heap.size w w') : Rd w' b c m B :=
  ⟨(hu.block _ (lt_of_block h.obj)).trans h.obj, (hu.block _ (lt_of_block h.row)).trans h.row, h.len, h.m1, h.m2⟩
theorem Rd.cell (h : Rd w b c m B) (i : Nat) (hi : i < 64 * m) : w.cell? ⟨c, i, none⟩ = some (.bool (B.getD i false)) := by
  rw [cell_of h.row]
  have := h.len
  simp [bools, List.getD_eq_getElem?_getD, List.getElem?_eq_getElem (show i < B.length by omega)]
theorem Rd.set (h : Rd w b c m B) (i : Nat) : Rd (w.setCell ⟨c, i, none⟩ (.bool true)) b c m (B.set i true) := by
  refine ⟨block_other h.ne h.obj, (block_setCell h.row).trans ?_, by simpa using h.len, h.m1, h.m2⟩
  congr 2
  apply Array.ext'
  simp [bools, List.map_set]

theorem bit_rd (key : ByteArray) (i : Nat) (hi : i < 3) (h : Rd w b c m B) (hn : key.size ≤ 140737488351232) :
    Calls Try.prog 45 #[.pointer (some ⟨b, 0, none⟩), .int .i64 (i : Int), .string key] w fun e w' => e = .returned (.int .i64 ((pb m key i : Nat) : Int)) ∧ ∃ k, w' = w.drewN k := by
  have m1 := h.m1
  have m2 := h.m2
  obtain ⟨c0, fr⟩ := cells1 h.obj
  obtain ⟨-, hh, g0, g1⟩ := HF_spec key ((i : Int) + 11) hn
  have HHA := fun w => hash_any2 hh w
  have HPL := fun w => place_any2 (HF ((i : Int) + 11) key) (64 * m) g0 (by omega) (by omega) w
  have hp : (HF ((i : Int) + 11) key).toNat % (64 * m) = pb m key i := rfl
  rw [hp] at HPL
  have hlt := pb_lt m key i m1
  generalize pb m key i = p at *
  generalize hq : HF ((i : Int) + 11) key = q at *
  have e1 : IntKind.i64.wrap (11 + (i : Int)) = (i : Int) + 11 := by rw [IntWalk.i64_in _ (by omega)]; omega
  have e3 : IntKind.u64.wrap ((i : Int) + 11) = (i : Int) + 11 := by simp only [IntKind.wrap_u64]; omega
  clear h hh hq hp
  go_enter Try.func45, Try.ntmps45
  go_wp2_with fail
  go_region_held3 (fun w' => w'.cell? ⟨b, 0, none⟩ = some (.slice (some ⟨c, 0, none⟩) (64 * m) (64 * m)))
    (first | go_keep)
    (first | (go_at_call 50; refine (HHA _).mono ?_; rintro e w' ⟨rfl, k, rfl⟩) | (go_at_call 49; refine (HPL _).mono ?_; rintro e w' ⟨rfl, k, rfl⟩))
  go_wp2_with fail
  go_ret
  exact ⟨rfl, _, rfl⟩

theorem quiet_any {P : Program} {f : FuncId} {args : Array Value} {w : World} {a : Nat} {v : Value}
    (h : Calls P f args (w.drewN a) fun e w' => e = .returned v ∧ ∃ m, w' = (w.drewN a).drewN m) : Calls P f args (w.drewN a) fun e w'' => e = .returned v ∧ ∃ n, w'' = w.drewN n :=
  h.mono fun _ _ ⟨he, m, hm⟩ => ⟨he, a + m, by rw [hm, World.drewN_drewN]⟩

set_option maxHeartbeats 800000 in
theorem has_rd (key : ByteArray) (h : Rd w b c m B) (hn : key.size ≤ 140737488351232) :
    Calls Try.prog 27 #[.pointer (some ⟨b, 0, none⟩), .string key] w fun e w' => e = .returned (.bool (has m B key)) ∧ ∃ k, w' = w.drewN k := by
  have m1 := h.m1
  have m2 := h.m2
  obtain ⟨c0, fr⟩ := cells1 h.obj
  have AA : ∀ z q, 0 ≤ z ∧ z ≤ 2 → Calls Try.prog 45 #[.pointer (some ⟨b, 0, none⟩), .int .i64 z, .string key] (w.drewN q) fun e w' => e = .returned (.int .i64 ((pb m key z.toNat : Nat) : Int)) ∧ ∃ k, w' = (w.drewN q).drewN k := by
    rintro z q ⟨hz0, hz2⟩
    obtain ⟨i, rfl⟩ := Int.eq_ofNat_of_zero_le hz0
    rw [Int.toNat_natCast]
    exact bit_rd (w := w.drewN q) key i (by omega) (h.drewN q) hn
  obtain ⟨sel, s0, s1, s2, AS⟩ : ∃ sel : Int → Int, sel 0 = pb m key 0 ∧ sel 1 = pb m key 1 ∧ sel 2 = pb m key 2 ∧ ∀ z q, 0 ≤ z ∧ z ≤ 2 → Calls Try.prog 45 #[.pointer (some ⟨b, 0, none⟩), .int .i64 z, .string key] (w.drewN q) fun e w' => e = .returned (.int .i64 (sel z)) ∧ ∃ k, w' = (w.drewN q).drewN k :=
    ⟨fun z => ((pb m key z.toNat : Nat) : Int), rfl, rfl, rfl, AA⟩
  clear AA
  have P0 := pb_lt m key 0 m1
  have P1 := pb_lt m key 1 m1
  have P2 := pb_lt m key 2 m1
  have d0 := h.cell _ P0
  have d1 := h.cell _ P1
  have d2 := h.cell _ P2
  have HE := Lib.hid (has_eq m B key)
  generalize pb m key 0 = p0 at *
  generalize pb m key 1 = p1 at *
  generalize pb m key 2 = p2 at *
  generalize B.getD p0 false = v0 at *
  generalize B.getD p1 false = v1 at *
  generalize B.getD p2 false = v2 at *
  have z0 : (0 : Int) ≤ (p0 : Int) := by omega
  have z1 : (p0 : Int) < ((64 * m : Nat) : Int) := by omega
  have y0 : (0 : Int) ≤ (p1 : Int) := by omega
  have y1 : (p1 : Int) < ((64 * m : Nat) : Int) := by omega
  have x0 : (0 : Int) ≤ (p2 : Int) := by omega
  have x1 : (p2 : Int) < ((64 * m : Nat) : Int) := by omega
  have HS := Lib.hid AS
  clear AS h
  have hcase : (v0 = false) ∨ (v0 = true ∧ v1 = false) ∨ (v0 = true ∧ v1 = true) := by cases v0 <;> cases v1 <;> simp
  rcases hcase with rfl | ⟨rfl, rfl⟩ | ⟨rfl, rfl⟩
  all_goals
    go_enter Try.func27, Try.ntmps27
    go_wp2_with fail
    go_quiet ((go_at_call 45; exact quiet_any (HS.out _ _ (by omega))))
    go_wp2_with fail
    go_ret
    exact ⟨ret_bool (by rw [HE.out]; simp), _, rfl⟩

end Go.Proofs.Ytlencmliaephjaa.Do
