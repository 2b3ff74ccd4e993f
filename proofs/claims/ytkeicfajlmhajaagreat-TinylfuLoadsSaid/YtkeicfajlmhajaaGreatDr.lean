/- The walks of the reference's door, over a list of bits. -/
import Derived.Test.YtkeicfajlmhajaaGreatDa
import Derived.Test.YtkeicfajlmhajaaGreatHc
import Derived.Test.YtkeicfajlmhajaaGreatKa
namespace Go.Proofs.YtkeicfajlmhajaaGreat.Do
open Go Go.RowKit Go.Proofs.YtkeicfajlmhajaaGreat.K Go.Proofs.YtkeicfajlmhajaaGreat.Ha Go.Proofs.YtkeicfajlmhajaaGreat.Sk

def bools (B : List Bool) : List Value := B.map Value.bool

/-- The reference's door at b, its bits at c. -/
structure Rd (w : World) (b c m : Nat) (B : List Bool) : Prop where
  obj : w.heap[b]? = some (.cells #[.slice (some ⟨c, 0, none⟩) (64 * m) (64 * m)] 97 (0, 0))
  row : w.heap[c]? = some (.cells (bools B).toArray 4 (0, 0))
  len : B.length = 64 * m
  m1 : 1 ≤ m
  m2 : m ≤ 128

variable {w : World} {b c m : Nat} {B : List Bool}
theorem Rd.ne (h : Rd w b c m B) : b ≠ c := by
  rintro rfl
  have := h.obj.symm.trans h.row
  simp only [Option.some.injEq, Obj.cells.injEq] at this
  exact absurd this.2.1 (by decide)
theorem Rd.drewN (h : Rd w b c m B) (k : Nat) : Rd (w.drewN k) b c m B := ⟨h.obj, h.row, h.len, h.m1, h.m2⟩
theorem Rd.upd {w' : World} {F : Nat → Prop} (h : Rd w b c m B) (hu : Upd F w w') (h1 : ¬ F b) (h2 : ¬ F c) : Rd w' b c m B := ⟨hu.get h.obj h1, hu.get h.row h2, h.len, h.m1, h.m2⟩
theorem Rd.below {w' : World} (h : Rd w b c m B) (hu : Below w.heap.size w w') : Rd w' b c m B :=
  ⟨(hu.block _ (lt_of_block h.obj)).trans h.obj, (hu.block _ (lt_of_block h.row)).trans h.row, h.len, h.m1, h.m2⟩
theorem Rd.cell (h : Rd w b c m B) (i : Nat) (hi : i < 64 * m) : w.cell? ⟨c, i, none⟩ = some (.bool (B.getD i false)) := by
  rw [cell_of h.row]
  have := h.len
  simp [bools, List.getD_eq_getElem?_getD, List.getElem?_eq_getElem (show i < B.length by omega)]
theorem Rd.set (h : Rd w b c m B) (i : Nat) : Rd (w.setCell ⟨c, i, none⟩ (.bool true)) b c m (B.set i true) := by
  refine ⟨block_other h.ne h.obj, (block_setCell h.row).trans ?_, by simpa using h.len, h.m1, h.m2⟩
  congr 2
  apply Array.ext'
  simp [bools, List.map_set]

theorem bit_rd (key : ByteArray) (i : Nat) (hi : i < 3) (h : Rd w b c m B) (hn : key.size ≤ 140737488351232) :
    Calls Tryz.prog 108 #[.pointer (some ⟨b, 0, none⟩), .int .i64 (i : Int), .string key] w fun e w' => e = .returned (.int .i64 ((pb m key i : Nat) : Int)) ∧ ∃ k, w' = w.drewN k := by
  have m1 := h.m1
  have m2 := h.m2
  obtain ⟨c0, fr⟩ := cells1 h.obj
  obtain ⟨-, hh, g0, g1⟩ := HF_spec key ((i : Int) + 11) hn
  have HHA := fun w => hash_any2 hh w
  have HPL := fun w => place_any2 (HF ((i : Int) + 11) key) (64 * m) ⟨g0, g1⟩ (by omega) (by omega) w
  have hp : (HF ((i : Int) + 11) key).toNat % (64 * m) = pb m key i := rfl
  rw [hp] at HPL
  have hlt := pb_lt m key i m1
  generalize pb m key i = p at *
  generalize hq : HF ((i : Int) + 11) key = q at *
  have e1 : IntKind.i64.wrap (11 + (i : Int)) = (i : Int) + 11 := by rw [IntWalk.i64_in _ (by omega)]; omega
  have e3 : IntKind.u64.wrap ((i : Int) + 11) = (i : Int) + 11 := by simp only [IntKind.wrap_u64]; omega
  clear h hh hq hp
  go_enter Tryz.func108, Tryz.ntmps108
  go_wp2_with fail
  go_region_held3 (fun w' => w'.cell? ⟨b, 0, none⟩ = some (.slice (some ⟨c, 0, none⟩) (64 * m) (64 * m)))
    (first | go_keep)
    (first | (go_at_call 117; refine (HHA _).mono ?_; rintro e w' ⟨rfl, k, rfl⟩) | (go_at_call 116; refine (HPL _).mono ?_; rintro e w' ⟨rfl, k, rfl⟩))
  go_wp2_with fail
  go_ret
  exact ⟨rfl, _, rfl⟩

theorem quiet_any {P : Program} {f : FuncId} {args : Array Value} {w : World} {a : Nat} {v : Value}
    (h : Calls P f args (w.drewN a) fun e w' => e = .returned v ∧ ∃ m, w' = (w.drewN a).drewN m) : Calls P f args (w.drewN a) fun e w'' => e = .returned v ∧ ∃ n, w'' = w.drewN n :=
  h.mono fun _ _ ⟨he, m, hm⟩ => ⟨he, a + m, by rw [hm, World.drewN_drewN]⟩

set_option maxHeartbeats 800000 in
theorem has_rd (key : ByteArray) (h : Rd w b c m B) (hn : key.size ≤ 140737488351232) :
    Calls Tryz.prog 107 #[.pointer (some ⟨b, 0, none⟩), .string key] w fun e w' => e = .returned (.bool (has m B key)) ∧ ∃ k, w' = w.drewN k := by
  have m1 := h.m1
  have m2 := h.m2
  obtain ⟨c0, fr⟩ := cells1 h.obj
  have AA : ∀ z q, 0 ≤ z ∧ z ≤ 2 → Calls Tryz.prog 108 #[.pointer (some ⟨b, 0, none⟩), .int .i64 z, .string key] (w.drewN q) fun e w' => e = .returned (.int .i64 ((pb m key z.toNat : Nat) : Int)) ∧ ∃ k, w' = (w.drewN q).drewN k := by
    rintro z q ⟨hz0, hz2⟩
    obtain ⟨i, rfl⟩ := Int.eq_ofNat_of_zero_le hz0
    rw [Int.toNat_natCast]
    exact bit_rd (w := w.drewN q) key i (by omega) (h.drewN q) hn
  obtain ⟨sel, s0, s1, s2, AS⟩ : ∃ sel : Int → Int, sel 0 = pb m key 0 ∧ sel 1 = pb m key 1 ∧ sel 2 = pb m key 2 ∧ ∀ z q, 0 ≤ z ∧ z ≤ 2 → Calls Tryz.prog 108 #[.pointer (some ⟨b, 0, none⟩), .int .i64 z, .string key] (w.drewN q) fun e w' => e = .returned (.int .i64 (sel z)) ∧ ∃ k, w' = (w.drewN q).drewN k :=
    ⟨fun z => ((pb m key z.toNat : Nat) : Int), rfl, rfl, rfl, AA⟩
  clear AA
  have P0 := pb_lt m key 0 m1
  have P1 := pb_lt m key 1 m1
  have P2 := pb_lt m key 2 m1
  have d0 := h.cell _ P0
  have d1 := h.cell _ P1
  have d2 := h.cell _ P2
  have HE := Lib.hid (has_eq m B key)
  generalize pb m key 0 = p0 at *
  generalize pb m key 1 = p1 at *
  generalize pb m key 2 = p2 at *
  generalize B.getD p0 false = v0 at *
  generalize B.getD p1 false = v1 at *
  generalize B.getD p2 false = v2 at *
  have z0 : (0 : Int) ≤ (p0 : Int) := by omega
  have z1 : (p0 : Int) < ((64 * m : Nat) : Int) := by omega
  have y0 : (0 : Int) ≤ (p1 : Int) := by omega
  have y1 : (p1 : Int) < ((64 * m : Nat) : Int) := by omega
  have x0 : (0 : Int) ≤ (p2 : Int) := by omega
  have x1 : (p2 : Int) < ((64 * m : Nat) : Int) := by omega
  have HS := Lib.hid AS
  clear AS h
  have hcase : (v0 = false) ∨ (v0 = true ∧ v1 = false) ∨ (v0 = true ∧ v1 = true) := by cases v0 <;> cases v1 <;> simp
  rcases hcase with rfl | ⟨rfl, rfl⟩ | ⟨rfl, rfl⟩
  all_goals
    go_enter Tryz.func107, Tryz.ntmps107
    go_wp2_with fail
    go_quiet ((go_at_call 108; exact quiet_any (HS.out _ _ (by omega))))
    go_wp2_with fail
    go_ret
    exact ⟨ret_bool (by rw [HE.out]; simp), _, rfl⟩

end Go.Proofs.YtkeicfajlmhajaaGreat.Do

/- The walks of the reference's door: Add, Ones, Clear, New. -/
namespace Go.Proofs.YtkeicfajlmhajaaGreat.Do
open Go Go.RowKit Go.Proofs.YtkeicfajlmhajaaGreat.K Go.Proofs.YtkeicfajlmhajaaGreat.Ha Go.Proofs.YtkeicfajlmhajaaGreat.Sk

variable {w : World} {b c m : Nat} {B : List Bool}

def RAddPost (b c m : Nat) (B : List Bool) (key : ByteArray) (w : World) (e : Ending) (w' : World) : Prop :=
  e = .returned (.bool (has m B key)) ∧ Rd w' b c m (addB m B key) ∧ Upd (· = c) w w'

theorem add_rd (key : ByteArray) (h : Rd w b c m B) (hn : key.size ≤ 140737488351232) :
    Calls Tryz.prog 85 #[.pointer (some ⟨b, 0, none⟩), .string key] w (RAddPost b c m B key w) := by
  have m1 := h.m1
  have m2 := h.m2
  have A := has_rd key h hn
  have H := Lib.hid h
  have HA := Lib.hid A
  clear h A
  go_enter Tryz.func85, Tryz.ntmps85
  go_wp2_with (go_at_call 107; refine HA.out.mono ?_; rintro e w1 ⟨rfl, q, rfl⟩)
  go_loopw [6] (fun v6 wr => ∃ k : Nat, k ≤ 3 ∧ v6 = .int .i64 k ∧ Rd wr b c m (setk m B key k) ∧ Upd (· = c) w wr) (fun v6 wr => 3 - (intOf v6).toNat)
  case atStart => exact ⟨0, by omega, rfl, H.out.drewN _, (Upd.refl _ _).drewN _⟩
  case round =>
    obtain ⟨k, hk, rfl, hs, hu⟩ := hrel
    have HU := Lib.hid hu
    clear hu
    by_cases hlt : k < 3
    · have hp := pb_lt m key k m1
      obtain ⟨c0, fr⟩ := cells1 hs.obj
      have d := hs.cell _ hp
      have fc := free_of hs.row
      have A : ∀ q, Calls Tryz.prog 108 #[.pointer (some ⟨b, 0, none⟩), .int .i64 (k : Int), .string key] (wr.drewN q) _ := fun q => bit_rd (w := wr.drewN q) key k hlt (hs.drewN q) hn
      have A0 := bit_rd key k hlt hs hn
      have HS2 : Hid (setk m B key (k + 1) = (setk m B key k).set (pb m key k) true) := Lib.hid rfl
      have S := Lib.hid (fun q => (hs.drewN q).set (pb m key k))
      have hne := hs.ne
      generalize pb m key k = p at *
      have z0 : (0 : Int) ≤ (p : Int) := by omega
      obtain ⟨N, hN⟩ : ∃ N, N = 64 * m := ⟨_, rfl⟩
      rw [← hN] at c0
      have z1 : (p : Int) < (N : Int) := by omega
      have HNN := Lib.hid hN
      clear hN hp
      have HA := Lib.hid A
      have HA0 := Lib.hid A0
      clear A A0 hs
      go_wp2_with fail
      go_region_held3 (fun w' => w'.cell? ⟨b, 0, none⟩ = some (.slice (some ⟨c, 0, none⟩) N N))
        (first | go_keep | exact Sk.keep_far hne c0)
        (first | (go_at_call 108; refine HA0.out.mono ?_; rintro e w' ⟨rfl, q2, rfl⟩) | (go_at_call 108; refine (HA.out 1).mono ?_; rintro e w' ⟨rfl, q2, rfl⟩))
      go_wp2_with fail
      go_roundw
      case rel => exact ⟨k + 1, by omega, by go_num, by rw [HS2.out]; exact S.out _, (HU.out.drewN _).setB⟩
      case measure => simp [intOf]; omega
    · obtain rfl : k = 3 := by omega
      go_wp2_with fail
      go_ret
      exact ⟨rfl, hs, HU.out⟩

theorem info4 : (Tryz.prog.info? 4).map (fun i => (i.zero, i.size, i.bytes)) = some (some (.bool false), 1, 1) := by kernel_rfl
theorem made_bools (n : Nat) : (madeCells (Value.bool false).cells (n * 1)).toList = bools (List.replicate n false) := by
  rw [Nat.mul_one]
  refine (made_one (.bool false) n).trans ?_
  simp [bools]

def RClearPost (b m : Nat) (w : World) (e : Ending) (w' : World) : Prop :=
  e = .returned (.tuple #[]) ∧ ∃ c', w.heap.size ≤ c' ∧ Rd w' b c' m (List.replicate (64 * m) false) ∧ Upd (· = b) w w'

set_option maxRecDepth 100000 in
theorem clear_rd (h : Rd w b c m B) : Calls Tryz.prog 87 #[.pointer (some ⟨b, 0, none⟩)] w (RClearPost b m w) := by
  have m1 := h.m1
  have m2 := h.m2
  obtain ⟨c0, fr⟩ := cells1 h.obj
  have hblt := lt_of_block h.obj
  have H := Lib.hid h
  obtain ⟨i5, hi5, hz5, hs5, hb5⟩ := info_parts info4
  clear h
  go_enter Tryz.func87, Tryz.ntmps87
  go_wp2_with (refine wpList_make_full _ rfl _ _ 95 rfl w.heap.size 4 i5 _ 1 Tryz.underlying95 hi5 hz5 hs5 .i64 .i64 _ _ (64 * m) rfl rfl (by omega) (by omega) (by rw [hb5]; omega) (by unfold maxLen; omega) (Nat.le_refl _) ?_; intro w5 hown hgr; have hb5' : w5.heap[b]? = _ := (hgr.block b hblt (by simp)).trans H.out.obj; have c05 := (cells1 hb5').1; have fr5 := (cells1 hb5').2)
  go_end0
  have hrow := own_full hown
  rw [made_bools] at hrow
  have hu : Upd (· = b) w w5 := Upd.of_below ⟨hgr.os, hgr.tape, hgr.output, hgr.size, fun k hk => hgr.block k hk (by simp)⟩ (fun i h1 h2 => by omega)
  have hne : w.heap.size ≠ b := by omega
  refine ⟨rfl, w.heap.size, Nat.le_refl _, ⟨?_, block_other hne hrow, by simp, m1, m2⟩, hu.setB⟩
  exact block_setCell hb5'

theorem power1_any (room : Int) (w : World) :
    Calls Tryz.prog 59 #[.int .i64 room, .int .i64 1] w fun e w' => e = .returned (.int .i64 (pw1 (clamp room 1 1024) : Nat)) ∧ w = w' := by
  have hcl : clamp room 1 1024 = min (max room 1) 1024 := rfl
  have hc2 : clamp room 1 1024 ≤ 1024 := by unfold clamp; omega
  generalize clamp room 1 1024 = c at *
  have HC := Lib.hid hcl
  clear hcl
  go_enter Tryz.func59, Tryz.ntmps59
  go_wp2_with fail
  go_loop [5] (fun v5 => ∃ n : Nat, v5 = .int .i64 n ∧ Sr.Pow1 n ∧ (n = 1 ∨ (n : Int) < 2 * c) ∧ n ≤ 1024) (fun v5 => 1024 - (intOf v5).toNat)
  case atStart => exact ⟨1, rfl, .inl rfl, .inl (by omega), by omega⟩
  case round =>
    obtain ⟨n, rfl, hp, hb, hn⟩ := hrel
    have hn1 := p1_ge hp
    have HP := Lib.hid hp
    clear hp
    go_wp2_with fail
    all_goals
      first
        | (have e := HC.out
           have e2 := p1_next (c := c) HP.out (by omega) hc2
           exact ⟨⟨2 * n, by go_num, e2.1, e2.2.2, e2.2.1⟩, by simp [intOf]; omega⟩)
        | (have e := HC.out
           go_ret
           exact ⟨ret_int (by rw [p1_end (c := c) HP.out hb (by omega) hc2]), rfl⟩)

def RNewPost (m : Nat) (w : World) (e : Ending) (w' : World) : Prop :=
  ∃ b c, e = .returned (.pointer (some ⟨b, 0, none⟩)) ∧ w.heap.size ≤ b ∧ w.heap.size ≤ c ∧ Rd w' b c m (List.replicate (64 * m) false) ∧ Below w.heap.size w w'

theorem pw1_dw (room : Int) : max 64 (8 * pw1 (clamp room 1 1024)) = 64 * dw room := by
  unfold dw pw1 pw
  (repeat' split) <;> rfl

set_option maxRecDepth 100000 in
theorem new_rd (room : Int) (w : World) : Calls Tryz.prog 39 #[.int .i64 room] w (RNewPost (dw room) w) := by
  have hdr := dw_range room
  have hdw := pw1_dw room
  have HP := Lib.hid (fun w => power1_any room w)
  have hpr := pw1_range (clamp room 1 1024)
  generalize dw room = m at *
  generalize pw1 (clamp room 1 1024) = n at *
  obtain ⟨m1, m2⟩ := hdr
  obtain ⟨n1, n2⟩ := hpr
  obtain ⟨i5, hi5, hz5, hs5, hb5⟩ := info_parts info4
  have HD := Lib.hid hdw
  clear hdw
  go_enter Tryz.func39, Tryz.ntmps39
  go_wp2_with (first | (go_at_call 59; refine (HP.out _).mono ?_; rintro e w' ⟨rfl, rfl⟩) | (refine wpList_make_full _ rfl _ _ 95 rfl w.heap.size 4 i5 _ 1 Tryz.underlying95 hi5 hz5 hs5 .i64 .i64 _ _ (64 * m) rfl rfl (by have := HD.out; omega) (by have := HD.out; omega) (by rw [hb5]; omega) (by unfold maxLen; omega) (Nat.le_refl _) ?_; intro w5 hown hgr))
  all_goals
    go_ret
    have hrow := own_full hown
    rw [made_bools] at hrow
    exact ⟨_, _, rfl, hgr.size, Nat.le_refl _, ⟨block_new w5 _, block_alloc hrow, by simp, m1, m2⟩, (⟨hgr.os, hgr.tape, hgr.output, hgr.size, fun k hk => hgr.block k hk (by simp)⟩ : Below w.heap.size w w5).alloc hgr.size _⟩

end Go.Proofs.YtkeicfajlmhajaaGreat.Do
