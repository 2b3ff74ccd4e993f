/- The walks of the reference's door: Add, Ones, Clear, New. -/
import Derived.Test.YtlencmliaephjaaDr
import Derived.Test.YtlencmliaephjaaSp
namespace Go.Proofs.Ytlencmliaephjaa.Do
open Go Go.RowKit Go.Proofs.Ytlencmliaephjaa.K Go.Proofs.Ytlencmliaephjaa.Ha Go.Proofs.Ytlencmliaephjaa.Sk

variable {w : World} {b c m : Nat} {B : List Bool}

def RAddPost (b c m : Nat) (B : List Bool) (key : ByteArray) (w : World) (e : Ending) (w' : World) : Prop :=
  e = .returned (.bool (has m B key)) ∧ Rd w' b c m (addB m B key) ∧ Upd (· = c) w w'

theorem add_rd (key : ByteArray) (h : Rd w b c m B) (hn : key.size ≤ 140737488351232) :
    Calls Try.prog 26 #[.pointer (some ⟨b, 0, none⟩), .string key] w (RAddPost b c m B key w) := by
  have m1 := h.m1
  have m2 := h.m2
  have A := has_rd key h hn
  have H := Lib.hid h
  have HA := Lib.hid A
  clear h A
  go_enter Try.func26, Try.ntmps26
  go_wp2_with (go_at_call 27; refine HA.out.mono ?_; rintro e w1 ⟨rfl, q, rfl⟩)
  go_loopw [6] (fun v6 wr => ∃ k : Nat, k ≤ 3 ∧ v6 = .int .i64 k ∧ Rd wr b c m (setk m B key k) ∧ Upd (· = c) w wr) (fun v6 wr => 3 - (intOf v6).toNat)
  case atStart => exact ⟨0, by omega, rfl, H.out.drewN _, (Upd.refl _ _).drewN _⟩
  case round =>
    obtain ⟨k, hk, rfl, hs, hu⟩ := hrel
    have HU := Lib.hid hu
    clear hu
    by_cases hlt : k < 3
    · have hp := pb_lt m key k m1
      obtain ⟨c0, fr⟩ := cells1 hs.obj
      have d := hs.cell _ hp
      have fc := free_of hs.row
      have A : ∀ q, Calls Try.prog 45 #[.pointer (some ⟨b, 0, none⟩), .int .i64 (k : Int), .string key] (wr.drewN q) _ := fun q => bit_rd (w := wr.drewN q) key k hlt (hs.drewN q) hn
      have A0 := bit_rd key k hlt hs hn
      have HS2 : Hid (setk m B key (k + 1) = (setk m B key k).set (pb m key k) true) := Lib.hid rfl
      have S := Lib.hid (fun q => (hs.drewN q).set (pb m key k))
      have hne := hs.ne
      generalize pb m key k = p at *
      have z0 : (0 : Int) ≤ (p : Int) := by omega
      obtain ⟨N, hN⟩ : ∃ N, N = 64 * m := ⟨_, rfl⟩
      rw [← hN] at c0
      have z1 : (p : Int) < (N : Int) := by omega
      have HNN := Lib.hid hN
      clear hN hp
      have HA := Lib.hid A
      have HA0 := Lib.hid A0
      clear A A0 hs
      go_wp2_with fail
      go_region_held3 (fun w' => w'.cell? ⟨b, 0, none⟩ = some (.slice (some ⟨c, 0, none⟩) N N))
        (first | go_keep | exact Sk.keep_far hne c0)
        (first | (go_at_call 45; refine HA0.out.mono ?_; rintro e w' ⟨rfl, q2, rfl⟩) | (go_at_call 45; refine (HA.out 1).mono ?_; rintro e w' ⟨rfl, q2, rfl⟩))
      go_wp2_with fail
      go_roundw
      case rel => exact ⟨k + 1, by omega, by go_num, by rw [HS2.out]; exact S.out _, (HU.out.drewN _).setB⟩
      case measure => simp [intOf]; omega
    · obtain rfl : k = 3 := by omega
      go_wp2_with fail
      go_ret
      exact ⟨rfl, hs, HU.out⟩

theorem count_snoc {B : List Bool} {k : Nat} (hk : k < B.length) : (B.take (k + 1)).count true = (B.take k).count true + if B.getD k false = true then 1 else 0 := by
  rw [List.take_succ_eq_append_getElem hk, List.count_append, List.getD_eq_getElem?_getD, List.getElem?_eq_getElem hk]
  simp [List.count_cons]

theorem ones_rd (h : Rd w b c m B) : Calls Try.prog 28 #[.pointer (some ⟨b, 0, none⟩)] w fun e w' => e = .returned (.int .i64 ((B.count true : Nat) : Int)) ∧ w = w' := by
  have m1 := h.m1
  have m2 := h.m2
  have hl := h.len
  obtain ⟨c0, fr⟩ := cells1 h.obj
  have H := Lib.hid h
  clear h
  go_enter Try.func28, Try.ntmps28
  go_wp2_with fail
  go_loop [3, 4] (fun v3 v4 => ∃ k : Nat, k ≤ 64 * m ∧ v4 = .int .i64 k ∧ v3 = .int .i64 ((B.take k).count true)) (fun v3 v4 => 64 * m - (intOf v4).toNat)
  case atStart => exact ⟨0, by omega, rfl, by simp⟩
  case round =>
    obtain ⟨k, hk, rfl, rfl⟩ := hrel
    have hle : (B.take k).count true ≤ k := Nat.le_trans List.count_le_length (List.length_take_le _ _)
    by_cases hlt : k < 64 * m
    · have d := H.out.cell k hlt
      have HS := Lib.hid (count_snoc (B := B) (k := k) (by omega))
      generalize (B.take k).count true = y at *
      have z0 : (0 : Int) ≤ (k : Int) := by omega
      have z1 : (k : Int) < ((64 * m : Nat) : Int) := by omega
      cases hv : B.getD k false with
      | true =>
        rw [hv] at d
        have HV := Lib.hid hv
        clear hv
        go_wp2_with fail
        go_round
        case rel => exact ⟨k + 1, by omega, by go_num, by rw [HS.out, if_pos HV.out]; go_num⟩
        case measure => simp [intOf]; omega
      | false =>
        rw [hv] at d
        have HV := Lib.hid hv
        clear hv
        go_wp2_with fail
        go_round
        case rel => exact ⟨k + 1, by omega, by go_num, by rw [HS.out, HV.out]; go_num⟩
        case measure => simp [intOf]; omega
    · obtain rfl : k = 64 * m := by omega
      have e : B.take (64 * m) = B := List.take_of_length_le (by omega)
      have HE := Lib.hid e
      clear e
      go_wp2_with fail
      go_ret
      exact ⟨ret_int (by rw [HE.out]), rfl⟩

theorem info4 : (Try.prog.info? 4).map (fun i => (i.zero, i.size, i.bytes)) = some (some (.bool false), 1, 1) := by kernel_rfl
theorem made_bools (n : Nat) : (madeCells (Value.bool false).cells (n * 1)).toList = bools (List.replicate n false) := by
  rw [Nat.mul_one]
  refine (made_one (.bool false) n).trans ?_
  simp [bools]

def RClearPost (b m : Nat) (w : World) (e : Ending) (w' : World) : Prop :=
  e = .returned (.tuple #[]) ∧ ∃ c', w.heap.size ≤ c' ∧ Rd w' b c' m (List.replicate (64 * m) false) ∧ Upd (· = b) w w'

theorem clear_rd (h : Rd w b c m B) : Calls Try.prog 25 #[.pointer (some ⟨b, 0, none⟩)] w (RClearPost b m w) := by
  have m1 := h.m1
  have m2 := h.m2
  obtain ⟨c0, fr⟩ := cells1 h.obj
  have hblt := lt_of_block h.obj
  have H := Lib.hid h
  obtain ⟨i5, hi5, hz5, hs5, hb5⟩ := info_parts info4
  clear h
  go_enter Try.func25, Try.ntmps25
  go_wp2_with (refine wpList_make_full _ rfl _ _ 60 rfl w.heap.size 4 i5 _ 1 Try.underlying60 hi5 hz5 hs5 .i64 .i64 _ _ (64 * m) rfl rfl (by omega) (by omega) (by rw [hb5]; omega) (by unfold maxLen; omega) (Nat.le_refl _) ?_; intro w5 hown hgr; have hb5' : w5.heap[b]? = _ := (hgr.block b hblt (by simp)).trans H.out.obj; have c05 := (cells1 hb5').1; have fr5 := (cells1 hb5').2)
  go_end0
  have hrow := own_full hown
  rw [made_bools] at hrow
  have hu : Upd (· = b) w w5 := Upd.of_below ⟨hgr.os, hgr.tape, hgr.output, hgr.size, fun k hk => hgr.block k hk (by simp)⟩ (fun i h1 h2 => by omega)
  have hne : w.heap.size ≠ b := by omega
  refine ⟨rfl, w.heap.size, Nat.le_refl _, ⟨?_, block_other hne hrow, by simp, m1, m2⟩, hu.setB⟩
  exact block_setCell hb5'

theorem power1_any (room : Int) (w : World) :
    Calls Try.prog 44 #[.int .i64 room, .int .i64 1] w fun e w' => e = .returned (.int .i64 (pw1 (clamp room 1 1024) : Nat)) ∧ w = w' := by
  have hcl : clamp room 1 1024 = min (max room 1) 1024 := rfl
  have hc2 : clamp room 1 1024 ≤ 1024 := by unfold clamp; omega
  generalize clamp room 1 1024 = c at *
  have HC := Lib.hid hcl
  clear hcl
  go_enter Try.func44, Try.ntmps44
  go_wp2_with fail
  go_loop [5] (fun v5 => ∃ n : Nat, v5 = .int .i64 n ∧ Sr.Pow1 n ∧ (n = 1 ∨ (n : Int) < 2 * c) ∧ n ≤ 1024) (fun v5 => 1024 - (intOf v5).toNat)
  case atStart => exact ⟨1, rfl, .inl rfl, .inl (by omega), by omega⟩
  case round =>
    obtain ⟨n, rfl, hp, hb, hn⟩ := hrel
    have hn1 := p1_ge hp
    have HP := Lib.hid hp
    clear hp
    go_wp2_with fail
    all_goals
      first
        | (have e := HC.out
           have e2 := p1_next (c := c) HP.out (by omega) hc2
           exact ⟨⟨2 * n, by go_num, e2.1, e2.2.2, e2.2.1⟩, by simp [intOf]; omega⟩)
        | (have e := HC.out
           go_ret
           exact ⟨ret_int (by rw [p1_end (c := c) HP.out hb (by omega) hc2]), rfl⟩)

def RNewPost (m : Nat) (w : World) (e : Ending) (w' : World) : Prop :=
  ∃ b c, e = .returned (.pointer (some ⟨b, 0, none⟩)) ∧ w.heap.size ≤ b ∧ w.heap.size ≤ c ∧ Rd w' b c m (List.replicate (64 * m) false) ∧ Below w.heap.size w w'

theorem pw1_dw (room : Int) : max 64 (8 * pw1 (clamp room 1 1024)) = 64 * dw room := by
  unfold dw pw1 pw
  (repeat' split) <;> rfl

theorem new_rd (room : Int) (w : World) : Calls Try.prog 23 #[.int .i64 room] w (RNewPost (dw room) w) := by
  have hdr := dw_range room
  have hdw := pw1_dw room
  have HP := Lib.hid (fun w => power1_any room w)
  have hpr := pw1_range (clamp room 1 1024)
  generalize dw room = m at *
  generalize pw1 (clamp room 1 1024) = n at *
  obtain ⟨m1, m2⟩ := hdr
  obtain ⟨n1, n2⟩ := hpr
  obtain ⟨i5, hi5, hz5, hs5, hb5⟩ := info_parts info4
  have HD := Lib.hid hdw
  clear hdw
  go_enter Try.func23, Try.ntmps23
  go_wp2_with (first | (go_at_call 44; refine (HP.out _).mono ?_; rintro e w' ⟨rfl, rfl⟩) | (refine wpList_make_full _ rfl _ _ 60 rfl w.heap.size 4 i5 _ 1 Try.underlying60 hi5 hz5 hs5 .i64 .i64 _ _ (64 * m) rfl rfl (by have := HD.out; omega) (by have := HD.out; omega) (by rw [hb5]; omega) (by unfold maxLen; omega) (Nat.le_refl _) ?_; intro w5 hown hgr))
  all_goals
    go_ret
    have hrow := own_full hown
    rw [made_bools] at hrow
    exact ⟨_, _, rfl, hgr.size, Nat.le_refl _, ⟨block_new w5 _, block_alloc hrow, by simp, m1, m2⟩, (⟨hgr.os, hgr.tape, hgr.output, hgr.size, fun k hk => hgr.block k hk (by simp)⟩ : Below w.heap.size w w5).alloc hgr.size _⟩

end Go.Proofs.Ytlencmliaephjaa.Do
