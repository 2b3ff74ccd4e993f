/- SketchBelow: the walk. -/
import Derived.Test.YtlencmliaephjaaSo
namespace Go.Proofs.Ytlencmliaephjaa.Sk
open Go Go.RowKit Go.Proofs.Ytlencmliaephjaa.K Go.Proofs.Ytlencmliaephjaa.Ha Go.Proofs.Ytlencmliaephjaa.He

theorem occ_succ {l : List ByteArray} {k : Nat} {x : ByteArray} (h : l[k]? = some x) (s : ByteArray) : occ (l.take (k + 1)) s = occ (l.take k) s + if (x.toList == s.toList) = true then 1 else 0 := by
  obtain ⟨hk, rfl⟩ := List.getElem?_eq_some_iff.1 h
  unfold occ
  rw [List.take_succ_eq_append_getElem hk, List.countP_append, List.countP_cons]
  simp
theorem occ_le (l : List ByteArray) (k : Nat) (s : ByteArray) : occ (l.take k) s ≤ k :=
  Nat.le_trans (List.countP_le_length ..) (List.length_take_le _ _)

set_option maxHeartbeats 800000 in
set_option maxRecDepth 100000 in
theorem below_calls (room : Int) (A : Option Addr) (cap : Nat) (l : List ByteArray) (w : World) (hl : RStr w A l) (hcap : l.length ≤ cap) :
    Calls Try.prog 3 #[.int .i64 room, .slice A l.length cap] w fun e w' => e = .returned (.bool true) ∧ Below w.heap.size w w' := by
  obtain ⟨r, hh, hsm⟩ := heavy_any A cap l hl.len hcap
  have hlen := hl.len
  have HL := Lib.hid hl
  have H1 := hh w hl
  clear hl hh
  have hcase : r = true ∨ (r = false ∧ decide (room < 1) = true) ∨ (r = false ∧ decide (room < 1) = false ∧ decide (1000 < room) = true) ∨
      (r = false ∧ decide (room < 1) = false ∧ decide (1000 < room) = false ∧ decide ((70 : Int) < (l.length : Int)) = true) ∨
      (r = false ∧ decide (room < 1) = false ∧ decide (1000 < room) = false ∧ l.length ≤ 70) := by
    cases r <;> simp <;> omega
  rcases hcase with rfl | ⟨rfl, t1⟩ | ⟨rfl, t1, t2⟩ | ⟨rfl, t1, t2, t3⟩ | ⟨rfl, t1, t2, hl70⟩
  · go_enter Try.func3, Try.ntmps3
    go_wp2_with (go_at_call 12; refine H1.mono ?_; rintro e w' ⟨rfl, k, rfl⟩)
    go_ret
    exact ⟨rfl, below_drewN (Below.refl _ _) _⟩
  · go_enter Try.func3, Try.ntmps3
    go_wp2_with (go_at_call 12; refine H1.mono ?_; rintro e w' ⟨rfl, k, rfl⟩)
    go_ret
    exact ⟨rfl, below_drewN (Below.refl _ _) _⟩
  · go_enter Try.func3, Try.ntmps3
    go_wp2_with (go_at_call 12; refine H1.mono ?_; rintro e w' ⟨rfl, k, rfl⟩)
    go_ret
    exact ⟨rfl, below_drewN (Below.refl _ _) _⟩
  · go_enter Try.func3, Try.ntmps3
    go_wp2_with (go_at_call 12; refine H1.mono ?_; rintro e w' ⟨rfl, k, rfl⟩)
    go_ret
    exact ⟨rfl, below_drewN (Below.refl _ _) _⟩
  · have t3 : decide ((70 : Int) < (l.length : Int)) = false := by simp; omega
    have hsmall := hsm rfl
    clear hsm
    generalize hn : pw (clamp room 1 1024) = n
    have HN := Lib.hid hn
    have HS := Lib.hid hsmall
    clear hn hsmall
    go_enter Try.func3, Try.ntmps3
    go_wp2_with (first | (go_at_call 12; refine H1.mono ?_; rintro e w' ⟨rfl, k, rfl⟩) | (go_at_call 13; refine (new_sq room _).mono ?_; rintro e w1 ⟨b, c, rfl, hb, hc, hs, hw⟩))
    have n1 := hs.n1
    have n2 := hs.n2
    rw [HN.out] at hs n1 n2
    have hw' : Hid (Below w.heap.size w w1) := Lib.hid ⟨hw.os, hw.tape, hw.output, hw.size, hw.block⟩
    have hbc : Hid (∀ i, BC b c i → w.heap.size ≤ i) := Lib.hid (by
      rintro i (rfl | rfl)
      · exact hb
      · exact hc)
    have h0 : Hid (Sq w1 b c n (play n (l.take 0)).1 (play n (l.take 0)).2) := Lib.hid hs
    clear hs hw hb hc
    go_loopw [6] (fun v6 wr => ∃ k : Nat, k ≤ l.length ∧ v6 = .int .i64 k ∧ Sq wr b c n (play n (l.take k)).1 (play n (l.take k)).2 ∧ Below w.heap.size w wr) (fun v6 wr => l.length - (intOf v6).toNat)
    case atStart => exact ⟨0, by omega, rfl, h0.out, hw'.out⟩
    case round =>
      obtain ⟨k, hk, rfl, hs, hB⟩ := hrel
      have HSq := Lib.hid hs
      have HB := Lib.hid hB
      clear hs hB
      by_cases hli : k < l.length
      · obtain ⟨s, hsk⟩ : ∃ s, l[k]? = some s := ⟨_, List.getElem?_eq_getElem hli⟩
        obtain ⟨ab, ao, rfl, hcell⟩ := (HL.out.below HB.out).get k s hsk
        have hsz := HS.out k s (by omega) hsk
        have hpr := play_range n l n1 k hk
        have HP := Lib.hid (play_snoc n l k s hsk)
        have ADD := Lib.hid (add_sq b c n (play n (l.take k)).1 (play n (l.take k)).2 s wr HSq.out (by omega) hpr.1 hpr.2)
        clear hpr hsk
        go_wp2_with (go_at_call 14; refine ADD.out.mono ?_; rintro e w3 ⟨rfl, hs3, hu3⟩)
        go_roundw
        case rel => exact ⟨k + 1, by omega, by go_num, by rw [HP.out]; exact hs3, HB.out.trans (hu3.below HB.out.size hbc.out)⟩
        case measure => simp [intOf]; omega
      · obtain rfl : k = l.length := by omega
        have BEL := Lib.hid (bel_all n l n1 hl70 l.length (Nat.le_refl _)).cnt
        generalize (play n (l.take l.length)).1 = C at *
        generalize (play n (l.take l.length)).2 = sum at *
        clear h0 hw'
        go_wp2_with fail
        go_loopw [7] (fun v7 wr => ∃ i : Nat, i ≤ l.length ∧ v7 = .int .i64 i ∧ Sq wr b c n C sum ∧ Below w.heap.size w wr) (fun v7 wr => l.length - (intOf v7).toNat)
        case atStart => exact ⟨0, by omega, rfl, HSq.out, HB.out⟩
        case round =>
          clear HSq HB
          obtain ⟨i, hi, rfl, hs, hB⟩ := hrel
          have HSq := Lib.hid hs
          have HB := Lib.hid hB
          clear hs hB
          by_cases hil : i < l.length
          · obtain ⟨s, hsk⟩ : ∃ s, l[i]? = some s := ⟨_, List.getElem?_eq_getElem hil⟩
            have hsz := HS.out i s (by omega) hsk
            have HSK := Lib.hid hsk
            clear hsk
            obtain ⟨wo, hwo⟩ : ∃ wo : World, wo = wr := ⟨_, rfl⟩
            rw [← hwo] at HSq HB ⊢
            clear hwo
            go_wp2_with fail
            go_loopw [8, 9] (fun v8 v9 wq => ∃ j : Nat, j ≤ l.length ∧ v9 = .int .i64 j ∧ v8 = .int .i64 (occ (l.take j) s) ∧ Sq wq b c n C sum ∧ Below w.heap.size w wq) (fun v8 v9 wq => l.length - (intOf v9).toNat)
            case atStart => exact ⟨0, by omega, rfl, rfl, HSq.out, HB.out⟩
            case round =>
              clear HSq HB
              obtain ⟨j, hj, rfl, rfl, hs, hB⟩ := hrel
              have HSq := Lib.hid hs
              have HB := Lib.hid hB
              clear hs hB
              have hol := occ_le l j s
              by_cases hjl : j < l.length
              · obtain ⟨x, hxk⟩ : ∃ x, l[j]? = some x := ⟨_, List.getElem?_eq_getElem hjl⟩
                obtain ⟨ab, ao, rfl, hcell⟩ := (HL.out.below HB.out).get j x hxk
                obtain ⟨ab', ao', he, hcell'⟩ := (HL.out.below HB.out).get i s HSK.out
                cases he
                have HO := Lib.hid (occ_succ hxk s)
                have i0 : (0 : Int) ≤ (j : Int) := by omega
                have i1 : (j : Int) < (l.length : Int) := by omega
                have i2 : (0 : Int) ≤ (i : Int) := by omega
                have i3 : (i : Int) < (l.length : Int) := by omega
                clear hxk
                by_cases hx : (x.toList == s.toList) = true
                · have HX := Lib.hid hx
                  go_wp2_with fail
                  go_quiet (fail)
                  go_wp2_with fail
                  go_roundw
                  case rel => exact ⟨j + 1, by omega, by go_num, by rw [HO.out, if_pos HX.out]; go_num, HSq.out.drewN _, below_drewN HB.out _⟩
                  case measure => simp [intOf]; omega
                · have hx' : (x.toList == s.toList) = false := by simpa using hx
                  clear hx
                  have HX := Lib.hid hx'
                  go_wp2_with fail
                  go_quiet (fail)
                  go_wp2_with fail
                  go_roundw
                  case rel => exact ⟨j + 1, by omega, by go_num, by rw [HO.out, if_neg (by rw [HX.out]; simp)]; go_num, HSq.out.drewN _, below_drewN HB.out _⟩
                  case measure => simp [intOf]; omega
              · obtain rfl : j = l.length := by omega
                obtain ⟨ab, ao, rfl, hcell⟩ := (HL.out.below HB.out).get i s HSK.out
                have hge := BEL.out s
                have hle := cnt_le n C s
                have CNT : ∀ wz, Sq wz b c n C sum → Calls Try.prog 15 _ wz _ := fun wz hz => count_sq b c n C sum s wz hz (by omega)
                generalize occ (l.take l.length) s = oc at *
                generalize cnt n C s = cc at *
                have C1 := Lib.hid CNT
                clear CNT
                have t5 : decide ((cc : Int) < min 15 (oc : Int)) = false := by simp; omega
                have t6 : decide ((15 : Int) < (cc : Int)) = false := by simp; omega
                go_wp2_with fail
                refine (C1.out _ HSq.out).mono ?_
                rintro e w7 ⟨rfl, hb7⟩
                have S7 := Lib.hid (HSq.out.below hb7)
                have B7 := Lib.hid (HB.out.trans (hb7.mono HB.out.size))
                obtain ⟨ab', ao', he, hcell2⟩ := (HL.out.below B7.out).get i s HSK.out
                cases he
                clear hb7
                go_wp2_with fail
                all_goals
                  refine (C1.out _ S7.out).mono ?_
                  rintro e w8 ⟨rfl, hb8⟩
                  have S8 := Lib.hid (S7.out.below hb8)
                  have B8 := Lib.hid (B7.out.trans (hb8.mono B7.out.size))
                  clear hb8
                  go_wp2_with fail
                  go_roundw
                  case rel => exact ⟨i + 1, by omega, by go_num, S8.out, B8.out⟩
                  case measure => simp [intOf]; omega
          · go_wp2_with (go_at_call 16; refine (known_calls _).mono ?_; rintro e w6 ⟨rfl, hb6⟩)
            go_ret
            exact ⟨rfl, HB.out.trans (hb6.mono HB.out.size)⟩

end Go.Proofs.Ytlencmliaephjaa.Sk
