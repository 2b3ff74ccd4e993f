/- SketchHalves. -/
import Derived.Test.YtlencmliaephjaaSf
namespace Go.Proofs.Ytlencmliaephjaa.Sk
open Go Go.RowKit Go.Proofs.Ytlencmliaephjaa.K Go.Proofs.Ytlencmliaephjaa.Ha Go.Proofs.Ytlencmliaephjaa.He

theorem getD_half (C : List Nat) (i : Nat) : (C.map (· / 2)).getD i 0 = C.getD i 0 / 2 := by
  rw [List.getD_eq_getElem?_getD, List.getElem?_map, List.getD_eq_getElem?_getD]
  cases C[i]? <;> rfl

theorem cnt_half (n : Nat) (C : List Nat) (key : ByteArray) (h : ∀ i, i < 4 * n → C.getD i 0 < 16) (hn : 1 ≤ n) : cnt n (C.map (· / 2)) key = cnt n C key / 2 := by
  have h0 := h _ (plc_lt n key 0 (by omega) hn)
  unfold cnt
  simp only [cntk_succ, getD_half]
  have e : cntk n C key 0 = 15 := rfl
  have e' : cntk n (C.map (· / 2)) key 0 = 15 := rfl
  rw [e, e']
  omega

set_option maxHeartbeats 800000 in
set_option maxRecDepth 100000 in
theorem halves_calls (room : Int) (A : Option Addr) (cap : Nat) (l : List ByteArray) (key : ByteArray) (w : World) (hl : RStr w A l) (hcap : l.length ≤ cap) :
    Calls Try.prog 9 #[.int .i64 room, .slice A l.length cap, .string key] w fun e w' => e = .returned (.bool true) ∧ Below w.heap.size w w' := by
  obtain ⟨r, hh, hsm⟩ := heavy_any A cap l hl.len hcap
  have hlen := hl.len
  have HL := Lib.hid hl
  have H1 := hh w hl
  clear hl hh
  have hcase : r = true ∨ (r = false ∧ decide ((60 : Int) < (key.size : Int)) = true) ∨ (r = false ∧ decide ((60 : Int) < (key.size : Int)) = false ∧ decide ((300 : Int) < (l.length : Int)) = true) ∨
      (r = false ∧ key.size ≤ 60 ∧ l.length ≤ 300) := by
    cases r <;> simp <;> omega
  rcases hcase with rfl | ⟨rfl, t1⟩ | ⟨rfl, t1, t2⟩ | ⟨rfl, hk60, hl300⟩
  · go_enter Try.func9, Try.ntmps9
    go_wp2_with (go_at_call 12; refine H1.mono ?_; rintro e w' ⟨rfl, k, rfl⟩)
    go_ret
    exact ⟨rfl, below_drewN (Below.refl _ _) _⟩
  · go_enter Try.func9, Try.ntmps9
    go_wp2_with (go_at_call 12; refine H1.mono ?_; rintro e w' ⟨rfl, k, rfl⟩)
    go_ret
    exact ⟨rfl, below_drewN (Below.refl _ _) _⟩
  · go_enter Try.func9, Try.ntmps9
    go_wp2_with (go_at_call 12; refine H1.mono ?_; rintro e w' ⟨rfl, k, rfl⟩)
    go_ret
    exact ⟨rfl, below_drewN (Below.refl _ _) _⟩
  · have t1 : decide ((60 : Int) < (key.size : Int)) = false := by simp; omega
    have t2 : decide ((300 : Int) < (l.length : Int)) = false := by simp; omega
    have hsmall := hsm rfl
    clear hsm
    generalize hn : pw (clamp room 1 1024) = n
    have HN := Lib.hid hn
    have HS := Lib.hid hsmall
    clear hn hsmall
    go_enter Try.func9, Try.ntmps9
    go_wp2_with (first | (go_at_call 12; refine H1.mono ?_; rintro e w' ⟨rfl, k, rfl⟩) | (go_at_call 13; refine (new_sq room _).mono ?_; rintro e w1 ⟨b, c, rfl, hb, hc, hs, hw⟩))
    have n1 := hs.n1
    have n2 := hs.n2
    rw [HN.out] at hs n1 n2
    have hw' : Hid (Below w.heap.size w w1) := Lib.hid ⟨hw.os, hw.tape, hw.output, hw.size, hw.block⟩
    have hbc : Hid (∀ i, BC b c i → w.heap.size ≤ i) := Lib.hid (by
      rintro i (rfl | rfl)
      · exact hb
      · exact hc)
    have h0 : Hid (Sq w1 b c n (play n (l.take 0)).1 (play n (l.take 0)).2) := Lib.hid hs
    clear hs hw hb hc
    go_loopw [8] (fun v8 wr => ∃ k : Nat, k ≤ l.length ∧ v8 = .int .i64 k ∧ Sq wr b c n (play n (l.take k)).1 (play n (l.take k)).2 ∧ Below w.heap.size w wr) (fun v8 wr => l.length - (intOf v8).toNat)
    case atStart => exact ⟨0, by omega, rfl, h0.out, hw'.out⟩
    case round =>
      obtain ⟨k, hk, rfl, hs, hB⟩ := hrel
      have HSq := Lib.hid hs
      have HB := Lib.hid hB
      clear hs hB
      by_cases hli : k < l.length
      · obtain ⟨s, hsk⟩ : ∃ s, l[k]? = some s := ⟨_, List.getElem?_eq_getElem hli⟩
        obtain ⟨ab, ao, rfl, hcell⟩ := (HL.out.below HB.out).get k s hsk
        have hsz := HS.out k s (by omega) hsk
        have hpr := play_range n l n1 k hk
        have HP := Lib.hid (play_snoc n l k s hsk)
        have ADD := Lib.hid (add_sq b c n (play n (l.take k)).1 (play n (l.take k)).2 s wr HSq.out (by omega) hpr.1 hpr.2)
        clear hpr hsk
        go_wp2_with (go_at_call 14; refine ADD.out.mono ?_; rintro e w3 ⟨rfl, hs3, hu3⟩)
        go_roundw
        case rel => exact ⟨k + 1, by omega, by go_num, by rw [HP.out]; exact hs3, HB.out.trans (hu3.below HB.out.size hbc.out)⟩
        case measure => simp [intOf]; omega
      · have hpr := play_range n l n1 k hk
        have hlC := HSq.out.len
        have hsC := HSq.out.small
        generalize (play n (l.take k)).1 = C at *
        generalize (play n (l.take k)).2 = sum at *
        have HC := Lib.hid hsC
        have s0 := hpr.1
        have s1 : sum < 10240 := by have := hpr.2; omega
        have CNT := count_sq b c n C sum key wr HSq.out (by omega)
        have hcl := cnt_le n C key
        have HH := Lib.hid (cnt_half n C key hsC (by omega))
        generalize hx : cnt n C key = x at *
        have HX := Lib.hid hx
        have HCNT := Lib.hid CNT
        clear CNT hx hsC hpr hlC
        go_wp2_with (go_at_call 15; refine HCNT.out.mono ?_; rintro e w2 ⟨rfl, hb2⟩)
        have S2 := Lib.hid (HSq.out.below hb2)
        have B2 := Lib.hid (HB.out.trans (hb2.mono HB.out.size))
        clear hb2
        go_wp2_with (go_at_call 34; refine (sum_sq b c n C sum w2 S2.out).mono ?_; rintro e w3 ⟨rfl, rfl⟩)
        refine (cells_sq b c n C sum w3 S2.out).mono ?_
        rintro e w4 ⟨v, rfl, hov, hb4⟩
        obtain ⟨gA, gc, rfl⟩ := own_form hov
        have S4 := Lib.hid (S2.out.below hb4)
        have B4 := Lib.hid (B2.out.trans (hb4.mono B2.out.size))
        have O4 := Lib.hid hov
        have hlt4 : Hid (b < w3.heap.size ∧ c < w3.heap.size) := Lib.hid (by
          obtain ⟨B', hB', -⟩ := S2.out
          exact ⟨lt_of_block hB'.obj, lt_of_block hB'.row⟩)
        clear hov hb4
        go_wp2_with (go_at_call 30; refine (halve_sq b c n C sum w4 S4.out s0 (by omega)).mono ?_; rintro e w5 ⟨rfl, hs5, hu5⟩)
        have S5 := Lib.hid hs5
        have B5 := Lib.hid (B4.out.trans (hu5.below B4.out.size hbc.out))
        have O5 := Lib.hid (own_upd O4.out hu5 (fun k hk he => by
          have h1 := (O4.out.lt k hk).1
          have h2 := hlt4.out
          rcases he with rfl | rfl <;> omega))
        clear hs5 hu5
        refine (cells_sq b c n (C.map (· / 2)) (sum / 2) w5 S5.out).mono ?_
        rintro e w6 ⟨v', rfl, hov', hb6⟩
        obtain ⟨gA', gc', rfl⟩ := own_form hov'
        have S6 := Lib.hid (S5.out.below hb6)
        have B6 := Lib.hid (B5.out.trans (hb6.mono B5.out.size))
        have O6 := Lib.hid (own_upd O5.out (Upd.of_below (F := fun _ => False) hb6 (fun i h1 h2 => by omega)) (fun _ _ => id))
        have O6' := Lib.hid hov'
        clear hov' hb6
        have CL := Lib.hid S6.out.len
        have hlC : C.length = 4 * n := by have := CL.out; simpa using this
        go_wp2_with fail
        go_loopw [13] (fun v13 wr => ∃ j : Nat, j ≤ 4 * n ∧ v13 = .int .i64 j ∧ wr.ownsRow w3.heap.size 3 1 (.slice gA (4 * n) gc) (4 * n) (nats C) ∧
          wr.ownsRow w5.heap.size 3 1 (.slice gA' (4 * n) gc') (4 * n) (nats (C.map (· / 2))) ∧ Sq wr b c n (C.map (· / 2)) (sum / 2) ∧ Below w.heap.size w wr) (fun v13 wr => 4 * n - (intOf v13).toNat)
        case atStart => exact ⟨0, by omega, rfl, O6.out, O6'.out, S6.out, B6.out⟩
        case round =>
          clear O4 O5 O6 O6' S2 S4 S5 S6 B2 B4 B5 B6 HSq HB H1 HCNT
          obtain ⟨j, hj, rfl, o1, o2, hs, hb⟩ := hrel
          have O1 := Lib.hid o1
          have O2 := Lib.hid o2
          have SS := Lib.hid hs
          have BB := Lib.hid hb
          clear o1 o2 hs hb
          by_cases hlt : j < 4 * n
          · have hx : C[j]? = some C[j] := List.getElem?_eq_getElem (by omega)
            have h16 := HC.out j hlt
            rw [List.getD_eq_getElem?_getD, hx] at h16
            have hx2 : (C.map (· / 2))[j]? = some (C[j] / 2) := by rw [List.getElem?_map, hx]; rfl
            obtain ⟨g, rfl, hcell⟩ := own_atn O1.out hx
            obtain ⟨g', rfl, hcell'⟩ := own_atn O2.out hx2
            generalize C[j] = y at *
            have h16' : y < 16 := h16
            have e1 : wrap64 (((y : Int)).tdiv 2) = ((y / 2 : Nat) : Int) := by
              rw [Int.tdiv_eq_ediv_of_nonneg (by omega)]; unfold wrap64; omega
            have E1 := Lib.hid e1
            clear hx hx2 h16 e1
            have hj0 : (0 : Int) ≤ (j : Int) := by omega
            have hj1 : (j : Int) < ((4 * n : Nat) : Int) := by omega
            go_wp2_with fail
            go_quiet (fail)
            go_wp2_with fail
            go_roundw
            case rel => exact ⟨j + 1, by omega, by go_num, O1.out, O2.out, SS.out.drewN _, below_drewN BB.out _⟩
            case measure => simp [intOf]; omega
          · obtain rfl : j = 4 * n := by omega
            have CNT2 := count_sq b c n (C.map (· / 2)) (sum / 2) key wr SS.out (by omega)
            rw [HH.out] at CNT2
            have C2 := Lib.hid CNT2
            clear CNT2
            have e2 : wrap64 (((x : Int)).tdiv 2) = ((x / 2 : Nat) : Int) := by
              rw [Int.tdiv_eq_ediv_of_nonneg (by omega)]; unfold wrap64; omega
            go_wp2_with fail
            refine C2.out.mono ?_
            rintro e w7 ⟨rfl, hb7⟩
            have S7 := Lib.hid (SS.out.below hb7)
            have B7 := Lib.hid (BB.out.trans (hb7.mono BB.out.size))
            clear hb7
            go_wp2_with fail
            refine (sum_sq b c n (C.map (· / 2)) (sum / 2) w7 S7.out).mono ?_
            rintro e w8 ⟨rfl, rfl⟩
            go_wp2_with (go_at_call 16; refine (known_calls _).mono ?_; rintro e w9 ⟨rfl, hb9⟩)
            go_ret
            exact ⟨rfl, B7.out.trans (hb9.mono B7.out.size)⟩

end Go.Proofs.Ytlencmliaephjaa.Sk
