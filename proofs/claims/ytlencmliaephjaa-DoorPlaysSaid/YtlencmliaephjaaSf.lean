/- SketchBounds. -/
import Derived.Test.YtlencmliaephjaaSb
namespace Go.Proofs.Ytlencmliaephjaa.Sk
open Go Go.RowKit Go.Proofs.Ytlencmliaephjaa.K Go.Proofs.Ytlencmliaephjaa.Ha Go.Proofs.Ytlencmliaephjaa.He

theorem own_atn {w : World} {B m c j x : Nat} {gA : Option Addr} {l : List Nat} (h : w.ownsRow B 3 1 (.slice gA m c) m (nats l)) (hx : l[j]? = some x) :
    ∃ g, gA = some ⟨g, 0, none⟩ ∧ w.cell? ⟨g, j, none⟩ = some (.int .i64 (x : Int)) := by
  have hl := h.1
  have hj : j < l.length := by
    rcases Nat.lt_or_ge j l.length with h' | h'
    · exact h'
    · rw [List.getElem?_eq_none h'] at hx; cases hx
  simp only [nats, List.length_map, Nat.mul_one] at hl
  rcases h.2 with ⟨_, h0⟩ | ⟨g, cap, cur, hv, hB, hg, hnc, hcm, _, _⟩
  · omega
  · have := h.cells (g := g) (by rw [hv]; rfl) j (.int .i64 (x : Int)) (by unfold nats; rw [List.getElem?_map, hx]; rfl)
    rw [add_plain', Nat.zero_add] at this
    injection hv with h1 _ _
    exact ⟨g, h1, this⟩

set_option maxRecDepth 100000 in
theorem bounds_calls (room : Int) (A : Option Addr) (cap : Nat) (l : List ByteArray) (w : World) (hl : RStr w A l) (hcap : l.length ≤ cap) :
    Calls Try.prog 10 #[.int .i64 room, .slice A l.length cap] w fun e w' => e = .returned (.bool true) ∧ Below w.heap.size w w' := by
  obtain ⟨r, hh, hsm⟩ := heavy_any A cap l hl.len hcap
  have hlen := hl.len
  have HL := Lib.hid hl
  have H1 := hh w hl
  clear hl hh
  cases r with
  | true =>
    go_enter Try.func10, Try.ntmps10
    go_wp2_with (go_at_call 12; refine H1.mono ?_; rintro e w' ⟨rfl, k, rfl⟩)
    go_ret
    exact ⟨rfl, below_drewN (Below.refl _ _) _⟩
  | false =>
    have hsmall := hsm rfl
    clear hsm
    generalize hn : pw (clamp room 1 1024) = n
    have HN := Lib.hid hn
    have HS := Lib.hid hsmall
    clear hn hsmall
    go_enter Try.func10, Try.ntmps10
    go_wp2_with (first | (go_at_call 12; refine H1.mono ?_; rintro e w' ⟨rfl, k, rfl⟩) | (go_at_call 13; refine (new_sq room _).mono ?_; rintro e w1 ⟨b, c, rfl, hb, hc, hs, hw⟩))
    have n1 := hs.n1
    have n2 := hs.n2
    rw [HN.out] at hs n1 n2
    have hw' : Hid (Below w.heap.size w w1) := Lib.hid ⟨hw.os, hw.tape, hw.output, hw.size, hw.block⟩
    have hbc : Hid (w.heap.size ≤ b ∧ w.heap.size ≤ c) := Lib.hid ⟨hb, hc⟩
    have h0 : Hid (Sq w1 b c n (play n (l.take 0)).1 (play n (l.take 0)).2) := Lib.hid hs
    clear hs hw hb hc
    go_loopw [6] (fun v6 wr => ∃ k : Nat, k ≤ l.length ∧ v6 = .int .i64 k ∧ Sq wr b c n (play n (l.take k)).1 (play n (l.take k)).2 ∧ Below w.heap.size w wr) (fun v6 wr => l.length - (intOf v6).toNat)
    case atStart => exact ⟨0, by omega, rfl, h0.out, hw'.out⟩
    case round =>
      obtain ⟨k, hk, rfl, hs, hB⟩ := hrel
      have HSq := Lib.hid hs
      have HB := Lib.hid hB
      clear hs hB
      by_cases hend : k < l.length ∧ k < 300
      · obtain ⟨hli, h3⟩ := hend
        obtain ⟨s, hsk⟩ : ∃ s, l[k]? = some s := ⟨_, List.getElem?_eq_getElem hli⟩
        obtain ⟨ab, ao, rfl, hcell⟩ := (HL.out.below HB.out).get k s hsk
        have t1 : decide (k < l.length) = true := by simpa using hli
        have t2 : decide ((k : Int) < 300) = true := by simp; omega
        have hsz := HS.out k s h3 hsk
        have hpr := play_range n l n1 k hk
        have HP := Lib.hid (play_snoc n l k s hsk)
        have ADD := Lib.hid (add_sq b c n (play n (l.take k)).1 (play n (l.take k)).2 s wr HSq.out (by omega) hpr.1 hpr.2)
        clear hpr hsk
        go_wp2_with (go_at_call 14; refine ADD.out.mono ?_; rintro e w3 ⟨rfl, hs3, hu3⟩)
        go_roundw
        case rel =>
          refine ⟨k + 1, by omega, by go_num, by rw [HP.out]; exact hs3, HB.out.trans (hu3.below HB.out.size ?_)⟩
          rintro i (rfl | rfl)
          · exact hbc.out.1
          · exact hbc.out.2
        case measure => simp [intOf]; omega
      · have hends : decide (k < l.length) = true ∧ decide ((k : Int) < 300) = false ∨ decide (k < l.length) = false := by
          simp only [decide_eq_true_eq, decide_eq_false_iff_not]; omega
        have hpr := play_range n l n1 k hk
        have hlC := HSq.out.len
        have hsC := HSq.out.small
        generalize (play n (l.take k)).1 = C at *
        generalize (play n (l.take k)).2 = sum at *
        have HC := Lib.hid hsC
        clear hsC
        rcases hends with ⟨hli, hgd⟩ | hli
        all_goals
          go_wp2_with (go_at_call 36; refine (cells_sq b c n C sum wr HSq.out).mono ?_; rintro e w4 ⟨v, rfl, hov, hb4⟩)
          obtain ⟨gA, gc, rfl⟩ := own_form hov
          have HOV := Lib.hid hov
          have HB4 := Lib.hid hb4
          clear hov hb4
          go_loop [8] (fun v8 => ∃ j : Nat, j ≤ 4 * n ∧ v8 = .int .i64 j) (fun v8 => 4 * n - (intOf v8).toNat)
          case atStart => exact ⟨0, by omega, rfl⟩
          case round =>
            obtain ⟨j, hj, rfl⟩ := hrel
            by_cases hlt : j < 4 * n
            · have hx : C[j]? = some C[j] := List.getElem?_eq_getElem (by omega)
              have h16 := HC.out j hlt
              rw [List.getD_eq_getElem?_getD, hx] at h16
              obtain ⟨g, rfl, hcell⟩ := own_atn HOV.out hx
              generalize C[j] = x at *
              have h16' : x < 16 := h16
              clear hx h16
              have t1 : decide (j < 4 * n) = true := by simpa using hlt
              have t3 : decide ((x : Int) < 0) = false := by simp
              have t4 : decide ((15 : Int) < (x : Int)) = false := by simp; omega
              go_wp2_with fail
              go_round
              case rel => exact ⟨j + 1, by omega, by go_num⟩
              case measure => simp [intOf]; omega
            · obtain rfl : j = 4 * n := by omega
              have e1 : wrap64 (10 * (n : Int)) = 10 * (n : Int) := by unfold wrap64; omega
              have t5 : decide (sum < 10 * (n : Int)) = true := by simpa using hpr.2
              go_wp2_with (first | (go_at_call 34; refine (sum_sq b c n C sum w4 (HSq.out.below HB4.out)).mono ?_; rintro e w5 ⟨rfl, rfl⟩) | (go_at_call 16; refine (known_calls _).mono ?_; rintro e w6 ⟨rfl, hb6⟩))
              go_ret
              exact ⟨rfl, (HB.out.trans (HB4.out.mono HB.out.size)).trans (hb6.mono (Nat.le_trans HB.out.size HB4.out.size))⟩

end Go.Proofs.Ytlencmliaephjaa.Sk
