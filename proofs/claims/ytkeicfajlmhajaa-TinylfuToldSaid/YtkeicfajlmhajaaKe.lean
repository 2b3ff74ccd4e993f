/- The walk of Add. -/
import Derived.Test.YtkeicfajlmhajaaKd
namespace Go.Proofs.Ytkeicfajlmhajaa.Sk
open Go Go.RowKit Go.Proofs.Ytkeicfajlmhajaa.K Go.Proofs.Ytkeicfajlmhajaa.Ha

theorem inc_any (v : Nat) (hv : v < 15) (w : World) :
    Calls Try.prog 64 #[.int .i64 (v : Int), .int .i64 15] w fun e w' => e = .returned (.int .i64 ((v + 1 : Nat) : Int)) ∧ ∃ k, w' = w.drewN k := by
  have h1 : ¬ (15 : Int) ≤ (v : Int) := by omega
  go_enter Try.func64, Try.ntmps64
  go_wp2_with fail
  go_ret
  exact ⟨rfl, 0, rfl⟩

/-- k rounds of an Add. -/
def addk (n : Nat) (C : List Nat) (key : ByteArray) (low : Nat) : Nat → List Nat
  | 0 => C
  | k + 1 => let D := addk n C key low k; if D.getD (plc n key k) 0 ≤ low then D.set (plc n key k) (D.getD (plc n key k) 0 + 1) else D

theorem idxk (n : Nat) (key : ByteArray) : ∀ k : Nat, k < 4 → ∀ w : World,
    (Instr.index 94 (.agg #[.int .i64 (plc n key 0 : Int), .int .i64 (plc n key 1 : Int), .int .i64 (plc n key 2 : Int), .int .i64 (plc n key 3 : Int)]) (.int .i64 (k : Int))).run Try.prog w = .ok (.int .i64 (plc n key k : Int)) w
  | 0, _, w => idx0 _ _ _ _ w
  | 1, _, w => idx1 _ _ _ _ w
  | 2, _, w => idx2 _ _ _ _ w
  | 3, _, w => idx3 _ _ _ _ w
  | k + 4, h, _ => by omega

/-- What an Add does. -/
def addS (n : Nat) (key : ByteArray) (s : List Nat × Int) : List Nat × Int :=
  if cnt n s.1 key = 15 then s
  else
    let D := addk n s.1 key (cnt n s.1 key) 4
    if s.2 + 1 = 10 * (n : Int) then (D.map (· / 2), (s.2 + 1) / 2) else (D, s.2 + 1)

def BC (b c : Nat) : Nat → Prop := fun k => k = b ∨ k = c

theorem cnt_le (n : Nat) (C : List Nat) (key : ByteArray) : cnt n C key ≤ 15 := by
  have h : ∀ k, cntk n C key k ≤ 15 := by
    intro k
    induction k with
    | zero => exact Nat.le_refl _
    | succ k ih => rw [cntk_succ]; omega
  exact h 4

def AddPost (b c n : Nat) (C : List Nat) (sum : Int) (key : ByteArray) (w : World) (e : Ending) (w' : World) : Prop :=
  e = .returned (.tuple #[]) ∧ Sq w' b c n (addS n key (C, sum)).1 (addS n key (C, sum)).2 ∧ Upd (BC b c) w w'

theorem add_full (b c n : Nat) (C : List Nat) (sum : Int) (key : ByteArray) (w : World) (h : Sq w b c n C sum) (hn : key.size ≤ 140737488351232) (hl : cnt n C key = 15) :
    Calls Try.prog 43 #[.pointer (some ⟨b, 0, none⟩), .string key] w (AddPost b c n C sum key w) := by
  have H := Lib.hid h
  have A := count_sq b c n C sum key w H.out hn
  have HL := Lib.hid hl
  rw [hl] at A
  have HA := Lib.hid A
  clear h A hl
  go_enter Try.func43, Try.ntmps43
  go_wp2_with (go_at_call 60; refine HA.out.mono ?_; rintro e w1 ⟨rfl, hb⟩)
  (try simp only [Exit.inBlock, Exit.then])
  refine bodyPost_ret (results_none rfl _ _ _) rfl ?_
  unfold AddPost addS
  rw [if_pos HL.out]
  exact ⟨rfl, H.out.below hb, Upd.of_below hb (fun i h1 h2 => by omega)⟩

theorem add_less (b c n : Nat) (C : List Nat) (sum : Int) (key : ByteArray) (w : World) (h : Sq w b c n C sum) (hn : key.size ≤ 140737488351232) (hl : cnt n C key ≠ 15)
    (h0 : 0 ≤ sum) (h1 : sum < 10 * (n : Int)) :
    Calls Try.prog 43 #[.pointer (some ⟨b, 0, none⟩), .string key] w (AddPost b c n C sum key w) := by
  have H := Lib.hid h
  have A := count_sq b c n C sum key w H.out hn
  have n1 := h.n1
  have n2 := h.n2
  have hle := cnt_le n C key
  have HL := Lib.hid hl
  generalize hlow : cnt n C key = low at *
  have hl15 : low < 15 := by omega
  have HLow := Lib.hid hlow
  have HA := Lib.hid A
  clear h A hl hlow hle
  have t1 : ((low : Int) == 15) = false := by simp; omega
  go_enter Try.func43, Try.ntmps43
  go_wp2_with (first | (go_at_call 60; refine HA.out.mono ?_; rintro e w1 ⟨rfl, hb⟩) | (go_at_call 61; refine (places_sq b c n C sum key w1 (H.out.below hb) hn).mono ?_; rintro e w2 ⟨rfl, hb2⟩))
  rw [plv_eq]
  have hs2 : Hid (Sq w2 b c n C sum) := Lib.hid ((H.out.below hb).below hb2)
  have hu2 : Hid (Upd (BC b c) w w2) := Lib.hid ((Upd.of_below hb (fun i h1 h2 => by omega)).trans (Upd.of_below hb2 (fun i h1 h2 => by omega)))
  clear hb hb2
  go_loopw [18] (fun v18 wr => ∃ k : Nat, k ≤ 4 ∧ v18 = .int .i64 k ∧ Sq wr b c n (addk n C key low k) sum ∧ Upd (BC b c) w wr) (fun v18 wr => 4 - (intOf v18).toNat)
  case atStart => exact ⟨0, by omega, rfl, hs2.out, hu2.out⟩
  case round =>
    obtain ⟨k, hk, rfl, hs, hu⟩ := hrel
    have HS := Lib.hid hs
    have HU := Lib.hid hu
    clear hs hu
    by_cases hlt : k < 4
    · have i0 := idxk n key k hlt
      have hp := plc_lt n key k hlt (by omega)
      have A := at_sq b c n (plc n key k) (addk n C key low k) sum wr HS.out hp
      have hadd : addk n C key low (k + 1) = if (addk n C key low k).getD (plc n key k) 0 ≤ low then (addk n C key low k).set (plc n key k) ((addk n C key low k).getD (plc n key k) 0 + 1) else addk n C key low k := rfl
      generalize hx : (addk n C key low k).getD (plc n key k) 0 = x at *
      have HD := Lib.hid hadd
      have HA := Lib.hid A
      clear A hadd hx
      by_cases hxl : x ≤ low
      · have I := fun w => inc_any x (by omega) w
        have S : ∀ m, Calls Try.prog 63 _ (wr.drewN m) _ := fun m => set_sq b c n (plc n key k) (x + 1) (addk n C key low k) sum (wr.drewN m) (HS.out.drewN m) hp (by omega)
        go_wp2_with (first | (go_at_call 62; refine HA.out.mono ?_; rintro e w3 ⟨rfl, rfl⟩) | (go_at_call 64; refine (I _).mono ?_; rintro e w4 ⟨rfl, m, rfl⟩) | (go_at_call 63; refine (S _).mono ?_; rintro e w5 ⟨rfl, hs5, hu5⟩))
        go_roundw
        case rel =>
          refine ⟨k + 1, by omega, by go_num, ?_, HU.out.trans (Upd.mono (hu5.of_drewN) (fun _ _ h => .inr h))⟩
          rw [HD.out, if_pos hxl]; exact hs5
        case measure => simp [intOf]; omega
      · go_wp2_with (first | (go_at_call 62; refine HA.out.mono ?_; rintro e w3 ⟨rfl, rfl⟩))
        go_roundw
        case rel =>
          refine ⟨k + 1, by omega, by go_num, ?_, HU.out⟩
          rw [HD.out, if_neg hxl]; exact HS.out
        case measure => simp [intOf]; omega
    · obtain rfl : k = 4 := by omega
      obtain ⟨l2, ho2⟩ := HS.out.obj
      obtain ⟨d0, d1, d2, fr2⟩ := cells3 ho2
      clear ho2
      have e1 : wrap64 (sum + 1) = sum + 1 := by unfold wrap64; omega
      have e2 : wrap64 (10 * (n : Int)) = 10 * (n : Int) := by unfold wrap64; omega
      have hfin : Hid (addS n key (C, sum) = if sum + 1 = 10 * (n : Int) then ((addk n C key low 4).map (· / 2), (sum + 1) / 2) else (addk n C key low 4, sum + 1)) := Lib.hid (by
        unfold addS
        rw [HLow.out, if_neg HL.out])
      by_cases ht : sum + 1 = 10 * (n : Int)
      · have t2 : (sum + 1 == 10 * (n : Int)) = true := by simpa using ht
        go_wp2_with fail
        go_quiet (fail)
        go_wp2_with fail
        refine (halve_sq b c n (addk n C key low 4) (10 * (n : Int)) _ ((HS.out.put_sum _).drewN _) (by omega) (by omega)).mono ?_
        rintro e w6 ⟨rfl, hs6, hu6⟩
        go_wp2_with fail
        go_end0
        unfold AddPost
        rw [hfin.out, if_pos ht, ht]
        exact ⟨rfl, hs6, (HU.out.setCell (p := ⟨b, 2, none⟩) (.inl (.inl rfl)) _).trans (hu6.of_drewN)⟩
      · have t2 : (sum + 1 == 10 * (n : Int)) = false := by simpa using ht
        go_wp2_with fail
        go_quiet (fail)
        go_wp2_with fail
        go_end0
        unfold AddPost
        rw [hfin.out, if_neg ht]
        exact ⟨rfl, (HS.out.put_sum _).drewN _, (HU.out.setCell (p := ⟨b, 2, none⟩) (.inl (.inl rfl)) _).drewN _⟩

theorem add_sq (b c n : Nat) (C : List Nat) (sum : Int) (key : ByteArray) (w : World) (h : Sq w b c n C sum) (hn : key.size ≤ 140737488351232)
    (h0 : 0 ≤ sum) (h1 : sum < 10 * (n : Int)) :
    Calls Try.prog 43 #[.pointer (some ⟨b, 0, none⟩), .string key] w (AddPost b c n C sum key w) := by
  by_cases hl : cnt n C key = 15
  · exact add_full b c n C sum key w h hn hl
  · exact add_less b c n C sum key w h hn hl h0 h1

end Go.Proofs.Ytkeicfajlmhajaa.Sk
