/- The walks of the reference's sketch: New, Add. -/
import Derived.Test.YtlencmliaephjaaSu
namespace Go.Proofs.Ytlencmliaephjaa.Sr
open Go Go.RowKit Go.Proofs.Ytlencmliaephjaa.K Go.Proofs.Ytlencmliaephjaa.Ha Go.Proofs.Ytlencmliaephjaa.Sk

theorem made_nats (n : Nat) : (madeCells (Value.int .i64 0).cells (n * 1)).toList = nats (List.replicate n 0) := by
  rw [Nat.mul_one]
  refine (made_one (.int .i64 0) n).trans ?_
  simp [nats]

theorem new_rf (room : Int) (w : World) :
    Calls Try.prog 29 #[.int .i64 room] w fun e w' => ∃ b c, e = .returned (.pointer (some ⟨b, 0, none⟩)) ∧ w.heap.size ≤ b ∧ w.heap.size ≤ c ∧
      Rf w' b c (pw (clamp room 1 1024)) (List.replicate (4 * pw (clamp room 1 1024)) 0) 0 ∧ Below w.heap.size w w' := by
  have hr : 8 ≤ pw (clamp room 1 1024) ∧ pw (clamp room 1 1024) ≤ 1024 := by unfold pw; (repeat' split) <;> omega
  have HP := fun w => power8_any room w
  generalize pw (clamp room 1 1024) = n at *
  obtain ⟨n1, n2⟩ := hr
  obtain ⟨i3, hi3, hz3, hs3, hb3⟩ := info_parts info3
  go_enter Try.func29, Try.ntmps29
  go_wp2_with (first | (go_at_call 44; refine (HP _).mono ?_; rintro e w' ⟨rfl, hw⟩; have hw := hw.symm; subst hw) | (refine wpList_make_full _ rfl _ _ 39 rfl w.heap.size 3 i3 _ 1 Try.underlying39 hi3 hz3 hs3 .i64 .i64 _ _ (4 * n) rfl rfl (by omega) (by omega) (by rw [hb3]; omega) (by unfold maxLen; omega) (Nat.le_refl _) ?_; intro w5 hown hgr))
  go_ret
  have hrow := own_full hown
  rw [made_nats] at hrow
  refine ⟨w5.heap.size, w.heap.size, rfl, hgr.size, Nat.le_refl _, ⟨block_new w5 _, block_alloc hrow, by simp, fun i => ?_, n1, n2⟩, ?_⟩
  · rw [List.getD_eq_getElem?_getD, List.getElem?_replicate]; split <;> simp
  · exact (⟨hgr.os, hgr.tape, hgr.output, hgr.size, fun k hk => hgr.block k hk (by simp)⟩ : Below w.heap.size w w5).alloc hgr.size _

def pla (n : Nat) (key : ByteArray) : Array Value := #[.int .i64 (plc n key 0 : Int), .int .i64 (plc n key 1 : Int), .int .i64 (plc n key 2 : Int), .int .i64 (plc n key 3 : Int)]
theorem pla_at (n : Nat) (key : ByteArray) : ∀ k, k < 4 → (pla n key)[k]? = some (.int .i64 (plc n key k : Int))
  | 0, _ => rfl
  | 1, _ => rfl
  | 2, _ => rfl
  | 3, _ => rfl
  | k + 4, h => by omega

def AddPost (b c n : Nat) (C : List Nat) (sum : Int) (key : ByteArray) (w : World) (e : Ending) (w' : World) : Prop :=
  e = .returned (.tuple #[]) ∧ Rf w' b c n (addS n key (C, sum)).1 (addS n key (C, sum)).2 ∧ Upd (BC b c) w w'

set_option maxHeartbeats 800000 in
theorem add_full (b c n : Nat) (C : List Nat) (sum : Int) (key : ByteArray) (w : World) (h : Rf w b c n C sum) (hn : key.size ≤ 140737488351232) (hl : cnt n C key = 15)
    (h1 : sum < 10 * (n : Int)) :
    Calls Try.prog 32 #[.pointer (some ⟨b, 0, none⟩), .string key] w (AddPost b c n C sum key w) := by
  have n1 := h.n1
  have n2 := h.n2
  have H := Lib.hid h
  have HC := Lib.hid (cells_rf' b c n C sum key w h hn)
  have HL := Lib.hid hl
  have HP : Hid (∀ k, k < 4 → plc n key k < 4 * n) := Lib.hid (fun k hk => plc_lt n key k hk (by omega))
  have HA := Lib.hid (pla_at n key)
  have hpla : Hid (#[.int .i64 (plc n key 0 : Int), .int .i64 (plc n key 1 : Int), .int .i64 (plc n key 2 : Int), .int .i64 (plc n key 3 : Int)] = pla n key) := Lib.hid rfl
  clear h hl
  go_enter Try.func32, Try.ntmps32
  go_wp2_with (go_at_call 46; refine HC.out.mono ?_; rintro e w1 ⟨rfl, hb⟩)
  have HB := Lib.hid hb
  clear hb
  go_wp2_with fail
  have H2 : Hid (Rf (w1.alloc (.cells #[.int .i64 (plc n key 0 : Int), .int .i64 (plc n key 1 : Int), .int .i64 (plc n key 2 : Int), .int .i64 (plc n key 3 : Int)] 48)) b c n C sum) :=
    Lib.hid ((H.out.below HB.out).below ((Below.refl _ _).alloc (Nat.le_refl _) _))
  have CT := count_rf b c n C sum key _ H2.out hn
  rw [HL.out] at CT
  have hg0 := block_new w1 (.cells #[.int .i64 (plc n key 0 : Int), .int .i64 (plc n key 1 : Int), .int .i64 (plc n key 2 : Int), .int .i64 (plc n key 3 : Int)] 48)
  rw [hpla.out] at hg0 H2 CT ⊢
  have hb1 : Below w.heap.size w (w1.alloc (.cells (pla n key) 48)) := HB.out.alloc HB.out.size _
  have HG0 := Lib.hid hg0
  have HB1 := Lib.hid hb1
  clear hg0 hb1
  refine CT.mono ?_
  rintro e w2 ⟨rfl, hb2⟩
  have hg2 : w2.heap[w1.heap.size]? = some (.cells (pla n key) 48 (0, 0)) := (hb2.block _ (lt_of_block HG0.out)).trans HG0.out
  have hR2 : Rf w2 b c n C sum := H2.out.below hb2
  have hu2 : Upd (BC b c) w w2 := Upd.of_below (HB1.out.trans (hb2.mono HB1.out.size)) (fun i h1 h2 => by omega)
  generalize w1.heap.size = g at *
  have G2 := Lib.hid hg2
  have R2 := Lib.hid hR2
  have U2 := Lib.hid hu2
  clear hb2 hg2 hR2 hu2 CT HB HG0 HB1 H2 hpla HC
  go_wp2_with fail
  go_loopw [6] (fun v6 wr => ∃ k : Nat, k ≤ 4 ∧ v6 = .int .i64 k ∧ Rf wr b c n C sum ∧ wr.heap[g]? = some (.cells (pla n key) 48 (0, 0)) ∧ Upd (BC b c) w wr) (fun v6 wr => 4 - (intOf v6).toNat)
  case atStart => exact ⟨0, by omega, rfl, R2.out, G2.out, U2.out⟩
  case round =>
    clear R2 G2 U2
    obtain ⟨k, hk, rfl, hs, hg, hu⟩ := hrel
    have HS := Lib.hid hs
    have HG := Lib.hid hg
    have HU := Lib.hid hu
    obtain ⟨c0, c1, c2, fr⟩ := cells3 hs.obj
    clear hs hg hu
    by_cases hlt : k < 4
    · have hp := HP.out k hlt
      have hgk : wr.cell? ⟨g, k, none⟩ = some (.int .i64 (plc n key k : Int)) := (cell_of HG.out k).trans (HA.out k hlt)
      have d := HS.out.cell (plc n key k) hp
      generalize C.getD (plc n key k) 0 = x at *
      generalize plc n key k = p at *
      have z0 : (0 : Int) ≤ (p : Int) := by omega
      have z1 : (p : Int) < ((4 * n : Nat) : Int) := by omega
      have z2 : (0 : Int) ≤ (k : Int) := by omega
      have z3 : (k : Int) < 4 := by omega
      by_cases hx : x = 15
      · subst hx
        go_wp2_with fail
        go_quiet (fail)
        go_wp2_with fail
        go_roundw
        case rel => exact ⟨k + 1, by omega, by go_num, HS.out.drewN _, HG.out, HU.out.drewN _⟩
        case measure => simp [intOf]; omega
      · have t1 : ((x : Int) == 15) = false := by simp; omega
        go_wp2_with fail
        go_quiet (fail)
        go_wp2_with fail
        go_roundw
        case rel => exact ⟨k + 1, by omega, by go_num, HS.out.drewN _, HG.out, HU.out.drewN _⟩
        case measure => simp [intOf]; omega
    · obtain rfl : k = 4 := by omega
      have e2 : wrap64 (10 * (n : Int)) = 10 * (n : Int) := by unfold wrap64; omega
      have t2 : decide (10 * (n : Int) ≤ sum) = false := by simp; omega
      go_wp2_with fail
      go_quiet (fail)
      go_wp2_with fail
      go_end0
      unfold AddPost addS
      rw [if_pos HL.out]
      exact ⟨rfl, HS.out.drewN _, HU.out.drewN _⟩

set_option maxHeartbeats 800000 in
theorem add_less (b c n : Nat) (C : List Nat) (sum : Int) (key : ByteArray) (w : World) (h : Rf w b c n C sum) (hn : key.size ≤ 140737488351232) (hl : cnt n C key ≠ 15)
    (h0 : 0 ≤ sum) (h1 : sum < 10 * (n : Int)) :
    Calls Try.prog 32 #[.pointer (some ⟨b, 0, none⟩), .string key] w (AddPost b c n C sum key w) := by
  have n1 := h.n1
  have n2 := h.n2
  have H := Lib.hid h
  have HC := Lib.hid (cells_rf' b c n C sum key w h hn)
  have hle := cnt_le n C key
  have HL := Lib.hid hl
  have CT0 : Hid (∀ w, Rf w b c n C sum → Calls Try.prog 33 #[.pointer (some ⟨b, 0, none⟩), .string key] w fun e w' => e = .returned (.int .i64 (cnt n C key : Nat)) ∧ Below w.heap.size w w') := Lib.hid (fun w hw => count_rf b c n C sum key w hw hn)
  have HCL : Hid (∀ k, k < 4 → cnt n C key ≤ C.getD (plc n key k) 0) := Lib.hid (fun k hk => cnt_le_cell n C key k hk)
  have HAM : Hid (∀ low i k, C.getD i 0 ≤ (addk n C key low k).getD i 0) := Lib.hid (fun low i k => addk_mono n C key low i 0 k (by omega))
  generalize hlow : cnt n C key = low at *
  have hl15 : low < 15 := by omega
  have HLow := Lib.hid hlow
  have HP : Hid (∀ k, k < 4 → plc n key k < 4 * n) := Lib.hid (fun k hk => plc_lt n key k hk (by omega))
  have HA := Lib.hid (pla_at n key)
  have hpla : Hid (#[.int .i64 (plc n key 0 : Int), .int .i64 (plc n key 1 : Int), .int .i64 (plc n key 2 : Int), .int .i64 (plc n key 3 : Int)] = pla n key) := Lib.hid rfl
  clear h hl hlow hle
  go_enter Try.func32, Try.ntmps32
  go_wp2_with (go_at_call 46; refine HC.out.mono ?_; rintro e w1 ⟨rfl, hb⟩)
  have HB := Lib.hid hb
  clear hb
  go_wp2_with fail
  have H2 : Hid (Rf (w1.alloc (.cells #[.int .i64 (plc n key 0 : Int), .int .i64 (plc n key 1 : Int), .int .i64 (plc n key 2 : Int), .int .i64 (plc n key 3 : Int)] 48)) b c n C sum) :=
    Lib.hid ((H.out.below HB.out).below ((Below.refl _ _).alloc (Nat.le_refl _) _))
  have CT := CT0.out _ H2.out
  have hg0 := block_new w1 (.cells #[.int .i64 (plc n key 0 : Int), .int .i64 (plc n key 1 : Int), .int .i64 (plc n key 2 : Int), .int .i64 (plc n key 3 : Int)] 48)
  rw [hpla.out] at hg0 H2 CT ⊢
  have hb1 : Below w.heap.size w (w1.alloc (.cells (pla n key) 48)) := HB.out.alloc HB.out.size _
  have HG0 := Lib.hid hg0
  have HB1 := Lib.hid hb1
  clear hg0 hb1
  refine CT.mono ?_
  rintro e w2 ⟨rfl, hb2⟩
  have hg2 : w2.heap[w1.heap.size]? = some (.cells (pla n key) 48 (0, 0)) := (hb2.block _ (lt_of_block HG0.out)).trans HG0.out
  have hR2 : Rf w2 b c n C sum := H2.out.below hb2
  have hu2 : Upd (BC b c) w w2 := Upd.of_below (HB1.out.trans (hb2.mono HB1.out.size)) (fun i h1 h2 => by omega)
  have hgb : Hid (w1.heap.size ≠ b ∧ w1.heap.size ≠ c) := by
    have h5 := H.out.below HB.out
    have h3 := lt_of_block h5.obj
    have h4 := lt_of_block h5.row
    exact Lib.hid ⟨by omega, by omega⟩
  generalize w1.heap.size = g at *
  have G2 := Lib.hid hg2
  have R2 := Lib.hid hR2
  have U2 := Lib.hid hu2
  clear hb2 hg2 hR2 hu2 CT HB HG0 HB1 H2 hpla HC CT0
  go_wp2_with fail
  go_loopw [6] (fun v6 wr => ∃ k : Nat, k ≤ 4 ∧ v6 = .int .i64 k ∧ Rf wr b c n (addk n C key low k) sum ∧ wr.heap[g]? = some (.cells (pla n key) 48 (0, 0)) ∧ Upd (BC b c) w wr) (fun v6 wr => 4 - (intOf v6).toNat)
  case atStart => exact ⟨0, by omega, rfl, R2.out, G2.out, U2.out⟩
  case round =>
    clear R2 G2 U2
    obtain ⟨k, hk, rfl, hs, hg, hu⟩ := hrel
    have HS := Lib.hid hs
    have HG := Lib.hid hg
    have HU := Lib.hid hu
    obtain ⟨c0, c1, c2, fr⟩ := cells3 hs.obj
    clear hs hg hu
    by_cases hlt : k < 4
    · have hp := HP.out k hlt
      have hgk : wr.cell? ⟨g, k, none⟩ = some (.int .i64 (plc n key k : Int)) := (cell_of HG.out k).trans (HA.out k hlt)
      have d := HS.out.cell (plc n key k) hp
      have fc := free_of HS.out.row
      have hge : low ≤ (addk n C key low k).getD (plc n key k) 0 := Nat.le_trans (HCL.out k hlt) (HAM.out low _ k)
      have hadd : addk n C key low (k + 1) = if (addk n C key low k).getD (plc n key k) 0 ≤ low then (addk n C key low k).set (plc n key k) ((addk n C key low k).getD (plc n key k) 0 + 1) else addk n C key low k := rfl
      have S := Lib.hid (fun m => (HS.out.drewN m).put (plc n key k) (low + 1) (by omega))
      generalize (addk n C key low k).getD (plc n key k) 0 = x at *
      generalize plc n key k = p at *
      have HD := Lib.hid hadd
      clear hadd
      have z0 : (0 : Int) ≤ (p : Int) := by omega
      have z1 : (p : Int) < ((4 * n : Nat) : Int) := by omega
      have z2 : (0 : Int) ≤ (k : Int) := by omega
      have z3 : (k : Int) < 4 := by omega
      by_cases hx : x = low
      · subst hx
        have t1 : ((x : Int) == (x : Int)) = true := by simp
        go_wp2_with fail
        go_quiet (fail)
        go_wp2_with fail
        go_region
        go_wp2_with fail
        go_roundw
        case rel =>
          refine ⟨k + 1, by omega, by go_num, ?_, ?_, ?_⟩
          · rw [HD.out, if_pos (Nat.le_refl _)]; exact S.out _
          · exact block_other (w := wr.drewN _) (p := ⟨c, p, none⟩) hgb.out.2 HG.out
          · exact (HU.out.drewN _).setCell (p := ⟨c, p, none⟩) (.inl (.inr rfl)) _
        case measure => simp [intOf]; omega
      · have t1 : ((x : Int) == (low : Int)) = false := by simp; omega
        go_wp2_with fail
        go_quiet (fail)
        go_wp2_with fail
        go_roundw
        case rel => exact ⟨k + 1, by omega, by go_num, by rw [HD.out, if_neg (by omega)]; exact HS.out.drewN _, HG.out, HU.out.drewN _⟩
        case measure => simp [intOf]; omega
    · obtain rfl : k = 4 := by omega
      have e2 : wrap64 (10 * (n : Int)) = 10 * (n : Int) := by unfold wrap64; omega
      have hfin : Hid (addS n key (C, sum) = if sum + 1 = 10 * (n : Int) then ((addk n C key low 4).map (· / 2), (sum + 1) / 2) else (addk n C key low 4, sum + 1)) := Lib.hid (by
        unfold addS
        rw [HLow.out, if_neg HL.out])
      have e1 : wrap64 (sum + 1) = sum + 1 := by unfold wrap64; omega
      by_cases ht : sum + 1 = 10 * (n : Int)
      · have t2 : decide (10 * (n : Int) ≤ sum + 1) = true := by simp; omega
        go_wp2_with fail
        go_quiet (fail)
        go_wp2_with fail
        refine (halve_rf b c n (addk n C key low 4) (10 * (n : Int)) _ ((HS.out.put_sum _).drewN _) (by omega) (by omega)).mono ?_
        rintro e w6 ⟨rfl, hs6, hu6⟩
        go_wp2_with fail
        go_end0
        unfold AddPost
        rw [hfin.out, if_pos ht, ht]
        exact ⟨rfl, hs6, (HU.out.setCell (p := ⟨b, 2, none⟩) (.inl (.inl rfl)) _).trans (hu6.of_drewN)⟩
      · have t2 : decide (10 * (n : Int) ≤ sum + 1) = false := by simp; omega
        go_wp2_with fail
        go_quiet (fail)
        go_wp2_with fail
        go_end0
        unfold AddPost
        rw [hfin.out, if_neg ht]
        exact ⟨rfl, (HS.out.put_sum _).drewN _, (HU.out.setCell (p := ⟨b, 2, none⟩) (.inl (.inl rfl)) _).drewN _⟩

theorem add_rf (b c n : Nat) (C : List Nat) (sum : Int) (key : ByteArray) (w : World) (h : Rf w b c n C sum) (hn : key.size ≤ 140737488351232)
    (h0 : 0 ≤ sum) (h1 : sum < 10 * (n : Int)) :
    Calls Try.prog 32 #[.pointer (some ⟨b, 0, none⟩), .string key] w (AddPost b c n C sum key w) := by
  by_cases hl : cnt n C key = 15
  · exact add_full b c n C sum key w h hn hl h1
  · exact add_less b c n C sum key w h hn hl h0 h1

end Go.Proofs.Ytlencmliaephjaa.Sr
