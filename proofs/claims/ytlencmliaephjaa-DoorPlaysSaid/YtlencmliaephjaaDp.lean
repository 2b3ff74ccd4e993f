/- DoorPlays. -/
import Derived.Test.YtlencmliaephjaaDs
namespace Go.Proofs.Ytlencmliaephjaa.Do
open Go Go.RowKit Go.Proofs.Ytlencmliaephjaa.K Go.Proofs.Ytlencmliaephjaa.Ha Go.Proofs.Ytlencmliaephjaa.Sk

/-- The door and the reference's, side by side. -/
structure Tp (b c b' c' m : Nat) (w0 : World) (B1 B2 : List Bool) (w : World) : Prop where
  one : Dq w b c m B1
  two : Rd w b' c' m B2
  dis : ∀ i, BD b c i → ¬ BD b' c' i
  ge1 : ∀ i, BD b c i → w0.heap.size ≤ i
  ge2 : ∀ i, BD b' c' i → w0.heap.size ≤ i
  below : Below w0.heap.size w0 w

section
variable {b c b' c' m : Nat} {w0 w : World} {B1 B2 : List Bool}
theorem Tp.first {B : List Bool} {w2 : World} (h : Tp b c b' c' m w0 B1 B2 w) (hs : Dq w2 b c m B) (hu : Upd (· = c) w w2) : Tp b c b' c' m w0 B B2 w2 :=
  ⟨hs, h.two.upd hu (fun e => h.dis c (.inr rfl) (.inl e.symm)) (fun e => h.dis c (.inr rfl) (.inr e.symm)), h.dis, h.ge1, h.ge2, h.below.trans (hu.below h.below.size (by rintro i rfl; exact h.ge1 i (.inr rfl)))⟩
theorem Tp.second {B : List Bool} {w2 : World} (h : Tp b c b' c' m w0 B1 B2 w) (hs : Rd w2 b' c' m B) (hu : Upd (· = c') w w2) : Tp b c b' c' m w0 B1 B w2 :=
  ⟨h.one.upd hu (fun e => h.dis b (.inl rfl) (.inr e)) (fun e => h.dis c (.inr rfl) (.inr e)), hs, h.dis, h.ge1, h.ge2, h.below.trans (hu.below h.below.size (by rintro i rfl; exact h.ge2 i (.inr rfl)))⟩
theorem Tp.anew {B : List Bool} {w2 : World} {c2 : Nat} (h : Tp b c b' c' m w0 B1 B2 w) (hc : w.heap.size ≤ c2) (hs : Rd w2 b' c2 m B) (hu : Upd (· = b') w w2) : Tp b c b' c2 m w0 B1 B w2 := by
  have l := h.one.ltb
  have s := h.below.size
  refine ⟨h.one.upd hu (fun e => h.dis b (.inl rfl) (.inl e)) (fun e => h.dis c (.inr rfl) (.inl e)), hs, fun i hi => ?_, h.ge1, fun i hi => ?_, h.below.trans (hu.below h.below.size (by rintro i rfl; exact h.ge2 i (.inl rfl)))⟩
  · rintro (rfl | rfl)
    · exact h.dis _ hi (.inl rfl)
    · rcases hi with rfl | rfl <;> omega
  · rcases hi with rfl | rfl
    · exact h.ge2 _ (.inl rfl)
    · omega
theorem Tp.drewN (h : Tp b c b' c' m w0 B1 B2 w) (k : Nat) : Tp b c b' c' m w0 B1 B2 (w.drewN k) := ⟨h.one.drewN k, h.two.drewN k, h.dis, h.ge1, h.ge2, below_drewN h.below k⟩
theorem Tp.drew (h : Tp b c b' c' m w0 B1 B2 w) : Tp b c b' c' m w0 B1 B2 w.drew := h.drewN 1
theorem Tp.str (h : Tp b c b' c' m w0 B1 B2 w) {ab ao : Nat} {s : ByteArray} (hc : w0.cell? ⟨ab, ao, none⟩ = some (.string s)) : w.cell? ⟨ab, ao, none⟩ = some (.string s) := by
  rw [h.below.cell (p := ⟨ab, ao, none⟩) (World.block_lt_of_cell? w0 _ hc)]; exact hc
theorem tp_new (w1 w2 : World) (hb0 : Below w0.heap.size w0 w) (h1 : Dq w1 b c m B1) (g1 : w.heap.size ≤ b ∧ w.heap.size ≤ c) (hw1 : Below w.heap.size w w1)
    (h2 : Rd w2 b' c' m B2) (g2 : w1.heap.size ≤ b' ∧ w1.heap.size ≤ c') (hw2 : Below w1.heap.size w1 w2) : Tp b c b' c' m w0 B1 B2 w2 := by
  have l := h1.ltb
  have s0 := hb0.size
  have s1 := hw1.size
  refine ⟨h1.below hw2, h2, ?_, ?_, ?_, (hb0.trans (hw1.mono s0)).trans (hw2.mono (Nat.le_trans s0 s1))⟩
  · rintro i (rfl | rfl) (rfl | rfl) <;> omega
  · rintro i (rfl | rfl) <;> omega
  · rintro i (rfl | rfl) <;> omega

theorem tp_add1 (h : Tp b c b' c' m w0 B1 B2 w) (key : ByteArray) (hk : key.size ≤ 140737488351232) (v : Bool) (hv : has m B1 key = v) :
    Calls Try.prog 19 #[.pointer (some ⟨b, 0, none⟩), .string key] w fun e w2 => e = .returned (.bool v) ∧ Tp b c b' c' m w0 (addB m B1 key) B2 w2 := by
  subst hv
  exact (add_dq key h.one hk).mono fun _ _ ⟨he, hs, hu⟩ => ⟨he, h.first hs hu⟩
theorem tp_add2 (h : Tp b c b' c' m w0 B1 B2 w) (key : ByteArray) (hk : key.size ≤ 140737488351232) (v : Bool) (hv : has m B2 key = v) :
    Calls Try.prog 26 #[.pointer (some ⟨b', 0, none⟩), .string key] w fun e w2 => e = .returned (.bool v) ∧ Tp b c b' c' m w0 B1 (addB m B2 key) w2 := by
  subst hv
  exact (add_rd key h.two hk).mono fun _ _ ⟨he, hs, hu⟩ => ⟨he, h.second hs hu⟩
end

def stepB (m : Nat) (B : List Bool) (key : ByteArray) : List Bool := if key.toList = [] then List.replicate (64 * m) false else addB m B key
def stepsB (m : Nat) (l : List ByteArray) : List Bool := l.foldl (stepB m) (List.replicate (64 * m) false)
theorem stepsB_snoc {m : Nat} {l : List ByteArray} {k : Nat} {s : ByteArray} (h : l[k]? = some s) : stepsB m (l.take (k + 1)) = stepB m (stepsB m (l.take k)) s := by
  obtain ⟨hk, rfl⟩ := List.getElem?_eq_some_iff.1 h
  rw [List.take_succ_eq_append_getElem hk, stepsB, List.foldl_append]; rfl

set_option maxHeartbeats 3200000 in
set_option maxRecDepth 100000 in
theorem plays_calls (room : Int) (A : Option Addr) (cap : Nat) (l : List ByteArray) (key : ByteArray) (w : World) (hl : RStr w A l) :
    Calls Try.prog 5 #[.int .i64 room, .slice A l.length cap, .string key] w fun e w' => e = .returned (.bool true) ∧ Below w.heap.size w w' := by
  have hlen := hl.len
  have HL := Lib.hid hl
  have H1 := heavy8_calls A cap l w hl
  have hsm := @heavy8_false l
  generalize heavy8 l = r at *
  clear hl
  have hcase : r = true ∨ (r = false ∧ decide ((60 : Int) < (key.size : Int)) = true) ∨ (r = false ∧ key.size ≤ 60) := by
    cases r <;> simp <;> omega
  rcases hcase with rfl | ⟨rfl, t1⟩ | ⟨rfl, hk60⟩
  · go_enter Try.func5, Try.ntmps5
    go_wp2_with (go_at_call 17; refine H1.mono ?_; rintro e w' ⟨rfl, k, rfl⟩)
    go_ret
    exact ⟨rfl, below_drewN (Below.refl _ _) _⟩
  · go_enter Try.func5, Try.ntmps5
    go_wp2_with (go_at_call 17; refine H1.mono ?_; rintro e w' ⟨rfl, k, rfl⟩)
    go_ret
    exact ⟨rfl, below_drewN (Below.refl _ _) _⟩
  · have t1 : decide ((60 : Int) < (key.size : Int)) = false := by simp; omega
    have HS := Lib.hid (hsm rfl)
    clear hsm
    obtain ⟨m1, m2⟩ := dw_range room
    have N := fun w => new_dq room w
    have N2 := fun w => new_rd room w
    generalize dw room = m at *
    have HN := Lib.hid N
    have HN2 := Lib.hid N2
    clear N N2
    go_enter Try.func5, Try.ntmps5
    go_wp2_with (go_at_call 17; refine H1.mono ?_; rintro e w' ⟨rfl, k, rfl⟩)
    refine (HN.out _).mono ?_
    rintro e w1 ⟨b, c, rfl, hb, hc, hd, hw⟩
    have hp := Lib.hid (And.intro hb hc)
    have HD := Lib.hid hd
    have HW := Lib.hid hw
    clear hb hc hd hw
    go_wp2_with fail
    refine (HN2.out _).mono ?_
    rintro e w2 ⟨b', c', rfl, hb', hc', hd', hw'⟩
    have h0 : Hid (Tp b c b' c' m w (stepsB m (l.take 0)) (stepsB m (l.take 0)) w2) := Lib.hid (tp_new w1 w2 (below_drewN (Below.refl _ _) _) HD.out hp.out HW.out hd' ⟨hb', hc'⟩ hw')
    clear hb' hc' hd' hw' HD HW hp H1
    go_wp2_with fail
    go_loopw [9] (fun v9 wr => ∃ k c' : Nat, k ≤ l.length ∧ v9 = .int .i64 k ∧ Tp b c b' c' m w (stepsB m (l.take k)) (stepsB m (l.take k)) wr) (fun v9 wr => l.length - (intOf v9).toNat)
    case atStart => exact ⟨0, c', by omega, rfl, h0.out⟩
    case round =>
      clear h0
      obtain ⟨k, c', hk, rfl, ht⟩ := hrel
      have HT := Lib.hid ht
      clear ht
      by_cases hend : k < l.length ∧ k < 300
      · obtain ⟨hli, h3⟩ := hend
        obtain ⟨s, hsk⟩ : ∃ s, l[k]? = some s := ⟨_, List.getElem?_eq_getElem hli⟩
        obtain ⟨ab, ao, rfl, hcs⟩ := HL.out.get k s hsk
        have hcell := HT.out.str hcs
        have HC0 := Lib.hid hcs
        have hss : s.size ≤ 140737488351232 := by have := HS.out k s h3 hsk; omega
        have t2 : decide (k < l.length) = true := by simpa using hli
        have t3 : decide ((k : Int) < 300) = true := by simp; omega
        have HP := Lib.hid (stepsB_snoc (m := m) hsk)
        clear hsk hcs
        generalize stepsB m (l.take k) = B at *
        by_cases he : s.toList = []
        · have hst : stepB m B s = List.replicate (64 * m) false := by unfold stepB; rw [if_pos he]
          have HST := Lib.hid hst
          clear hst
          go_wp2_with fail
          refine (clear_dq HT.out.one).mono ?_
          rintro e w3 ⟨rfl, hs3, hu3⟩
          have HT3 := Lib.hid (HT.out.first hs3 hu3)
          clear hs3 hu3
          go_wp2_with fail
          refine (clear_rd HT3.out.two).mono ?_
          rintro e w4 ⟨rfl, c2, hc2, hs4, hu4⟩
          have ht4 := HT3.out.anew hc2 hs4 hu4
          rw [← HST.out] at ht4
          have HT4 := Lib.hid ht4
          clear ht4 hs4 hu4 hc2 HT HT3
          generalize stepB m B s = B' at *
          have G1 := Lib.hid (fun wz c2 (hz : Tp b c b' c2 m w B' B' wz) => has_dq key hz.one (by omega))
          have G2 := Lib.hid (fun wz c2 (hz : Tp b c b' c2 m w B' B' wz) => has_rd key hz.two (by omega))
          have O1 := Lib.hid (fun wz c2 (hz : Tp b c b' c2 m w B' B' wz) => ones_dq hz.one)
          have O2 := Lib.hid (fun wz c2 (hz : Tp b c b' c2 m w B' B' wz) => ones_rd hz.two)
          generalize B'.count true = y at *
          generalize has m B' key = g at *
          go_wp2_with fail
          refine (G1.out _ _ HT4.out).mono ?_
          rintro e w5 ⟨rfl, q5, rfl⟩
          go_wp2_with fail
          refine (G2.out _ _ (HT4.out.drewN q5)).mono ?_
          rintro e w6 ⟨rfl, q6, rfl⟩
          go_wp2_with fail
          refine (O1.out _ _ (HT4.out.drewN (q5 + q6))).mono ?_
          rintro e w7 ⟨rfl, rfl⟩
          go_wp2_with fail
          refine (O2.out _ _ (HT4.out.drewN (q5 + q6))).mono ?_
          rintro e w8 ⟨rfl, rfl⟩
          go_wp2_with fail
          go_roundw
          case rel => exact ⟨k + 1, c2, by omega, by go_num, by rw [HP.out]; exact HT4.out.drewN _⟩
          case measure => simp [intOf]; omega
        · have hst : stepB m B s = addB m B s := by unfold stepB; rw [if_neg he]
          have he2 : s.toList.isEmpty = false := by simpa using he
          have HST := Lib.hid hst
          clear hst
          obtain ⟨v, hv⟩ : ∃ v, has m B s = v := ⟨_, rfl⟩
          have HV := Lib.hid hv
          have KEEP : Hid (∀ B1 B2 w', Tp b c b' c' m w B1 B2 w' → w'.cell? ⟨ab, ao + k, none⟩ = some (.string s)) := Lib.hid (fun B1 B2 w' h => h.str HC0.out)
          clear hv
          go_wp2_with fail
          go_region_held3 (fun w' => w'.cell? ⟨ab, ao + k, none⟩ = some (.string s))
            (first
              | go_keep
              | exact KEEP.out _ _ _ (by assumption))
            (first
              | (go_at_call 19; refine (tp_add1 (c' := c') (B1 := B) (B2 := B) (w0 := w) (by first | exact HT.out | exact HT.out.drew) s hss v HV.out).mono ?_; rintro e w5 ⟨rfl, hT5⟩)
              | (go_at_call 19; refine (tp_add1 (c' := c') (B1 := B) (B2 := addB m B s) (w0 := w) (by first | assumption | exact Tp.drew (by assumption)) s hss v HV.out).mono ?_; rintro e w5 ⟨rfl, hT5⟩)
              | (go_at_call 26; refine (tp_add2 (c := c) (B1 := B) (B2 := B) (w0 := w) (by first | exact HT.out | exact HT.out.drew) s hss v HV.out).mono ?_; rintro e w6 ⟨rfl, hT6⟩)
              | (go_at_call 26; refine (tp_add2 (c := c) (B1 := addB m B s) (B2 := B) (w0 := w) (by first | assumption | exact Tp.drew (by assumption)) s hss v HV.out).mono ?_; rintro e w6 ⟨rfl, hT6⟩))
          all_goals
            first
              | have ht4 : Tp b c b' c' m w (addB m B s) (addB m B s) w6 := hT6
              | have ht4 : Tp b c b' c' m w (addB m B s) (addB m B s) w5 := hT5
            rw [← HST.out] at ht4
            have HT4 := Lib.hid ht4
            clear ht4 HT
            generalize stepB m B s = B' at *
            have G1 := Lib.hid (fun wz c2 (hz : Tp b c b' c2 m w B' B' wz) => has_dq key hz.one (by omega))
            have G2 := Lib.hid (fun wz c2 (hz : Tp b c b' c2 m w B' B' wz) => has_rd key hz.two (by omega))
            have O1 := Lib.hid (fun wz c2 (hz : Tp b c b' c2 m w B' B' wz) => ones_dq hz.one)
            have O2 := Lib.hid (fun wz c2 (hz : Tp b c b' c2 m w B' B' wz) => ones_rd hz.two)
            generalize B'.count true = y at *
            generalize has m B' key = g at *
            go_wp2_with fail
            refine (G1.out _ _ HT4.out).mono ?_
            rintro e w5 ⟨rfl, q5, rfl⟩
            go_wp2_with fail
            refine (G2.out _ _ (HT4.out.drewN q5)).mono ?_
            rintro e w6 ⟨rfl, q6, rfl⟩
            go_wp2_with fail
            refine (O1.out _ _ (HT4.out.drewN (q5 + q6))).mono ?_
            rintro e w7 ⟨rfl, rfl⟩
            go_wp2_with fail
            refine (O2.out _ _ (HT4.out.drewN (q5 + q6))).mono ?_
            rintro e w8 ⟨rfl, rfl⟩
            go_wp2_with fail
            go_roundw
            case rel => exact ⟨k + 1, c', by omega, by go_num, by rw [HP.out]; exact HT4.out.drewN _⟩
            case measure => simp [intOf]; omega
      · have hends : decide (k < l.length) = true ∧ decide ((k : Int) < 300) = false ∨ decide (k < l.length) = false := by
          simp only [decide_eq_true_eq, decide_eq_false_iff_not]; omega
        rcases hends with ⟨hli, hgd⟩ | hli
        all_goals
          go_wp2_with (go_at_call 22; refine (known_calls _).mono ?_; rintro e w8 ⟨rfl, hb8⟩)
          go_ret
          exact ⟨rfl, HT.out.below.trans (hb8.mono HT.out.below.size)⟩

end Go.Proofs.Ytlencmliaephjaa.Do
