/- DoorTurns. -/
import Derived.Test.YtlencmliaephjaaDk
namespace Go.Proofs.Ytlencmliaephjaa.Do
open Go Go.RowKit Go.Proofs.Ytlencmliaephjaa.K Go.Proofs.Ytlencmliaephjaa.Ha Go.Proofs.Ytlencmliaephjaa.Sk

/-- Which bits are set behind so many keys. -/
theorem adds_get {m : Nat} (hm : 1 ≤ m) (j : Nat) : ∀ (l : List ByteArray) (B : List Bool), B.length = 64 * m →
    (l.foldl (fun B key => addB m B key) B).getD j false = (l.any (fun key => decide (j = pb m key 0 ∨ j = pb m key 1 ∨ j = pb m key 2)) || B.getD j false)
  | [], B, _ => by simp
  | x :: l, B, hB => by
    rw [List.foldl_cons, adds_get hm j l _ (by rw [addB_length]; exact hB), addB_get m B x hB hm, List.any_cons]
    cases B.getD j false <;> simp [Bool.or_comm]

theorem adds_reverse {m : Nat} (hm : 1 ≤ m) (l : List ByteArray) : adds m l.reverse = adds m l := by
  apply List.ext_getElem
  · rw [adds_length, adds_length]
  · intro j h1 h2
    have g1 := adds_get hm j l.reverse (List.replicate (64 * m) false) (by simp)
    have g2 := adds_get hm j l (List.replicate (64 * m) false) (by simp)
    rw [List.any_reverse, ← g2] at g1
    have e1 : (adds m l.reverse).getD j false = (adds m l).getD j false := g1
    rw [List.getD_eq_getElem?_getD, List.getD_eq_getElem?_getD, List.getElem?_eq_getElem h1, List.getElem?_eq_getElem h2] at e1
    exact e1

theorem foldl_count (m : Nat) : ∀ (l : List ByteArray) (B : List Bool), (l.foldl (fun B key => addB m B key) B).count true ≤ B.count true + 3 * l.length
  | [], B => by simp
  | x :: l, B => by
    rw [List.foldl_cons]
    have h1 := foldl_count m l (addB m B x)
    have h2 := count_add m B x
    simp only [List.length_cons]
    omega
theorem adds_count (m : Nat) (l : List ByteArray) : (adds m l).count true ≤ 3 * l.length := by
  have := foldl_count m l (List.replicate (64 * m) false)
  rw [count_zero] at this
  unfold adds; omega

def BD (b c : Nat) : Nat → Prop := fun i => i = b ∨ i = c

/-- Two doors, side by side. -/
structure Tw (b c b' c' m : Nat) (w0 : World) (B1 B2 : List Bool) (w : World) : Prop where
  one : Dq w b c m B1
  two : Dq w b' c' m B2
  dis : ∀ i, BD b c i → ¬ BD b' c' i
  ge1 : ∀ i, BD b c i → w0.heap.size ≤ i
  ge2 : ∀ i, BD b' c' i → w0.heap.size ≤ i
  below : Below w0.heap.size w0 w

section
variable {b c b' c' m : Nat} {w0 w : World} {B1 B2 : List Bool}
theorem Tw.first {B : List Bool} {w2 : World} (h : Tw b c b' c' m w0 B1 B2 w) (hs : Dq w2 b c m B) (hu : Upd (· = c) w w2) : Tw b c b' c' m w0 B B2 w2 :=
  ⟨hs, h.two.upd hu (fun e => h.dis c (.inr rfl) (.inl e.symm)) (fun e => h.dis c (.inr rfl) (.inr e.symm)), h.dis, h.ge1, h.ge2, h.below.trans (hu.below h.below.size (by rintro i rfl; exact h.ge1 i (.inr rfl)))⟩
theorem Tw.second {B : List Bool} {w2 : World} (h : Tw b c b' c' m w0 B1 B2 w) (hs : Dq w2 b' c' m B) (hu : Upd (· = c') w w2) : Tw b c b' c' m w0 B1 B w2 :=
  ⟨h.one.upd hu (fun e => h.dis b (.inl rfl) (.inr e)) (fun e => h.dis c (.inr rfl) (.inr e)), hs, h.dis, h.ge1, h.ge2, h.below.trans (hu.below h.below.size (by rintro i rfl; exact h.ge2 i (.inr rfl)))⟩
theorem Tw.drewN (h : Tw b c b' c' m w0 B1 B2 w) (k : Nat) : Tw b c b' c' m w0 B1 B2 (w.drewN k) := ⟨h.one.drewN k, h.two.drewN k, h.dis, h.ge1, h.ge2, below_drewN h.below k⟩
theorem Tw.str (h : Tw b c b' c' m w0 B1 B2 w) {ab ao : Nat} {s : ByteArray} (hc : w0.cell? ⟨ab, ao, none⟩ = some (.string s)) : w.cell? ⟨ab, ao, none⟩ = some (.string s) := by
  rw [h.below.cell (p := ⟨ab, ao, none⟩) (World.block_lt_of_cell? w0 _ hc)]; exact hc
theorem tw_new (w1 w2 : World) (hb0 : Below w0.heap.size w0 w) (h1 : Dq w1 b c m B1) (g1 : w.heap.size ≤ b ∧ w.heap.size ≤ c) (hw1 : Below w.heap.size w w1)
    (h2 : Dq w2 b' c' m B2) (g2 : w1.heap.size ≤ b' ∧ w1.heap.size ≤ c') (hw2 : Below w1.heap.size w1 w2) : Tw b c b' c' m w0 B1 B2 w2 := by
  have l := h1.ltb
  have s0 := hb0.size
  have s1 := hw1.size
  refine ⟨h1.below hw2, h2, ?_, ?_, ?_, (hb0.trans (hw1.mono s0)).trans (hw2.mono (Nat.le_trans s0 s1))⟩
  · rintro i (rfl | rfl) (rfl | rfl) <;> omega
  · rintro i (rfl | rfl) <;> omega
  · rintro i (rfl | rfl) <;> omega
end

set_option maxHeartbeats 1600000 in
set_option maxRecDepth 100000 in
theorem turns_calls (room : Int) (A : Option Addr) (cap : Nat) (l : List ByteArray) (key : ByteArray) (w : World) (hl : RStr w A l) :
    Calls Try.prog 4 #[.int .i64 room, .slice A l.length cap, .string key] w fun e w' => e = .returned (.bool true) ∧ Below w.heap.size w w' := by
  have hlen := hl.len
  have HL := Lib.hid hl
  have H1 := heavy8_calls A cap l w hl
  have hsm := @heavy8_false l
  generalize heavy8 l = r at *
  clear hl
  have hcase : r = true ∨ (r = false ∧ decide ((300 : Int) < (l.length : Int)) = true) ∨ (r = false ∧ decide ((300 : Int) < (l.length : Int)) = false ∧ decide ((60 : Int) < (key.size : Int)) = true) ∨ (r = false ∧ l.length ≤ 300 ∧ key.size ≤ 60) := by
    cases r <;> simp <;> omega
  rcases hcase with rfl | ⟨rfl, t1⟩ | ⟨rfl, t1, t2⟩ | ⟨rfl, hl300, hk60⟩
  · go_enter Try.func4, Try.ntmps4
    go_wp2_with (go_at_call 17; refine H1.mono ?_; rintro e w' ⟨rfl, k, rfl⟩)
    go_ret
    exact ⟨rfl, below_drewN (Below.refl _ _) _⟩
  · go_enter Try.func4, Try.ntmps4
    go_wp2_with (go_at_call 17; refine H1.mono ?_; rintro e w' ⟨rfl, k, rfl⟩)
    go_ret
    exact ⟨rfl, below_drewN (Below.refl _ _) _⟩
  · go_enter Try.func4, Try.ntmps4
    go_wp2_with (go_at_call 17; refine H1.mono ?_; rintro e w' ⟨rfl, k, rfl⟩)
    go_ret
    exact ⟨rfl, below_drewN (Below.refl _ _) _⟩
  · have t1 : decide ((300 : Int) < (l.length : Int)) = false := by simp; omega
    have t2 : decide ((60 : Int) < (key.size : Int)) = false := by simp; omega
    have HS := Lib.hid (hsm rfl)
    clear hsm
    obtain ⟨m1, m2⟩ := dw_range room
    have N := fun w => new_dq room w
    generalize dw room = m at *
    have HN := Lib.hid N
    clear N
    go_enter Try.func4, Try.ntmps4
    go_wp2_with (go_at_call 17; refine H1.mono ?_; rintro e w' ⟨rfl, k, rfl⟩)
    refine (HN.out _).mono ?_
    rintro e w1 ⟨b, c, rfl, hb, hc, hd, hw⟩
    have hp := Lib.hid (And.intro hb hc)
    have HD := Lib.hid hd
    have HW := Lib.hid hw
    clear hb hc hd hw
    go_wp2_with fail
    refine (HN.out _).mono ?_
    rintro e w2 ⟨b', c', rfl, hb', hc', hd', hw'⟩
    have h0 : Hid (Tw b c b' c' m w (adds m (l.take 0)) (adds m (l.reverse.take 0)) w2) := Lib.hid (tw_new w1 w2 (below_drewN (Below.refl _ _) _) HD.out hp.out HW.out hd' ⟨hb', hc'⟩ hw')
    clear hb' hc' hd' hw' HD HW hp H1
    go_wp2_with fail
    go_loopw [9] (fun v9 wr => ∃ k : Nat, k ≤ l.length ∧ v9 = .int .i64 k ∧ Tw b c b' c' m w (adds m (l.take k)) (adds m (l.reverse.take k)) wr) (fun v9 wr => l.length - (intOf v9).toNat)
    case atStart => exact ⟨0, by omega, rfl, h0.out⟩
    case round =>
      clear h0
      obtain ⟨k, hk, rfl, ht⟩ := hrel
      have HT := Lib.hid ht
      clear ht
      by_cases hli : k < l.length
      · obtain ⟨s, hsk⟩ : ∃ s, l[k]? = some s := ⟨_, List.getElem?_eq_getElem hli⟩
        obtain ⟨x, hxk⟩ : ∃ x, l[l.length - 1 - k]? = some x := ⟨_, List.getElem?_eq_getElem (by omega)⟩
        have hxr : l.reverse[k]? = some x := by rw [List.getElem?_reverse hli, hxk]
        obtain ⟨ab, ao, rfl, hcs⟩ := HL.out.get k s hsk
        obtain ⟨ab', ao', he, hcx⟩ := HL.out.get _ x hxk
        cases he
        have hcell := HT.out.str hcs
        have hss := HS.out k s (by omega) hsk
        have hsx := HS.out _ x (by omega) hxk
        have HP := Lib.hid (adds_snoc (m := m) hsk)
        have HP2 := Lib.hid (adds_snoc (m := m) hxr)
        have HCX := Lib.hid hcx
        have ADD := Lib.hid (add_dq s HT.out.one (by omega))
        obtain ⟨q, hq⟩ : ∃ q, q = l.length - 1 - k := ⟨_, rfl⟩
        rw [← hq] at HCX
        have hqi : (l.length : Int) - 1 - (k : Int) = (q : Int) := by omega
        have hql : (q : Int) < (l.length : Int) := by omega
        clear hsk hxk hxr hcs hcx hq
        go_wp2_with fail
        refine ADD.out.mono ?_
        rintro e w3 ⟨rfl, hs3, hu3⟩
        have ht3 := HT.out.first hs3 hu3
        rw [← HP.out] at ht3
        have HT3 := Lib.hid ht3
        have hcell3 := HT3.out.str HCX.out
        have ADD2 := Lib.hid (add_dq x HT3.out.two (by omega))
        clear ht3 hs3 hu3
        go_wp2_with fail
        refine ADD2.out.mono ?_
        rintro e w4 ⟨rfl, hs4, hu4⟩
        have ht4 := HT3.out.second hs4 hu4
        rw [← HP2.out] at ht4
        have HT4 := Lib.hid ht4
        clear ht4 hs4 hu4
        go_wp2_with fail
        go_roundw
        case rel => exact ⟨k + 1, by omega, by go_num, HT4.out⟩
        case measure => simp [intOf]; omega
      · obtain rfl : k = l.length := by omega
        have ht := HT.out
        rw [List.take_length, List.take_of_length_le (by simp), adds_reverse m1] at ht
        have hcnt := adds_count m l
        generalize adds m l = B at *
        have HT2 := Lib.hid ht
        have O1 := Lib.hid (fun wz (hz : Tw b c b' c' m w B B wz) => ones_dq hz.one)
        have O2 := Lib.hid (fun wz (hz : Tw b c b' c' m w B B wz) => ones_dq hz.two)
        have G1 := Lib.hid (fun wz (hz : Tw b c b' c' m w B B wz) => has_dq key hz.one (by omega))
        have G2 := Lib.hid (fun wz (hz : Tw b c b' c' m w B B wz) => has_dq key hz.two (by omega))
        generalize B.count true = y at *
        generalize has m B key = g at *
        have t3 : decide ((y : Int) ≤ 3 * (l.length : Int)) = true := by simp; omega
        have e3 : wrap64 (3 * (l.length : Int)) = 3 * (l.length : Int) := by unfold wrap64; omega
        clear ht HT
        go_wp2_with fail
        refine (G1.out _ HT2.out).mono ?_
        rintro e w3 ⟨rfl, q3, rfl⟩
        have HT3 := Lib.hid (HT2.out.drewN q3)
        go_wp2_with fail
        refine (G2.out _ HT3.out).mono ?_
        rintro e w4 ⟨rfl, q4, rfl⟩
        have HT4 := Lib.hid (HT2.out.drewN (q3 + q4))
        go_wp2_with fail
        refine (O1.out _ HT4.out).mono ?_
        rintro e w5 ⟨rfl, rfl⟩
        go_wp2_with fail
        refine (O2.out _ HT4.out).mono ?_
        rintro e w6 ⟨rfl, rfl⟩
        go_wp2_with fail
        refine (O1.out _ HT4.out).mono ?_
        rintro e w7 ⟨rfl, rfl⟩
        go_wp2_with (go_at_call 22; refine (known_calls _).mono ?_; rintro e w8 ⟨rfl, hb8⟩)
        go_ret
        exact ⟨rfl, HT4.out.below.trans (hb8.mono HT4.out.below.size)⟩

end Go.Proofs.Ytlencmliaephjaa.Do
