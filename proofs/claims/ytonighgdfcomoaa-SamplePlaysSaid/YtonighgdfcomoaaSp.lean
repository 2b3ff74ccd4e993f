/- The walk of the law SamplePlays. -/
import Derived.Test.YtonighgdfcomoaaSl
import Derived.Deep.RegionHeld3
import Derived.Test.YtonighgdfcomoaaStr
namespace Go.Proofs.Ytonighgdfcomoaa.Sm
open Go Go.RowKit Go.Proofs.Ytonighgdfcomoaa.K Go.Proofs.Ytonighgdfcomoaa.PSamplePlays Go.Proofs.YtonighgdfcomoaaW.PrintWords Go.Proofs.YtonighgdfcomoaaW.PrintMore

/-- Both machines, at their blocks, with the same counts. -/
def Both (B b1 b2 : Nat) (r : Int) (W w : World) : Prop :=
  ∃ x y, SRep w b1 r x y ∧ RRep w b2 r x y ∧ 0 ≤ x ∧ 0 ≤ y ∧ Below B W w

theorem RRep.upd {w w' : World} {b b' : Nat} {r a t : Int} (h : RRep w b r a t) (hb : Upd (· = b') w w') (hne : b ≠ b') : RRep w' b r a t := hb.get h hne
theorem RRep.below {w w' : World} {b : Nat} {r a t : Int} (h : RRep w b r a t) (hb : Below w.heap.size w w') : RRep w' b r a t :=
  (hb.block b (lt_of_block h)).trans h

/-- Between the two calls of a round. -/
def Half (B b1 b2 : Nat) (r : Int) (key : ByteArray) (W w : World) : Prop :=
  ∃ x y, 0 ≤ x ∧ 0 ≤ y ∧ SRep w b1 r (inc x 1099511627776) (if taken key r = true then inc y 1099511627776 else y) ∧ RRep w b2 r x y ∧ Below B W w

theorem both_first {B b1 b2 : Nat} {r : Int} {W w : World} (h : Both B b1 b2 r W w) (key : ByteArray) (d : Bool) (hd : taken key r = d) (hn : key.size ≤ 140737488351232)
    (hne : b1 ≠ b2) (hB : B ≤ W.heap.size) (hb : B ≤ b1) :
    Calls Try.prog 28 #[.pointer (some ⟨b1, 0, none⟩), .string key] w fun e w' => e = .returned (.bool d) ∧ Half B b1 b2 r key W w' := by
  obtain ⟨x, y, h1, h2, hx, hy, hW⟩ := h
  refine (takes_calls b1 key r x y w h1 hx hy hn).mono ?_
  rintro e w' ⟨rfl, h3, hu⟩
  exact ⟨by rw [hd], x, y, hx, hy, h3, h2.upd hu hne.symm, Upd.onto hW hu hB hb⟩

theorem both_second {B b1 b2 : Nat} {r : Int} {W w : World} {key : ByteArray} (h : Half B b1 b2 r key W w) (d : Bool) (hd : taken key r = d) (hn : key.size ≤ 140737488351232)
    (hne : b1 ≠ b2) (hB : B ≤ W.heap.size) (hb : B ≤ b2) :
    Calls Try.prog 31 #[.pointer (some ⟨b2, 0, none⟩), .string key] w fun e w' => e = .returned (.bool d) ∧ Both B b1 b2 r W w' := by
  obtain ⟨x, y, hx, hy, h1, h2, hW⟩ := h
  refine (takes_calls2 b2 key r x y w h2 hx hy hn).mono ?_
  rintro e w' ⟨rfl, h3, hu⟩
  exact ⟨by rw [hd], _, _, h1.upd hu hne, h3, inc_range _ _ hx, by split; exact inc_range _ _ hy; exact hy, Upd.onto hW hu hB hb⟩

theorem Both.drew {B b1 b2 : Nat} {r : Int} {W w : World} (h : Both B b1 b2 r W w) : Both B b1 b2 r W w.drew := by
  obtain ⟨x, y, h1, h2, hx, hy, hW⟩ := h
  exact ⟨x, y, h1, h2, hx, hy, hW.drew⟩
theorem Both.cell {b1 b2 : Nat} {r : Int} {W w : World} (h : Both W.heap.size b1 b2 r W w) {b o : Nat} {v : Value} (hb : b < W.heap.size) (hc : W.cell? ⟨b, o, none⟩ = some v) : w.cell? ⟨b, o, none⟩ = some v := by
  obtain ⟨x, y, _, _, _, _, hW⟩ := h
  rw [hW.cell (p := ⟨b, o, none⟩) hb]; exact hc
theorem Half.cell {b1 b2 : Nat} {r : Int} {key : ByteArray} {W w : World} (h : Half W.heap.size b1 b2 r key W w) {b o : Nat} {v : Value} (hb : b < W.heap.size) (hc : W.cell? ⟨b, o, none⟩ = some v) : w.cell? ⟨b, o, none⟩ = some v := by
  obtain ⟨x, y, _, _, _, _, hW⟩ := h
  rw [hW.cell (p := ⟨b, o, none⟩) hb]; exact hc

theorem room_at2 (b : Nat) (c r a t : Int) (w : World) (n : Nat) (h : RRep w b r a t) (hr0 : 0 ≤ r) (hr1 : r ≤ 16777216) :
    Calls Try.prog 34 #[.pointer (some ⟨b, 0, none⟩), .int .i64 c] (w.drewN n) fun e w' => e = .returned (.int .i64 (room c r)) ∧ ∃ k, w' = w.drewN k :=
  (room_calls2 b c r a t (w.drewN n) h hr0 hr1).mono fun _ _ ⟨he, k, hk⟩ => ⟨he, n + k, by rw [hk, World.drewN_drewN]⟩

theorem RRep.cells_below {w w' : World} {b n : Nat} {r a t : Int} (h : RRep w b r a t) (hb : Below (w.drewN n).heap.size (w.drewN n) w') :
    w'.cell? ⟨b, 0, none⟩ = some (.int .i64 r) ∧ w'.cell? ⟨b, 1, none⟩ = some (.int .i64 a) ∧ w'.cell? ⟨b, 2, none⟩ = some (.int .i64 t) := by
  have h' : RRep w' b r a t := RRep.below (w := w.drewN n) h hb
  exact ⟨(cells3 h').1, (cells3 h').2.1, (cells3 h').2.2.1⟩

set_option maxHeartbeats 1600000 in
set_option maxRecDepth 100000 in
theorem plays_calls (rate c : Int) (A : Option Addr) (cap : Nat) (l : List ByteArray) (w : World) (hA : ∀ i s, l[i]? = some s → ∃ b o, A = some ⟨b, o, none⟩ ∧ w.cell? ⟨b, o + i, none⟩ = some (.string s))
    (hsmall : ∀ i s, i < 300 → l[i]? = some s → s.size ≤ 60)
    (hheavy : Calls Try.prog 29 #[.slice A l.length cap] w fun e w' => e = .returned (.bool false) ∧ ∃ k, w' = w.drewN k) :
    Calls Try.prog 11 #[.int .i64 rate, .slice A l.length cap, .int .i64 c] w fun e w' => e = .returned (.bool true) ∧ Below w.heap.size w w' := by
  have HH := Lib.hid hheavy
  clear hheavy
  go_enter Try.func11, Try.ntmps11
  go_wp2_with fail
  refine HH.out.mono ?_
  rintro e w0 ⟨rfl, n0, rfl⟩
  clear HH
  go_wp2_with fail
  refine (new_calls _ _).mono ?_
  rintro e w1 ⟨rfl, hs, hb⟩
  go_wp2_with fail
  refine (new_calls2 _ _).mono ?_
  rintro e w2 ⟨rfl, ht, hb2⟩
  have hne := Nat.ne_of_lt (lt_of_block hs)
  have HBsz := hb.size
  have hT : Both w.heap.size w.heap.size w1.heap.size (clamp rate 0 16777216) w w2 :=
    ⟨0, 0, hs.below hb2, ht, by omega, by omega, (below_drewN (Below.refl _ _) n0).trans (hb.trans (hb2.mono hb.size))⟩
  clear hs ht hb hb2
  have hr0 := (clamp_range rate 0 16777216 (by omega)).1
  have hr1 := (clamp_range rate 0 16777216 (by omega)).2
  generalize clamp rate 0 16777216 = r at *
  go_wp2_with fail
  go_loopw [9] (fun v wr => ∃ k : Nat, k ≤ l.length ∧ k ≤ 300 ∧ v = .int .i64 k ∧ Both w.heap.size w.heap.size w1.heap.size r w wr) (fun v _ => l.length - (intOf v).toNat)
  case atStart => exact ⟨0, by omega, by omega, rfl, hT⟩
  case round =>
    clear hT
    obtain ⟨k, hk, hk3, rfl, hT⟩ := hrel
    by_cases hcase : k < l.length ∧ k < 300
    · obtain ⟨hlt1, hlt2⟩ := hcase
      · obtain ⟨s, hs⟩ : ∃ s, l[k]? = some s := ⟨_, List.getElem?_eq_getElem hlt1⟩
        obtain ⟨b, o, rfl, hc⟩ := hA k s hs
        have hb := World.block_lt_of_cell? w _ hc
        replace hb : b < w.heap.size := hb
        have hn := hsmall k s hlt2 hs
        have i0 : (0 : Int) ≤ (k : Int) := by omega
        have i1 : (k : Int) < (l.length : Int) := by omega
        have i2 : (k : Int) < 300 := by omega
        have hcr : wr.cell? ⟨b, o + k, none⟩ = some (.string s) := by
          exact hT.cell hb hc
        have HA := Lib.hid hA
        have HS := Lib.hid hsmall
        have HC := Lib.hid hc
        have HT := Lib.hid hT
        have HN := Lib.hid hn
        have HE := Lib.hid hs
        clear hA hsmall hc hT hn hs
        obtain ⟨d, hd⟩ : ∃ d, taken s r = d := ⟨_, rfl⟩
        have HD := Lib.hid hd
        clear hd
        go_wp2_with fail
        go_region_held3 (fun w' => w'.cell? ⟨b, o + k, none⟩ = some (.string s))
          (first
            | go_keep
            | exact Half.cell hH hb HC.out
            | exact Both.cell hB hb HC.out)
          (first
            | (go_at_call 28; refine (both_first HT.out.drew s d HD.out (by have := HN.out; omega) hne (Nat.le_refl _) (Nat.le_refl _)).mono ?_; rintro e w3 ⟨rfl, hH⟩)
            | (go_at_call 31; refine (both_second hH d HD.out (by have := HN.out; omega) hne (Nat.le_refl _) HBsz).mono ?_; rintro e w4 ⟨rfl, hB⟩))
        cases d
        all_goals
          go_wp2_with fail
          go_roundw
          case rel => exact ⟨k + 1, by omega, by omega, by go_num, hB⟩
          case measure => simp [intOf]; omega
    · have hends : decide (k < l.length) = true ∧ decide ((k : Int) < 300) = false ∨ decide (k < l.length) = false := by
        simp only [decide_eq_true_eq, decide_eq_false_iff_not]; omega
      obtain ⟨x, y, h1, h2, hx, hy, hW⟩ := hT
      obtain ⟨c0, c1, c2, fr⟩ := cells3 h2
      have H1 := Lib.hid h1
      have H2 := Lib.hid h2
      have HW := Lib.hid hW
      clear h1 h2 hW hA hsmall fr hcase hk hk3
      rcases hends with ⟨hli, hgd⟩ | hli
      all_goals
        go_wp2_with (go_at_call 32; refine (seen_calls _ _ _ _ _ H1.out).mono ?_; rintro e w3 ⟨rfl, n3, rfl⟩)
        go_region_held3 (fun w' => w'.cell? ⟨w1.heap.size, 0, none⟩ = some (.int .i64 r) ∧ w'.cell? ⟨w1.heap.size, 1, none⟩ = some (.int .i64 x) ∧ w'.cell? ⟨w1.heap.size, 2, none⟩ = some (.int .i64 y))
          (first
            | go_keep
            | exact RRep.cells_below H2.out hb)
          (first
            | (go_at_call 33; refine (rate_at _ _ _ _ _ _ H1.out).mono ?_; rintro e w4 ⟨rfl, rfl⟩)
            | (go_at_call 15; refine (room_at _ _ _ _ _ _ _ H1.out hr0 hr1).mono ?_; rintro e w5 ⟨rfl, n5, rfl⟩)
            | (go_at_call 34; refine (room_at2 _ _ _ _ _ _ _ H2.out hr0 hr1).mono ?_; rintro e w5 ⟨rfl, n5, rfl⟩)
            | (go_at_call 13; refine (known_calls _).mono ?_; rintro e w6 ⟨rfl, hb⟩))
        go_wp2
        go_ret
        exact ⟨rfl, (below_drewN HW.out _).trans (hb.mono HW.out.size)⟩

/-- Whether keys are more than is looked at. -/
theorem heavy_tells (l : List ByteArray) (hl : l.length ≤ 8796093021952) (d : Nat) : ∀ (k : Nat) (i : Nat), i ≤ l.length → l.length - i = d → 2 * d + 2 ≤ k →
    ∃ r, hoardlaw9_heavy.l0 k l (i : Int) = some r ∧ (r = false → ∀ j s, i ≤ j → j < 300 → l[j]? = some s → s.size ≤ 60) := by
  induction d with
  | zero =>
    intro k i h1 hd hk
    obtain ⟨k, rfl⟩ : ∃ m, k = m + 2 := ⟨k - 2, by omega⟩
    refine ⟨false, ?_, fun _ j s h2 _ hs => by rw [List.getElem?_eq_none (by omega)] at hs; cases hs⟩
    rw [hoardlaw9_heavy.l0, if_neg (by omega), hoardlaw9_heavy.j1, if_neg (by decide)]
  | succ d ih =>
    intro k i h1 hd hk
    obtain ⟨k, rfl⟩ : ∃ m, k = m + 2 := ⟨k - 2, by omega⟩
    have hi : i < l.length := by omega
    by_cases h3 : (i : Int) < 300
    · by_cases h6 : ((rdOf ByteArray.empty l (i : Int)).size : Int) > 60
      · refine ⟨true, ?_, by simp⟩
        rw [hoardlaw9_heavy.l0, if_pos (by omega), hoardlaw9_heavy.j1, if_pos (by simpa using h3), if_pos (by omega), if_pos (by omega), if_pos h6]
      · obtain ⟨r, hr, hrr⟩ := ih k (i + 1) (by omega) (by omega) (by omega)
        refine ⟨r, ?_, fun hf j s h2 hj hs => ?_⟩
        · rw [hoardlaw9_heavy.l0, if_pos (by omega), hoardlaw9_heavy.j1, if_pos (by simpa using h3), if_pos (by omega), if_pos (by omega), if_neg h6]
          have : wrap64 ((i : Int) + 1) = ((i + 1 : Nat) : Int) := by unfold wrap64; omega
          rw [this]; exact hr
        · by_cases e : j = i
          · subst e
            have : rdOf ByteArray.empty l (j : Int) = s := by simp [rdOf, List.getD_eq_getElem?_getD, hs]
            rw [this] at h6
            omega
          · exact hrr hf j s (by omega) hj hs
    · refine ⟨false, ?_, fun _ j s h2 hj _ => by omega⟩
      rw [hoardlaw9_heavy.l0, if_pos (by omega), hoardlaw9_heavy.j1, if_neg (by simpa using h3)]

theorem kd_of {w : World} {A : Option Addr} {l : List ByteArray} (h : RStr w A l) : Kd.C Kd.string w A l.length l := by
  refine ⟨rfl, by have := h.len; omega, fun h0 => ?_⟩
  obtain ⟨b, o, rfl, -⟩ := h.get 0 _ (List.getElem?_eq_getElem h0)
  refine ⟨_, rfl, fun j p hp => ⟨[.string p], rfl, rfl, fun i u hu => ?_⟩⟩
  obtain ⟨b', o', he, hc⟩ := h.get j p hp
  cases he
  cases i with
  | zero =>
    cases hu
    rw [K.add_plain]
    show w.cell? ⟨b, o + (j * 1 + 0), none⟩ = _
    rw [Nat.mul_one, Nat.add_zero]; exact hc
  | succ i => simp at hu

theorem plays_any (rate c : Int) (A : Option Addr) (cap : Nat) (l : List ByteArray) (w : World) (hl : RStr w A l) (hcap : l.length ≤ cap) :
    Calls Try.prog 11 #[.int .i64 rate, .slice A l.length cap, .int .i64 c] w fun e w' => e = .returned (.bool true) ∧ Below w.heap.size w w' := by
  obtain ⟨r, hr, hs⟩ := heavy_tells l hl.len l.length (2 * l.length + 2) 0 (by omega) (by omega) (by omega)
  have hh : ∀ w1, RStr w1 A l → Calls Try.prog 29 #[.slice A l.length cap] w1 fun e w' => e = .returned (.bool r) ∧ ∃ k, w' = w1.drewN k := fun w1 h1 =>
    (hoardlaw9_heavy.calls (2 * l.length + 2) A cap l r w1 (kd_of h1) hcap hr).mono fun _ _ ⟨he, ⟨n, hn⟩⟩ => ⟨he, n, hn⟩
  cases r with
  | true =>
    go_enter Try.func11, Try.ntmps11
    go_wp2_with fail
    refine (hh _ hl).mono ?_
    rintro e w0 ⟨rfl, n0, rfl⟩
    go_wp2
    go_ret
    exact ⟨rfl, below_drewN (Below.refl _ _) _⟩
  | false => exact plays_calls rate c A cap l w hl.get (fun i s hi his => hs rfl i s (by omega) hi his) (hh w hl)

end Go.Proofs.Ytonighgdfcomoaa.Sm
