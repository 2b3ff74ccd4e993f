/- The walks of the laws on package sample. -/
import Derived.Test.YtonighgdfcomoaaSm
import Derived.StillTailTactics
namespace Go.Proofs.Ytonighgdfcomoaa.Sm
open Go Go.RowKit Go.Proofs.Ytonighgdfcomoaa.K Go.Proofs.Ytonighgdfcomoaa.PSamplePlays Go.Proofs.YtonighgdfcomoaaW.PrintWords Go.Proofs.YtonighgdfcomoaaW.PrintMore

/-- A new sample at a rate that may be. -/
theorem new_at (rate : Int) (h0 : 0 ≤ rate) (h1 : rate ≤ 16777216) (w : World) :
    Calls Try.prog 14 #[.int .i64 rate] w fun e w' => e = .returned (.pointer (some ⟨w.heap.size, 0, none⟩)) ∧
      SRep w' w.heap.size rate 0 0 ∧ Below w.heap.size w w' := by
  have e : clamp rate 0 16777216 = rate := by unfold clamp; omega
  have := new_calls rate w
  rw [e] at this
  exact this

theorem room_at (b : Nat) (c r a t : Int) (w : World) (n : Nat) (h : SRep w b r a t) (hr0 : 0 ≤ r) (hr1 : r ≤ 16777216) :
    Calls Try.prog 15 #[.pointer (some ⟨b, 0, none⟩), .int .i64 c] (w.drewN n) fun e w' => e = .returned (.int .i64 (room c r)) ∧ ∃ k, w' = w.drewN k :=
  (room_calls b c r a t (w.drewN n) h hr0 hr1).mono fun _ _ ⟨he, k, hk⟩ => ⟨he, n + k, by rw [hk, World.drewN_drewN]⟩

theorem rate_at (b : Nat) (r a t : Int) (w : World) (n : Nat) (h : SRep w b r a t) :
    Calls Try.prog 33 #[.pointer (some ⟨b, 0, none⟩)] (w.drewN n) fun e w' => e = .returned (.int .i64 r) ∧ w' = w.drewN n := rate_calls b r a t (w.drewN n) h

theorem known_calls (w : World) : Calls Try.prog 13 #[] w fun e w' => e = .returned (.bool true) ∧ Below w.heap.size w w' := by
  have r1 : room 100 8388608 = 50 := by decide
  have r2 : room 1 8388608 = 1 := by decide
  go_enter Try.func13, Try.ntmps13
  go_wp2_with (first
    | (go_at_call 14; refine (new_at _ (by decide) (by decide) _).mono ?_; rintro e w1 ⟨rfl, hs, hb⟩; have HS := Lib.hid hs; have HB := Lib.hid hb; clear hs hb)
    | (go_at_call 15; first | ((with_reducible refine (room_calls _ 100 _ _ _ _ HS.out (by decide) (by decide)).mono ?_); rintro e w2 ⟨rfl, n, rfl⟩) | ((with_reducible refine (room_at _ 1 _ _ _ _ _ HS.out (by decide) (by decide)).mono ?_); rintro e w2 ⟨rfl, n, rfl⟩))
    | (go_at_call 33; refine (rate_at _ _ _ _ _ _ HS.out).mono ?_; rintro e w2 ⟨rfl, rfl⟩))
  go_ret
  exact ⟨rfl, below_drewN HB.out _⟩

theorem SRep.below {w w' : World} {b : Nat} {r a t : Int} (h : SRep w b r a t) (hb : Below w.heap.size w w') : SRep w' b r a t :=
  (hb.block b (lt_of_block h)).trans h

theorem room_mono (c d r s : Int) (hc : 0 ≤ c) (hcd : c ≤ d) (hd : d ≤ 1024) (hr : 0 ≤ r) (hrs : r ≤ s) : room c r ≤ room d s := by
  have e1 : clamp c 0 1024 = c := by unfold clamp; omega
  have e2 : clamp d 0 1024 = d := by unfold clamp; omega
  unfold room
  rw [e1, e2]
  have := Int.mul_le_mul hcd hrs hr (by omega)
  omega
theorem room_le (c r : Int) (hc : 1 ≤ c) (hd : c ≤ 1024) (hr : r ≤ 16777216) : room c r ≤ c := by
  have e1 : clamp c 0 1024 = c := by unfold clamp; omega
  unfold room
  rw [e1]
  have := Int.mul_le_mul_of_nonneg_left hr (show 0 ≤ c by omega)
  omega
theorem room_pos (c r : Int) : 1 ≤ room c r := by unfold room; omega

theorem rooms_calls (r m c d : Int) (w : World) : Calls Try.prog 3 #[.int .i64 r, .int .i64 m, .int .i64 c, .int .i64 d] w fun e w' => e = .returned (.bool true) ∧ Below w.heap.size w w' := by
  by_cases h : r < 0 ∨ m < r ∨ 16777216 < m ∨ c < 1 ∨ d < c ∨ 1024 < d
  · by_cases h1 : r < 0
    · go_enter Try.func3, Try.ntmps3
      go_wp2_with (go_at_call 13; refine (known_calls _).mono ?_; rintro e w1 ⟨rfl, hb⟩)
      go_ret
      exact ⟨rfl, hb⟩
    by_cases h2 : m < r
    · clear h
      go_enter Try.func3, Try.ntmps3
      go_wp2_with (go_at_call 13; refine (known_calls _).mono ?_; rintro e w1 ⟨rfl, hb⟩)
      go_ret
      exact ⟨rfl, hb⟩
    by_cases h3 : 16777216 < m
    · clear h
      go_enter Try.func3, Try.ntmps3
      go_wp2_with (go_at_call 13; refine (known_calls _).mono ?_; rintro e w1 ⟨rfl, hb⟩)
      go_ret
      exact ⟨rfl, hb⟩
    by_cases h4 : c < 1
    · clear h
      go_enter Try.func3, Try.ntmps3
      go_wp2_with (go_at_call 13; refine (known_calls _).mono ?_; rintro e w1 ⟨rfl, hb⟩)
      go_ret
      exact ⟨rfl, hb⟩
    by_cases h5 : d < c
    · clear h
      go_enter Try.func3, Try.ntmps3
      go_wp2_with (go_at_call 13; refine (known_calls _).mono ?_; rintro e w1 ⟨rfl, hb⟩)
      go_ret
      exact ⟨rfl, hb⟩
    have h6 : 1024 < d := by omega
    clear h
    go_enter Try.func3, Try.ntmps3
    go_wp2_with (go_at_call 13; refine (known_calls _).mono ?_; rintro e w1 ⟨rfl, hb⟩)
    go_ret
    exact ⟨rfl, hb⟩
  · have i1 : 0 ≤ r := by omega
    have i2 : r ≤ m := by omega
    have i3 : m ≤ 16777216 := by omega
    have i4 : 1 ≤ c := by omega
    have i5 : c ≤ d := by omega
    have i6 : d ≤ 1024 := by omega
    have k1 := room_pos c r
    have k2 := room_le c r i4 (by omega) (by omega)
    have k3 := room_mono c c r m (by omega) (by omega) (by omega) i1 i2
    have k4 := room_mono c d r r (by omega) i5 i6 i1 (by omega)
    clear h
    go_enter Try.func3, Try.ntmps3
    go_wp2_with fail
    refine (new_at _ (by omega) (by omega) _).mono ?_
    rintro e w1 ⟨rfl, hs, hb⟩
    go_wp2_with fail
    refine (new_at _ (by omega) (by omega) _).mono ?_
    rintro e w2 ⟨rfl, ht, hb2⟩
    have HS := Lib.hid (hs.below hb2)
    have HT := Lib.hid ht
    have HB := Lib.hid (hb.trans (hb2.mono hb.size))
    clear hs ht hb hb2
    go_wp2_with (first
      | (go_at_call 15; first
          | ((with_reducible refine (room_calls _ _ _ _ _ _ HS.out (by omega) (by omega)).mono ?_); rintro e w3 ⟨rfl, n, rfl⟩)
          | ((with_reducible refine (room_at _ _ _ _ _ _ _ HS.out (by omega) (by omega)).mono ?_); rintro e w3 ⟨rfl, n, rfl⟩)
          | ((with_reducible refine (room_at _ _ _ _ _ _ _ HT.out (by omega) (by omega)).mono ?_); rintro e w3 ⟨rfl, n, rfl⟩))
      | (go_at_call 13; refine (known_calls _).mono ?_; rintro e w4 ⟨rfl, hb⟩))
    go_ret
    exact ⟨rfl, (below_drewN HB.out _).trans (hb.mono HB.out.size)⟩

theorem SRep.upd {w w' : World} {b b' : Nat} {r a t : Int} (h : SRep w b r a t) (hb : Upd (· = b') w w') (hne : b ≠ b') : SRep w' b r a t := hb.get h hne

theorem takes_as (b : Nat) (key : ByteArray) (r a t : Int) (d : Bool) (w : World) (hd : taken key r = d) (hr : SRep w b r a t) (ha : 0 ≤ a) (ht : 0 ≤ t) (hn : key.size ≤ 140737488351232) :
    Calls Try.prog 28 #[.pointer (some ⟨b, 0, none⟩), .string key] w fun e w' => e = .returned (.bool d) ∧ (∃ a' t', SRep w' b r a' t' ∧ 0 ≤ a' ∧ 0 ≤ t') ∧ Upd (· = b) w w' :=
  (takes_calls b key r a t w hr ha ht hn).mono fun e w' ⟨he, h1, h2⟩ => ⟨by rw [he, hd], ⟨_, _, h1, inc_range _ _ ha, by split; exact inc_range _ _ ht; exact ht⟩, h2⟩

theorem taken_all (key : ByteArray) (hn : key.size ≤ 140737488351232) : taken key 16777216 = true := by
  unfold taken; have := HF_spec key 21 hn; exact decide_eq_true (by omega)
theorem taken_none (key : ByteArray) (hn : key.size ≤ 140737488351232) : taken key 0 = false := by
  unfold taken; have := HF_spec key 21 hn; exact decide_eq_false (by omega)
theorem taken_mono (key : ByteArray) (a b : Int) (hab : a ≤ b) (h : taken key a = true) : taken key b = true := by
  unfold taken at *; have := of_decide_eq_true h; exact decide_eq_true (by omega)
theorem room_whole (c : Int) : room c 16777216 = max 1 (min c 1024) := by unfold room clamp; omega
theorem room_none (c : Int) : room c 0 = 1 := by unfold room; omega

theorem all_calls (key : ByteArray) (c : Int) (w : World) (hn : key.size ≤ 140737488351232) :
    Calls Try.prog 10 #[.string key, .int .i64 c] w fun e w' => e = .returned (.bool true) ∧ Below w.heap.size w w' := by
  by_cases hk : 60 < key.size
  · go_enter Try.func10, Try.ntmps10
    go_wp2
    go_ret
    exact ⟨rfl, Below.refl _ _⟩
  · have R0 : (room c 0 == 1) = true := by rw [room_none]; rfl
    have T1 := Lib.hid (taken_all key hn)
    have T0 := Lib.hid (taken_none key hn)
    have rw1 := room_whole c
    obtain ⟨v, hv, hc⟩ : ∃ v, room c 16777216 = v ∧ (c ≤ 1 ∧ v = 1 ∨ 1 < c ∧ c ≤ 1024 ∧ v = c ∨ 1024 < c ∧ v = 1024) := ⟨_, rfl, by omega⟩
    have R1 : (room c 16777216 == v) = true := by rw [hv]; exact beq_self_eq_true v
    clear rw1 hv
    rcases hc with ⟨h1, rfl⟩ | ⟨h1, h2, rfl⟩ | ⟨h1, rfl⟩
    all_goals
      go_enter Try.func10, Try.ntmps10
      go_wp2_with fail
      refine (new_at _ (by omega) (by omega) _).mono ?_
      rintro e w1 ⟨rfl, hs, hb⟩
      go_wp2_with fail
      refine (new_at _ (by omega) (by omega) _).mono ?_
      rintro e w2 ⟨rfl, ht, hb2⟩
      go_wp2_with fail
      have hne := Nat.ne_of_lt (lt_of_block hs)
      have HB := Lib.hid (hb.trans (hb2.mono hb.size))
      have HBsz := hb.size
      have hs2 := hs.below hb2
      clear hs hb hb2
      refine (takes_as _ key _ _ _ _ _ T1.out hs2 (by omega) (by omega) hn).mono ?_
      rintro e w3 ⟨rfl, ⟨a1, t1, hs3, ha1, ht1⟩, hu3⟩
      have ht3 := ht.upd hu3 (Ne.symm hne)
      go_wp2_with fail
      refine (takes_as _ key _ _ _ _ _ T0.out ht3 (by omega) (by omega) hn).mono ?_
      rintro e w4 ⟨rfl, ⟨a2, t2, ht4, ha2, ht2⟩, hu4⟩
      have HS := Lib.hid (hs3.upd hu4 hne)
      have HT := Lib.hid ht4
      have HB4 := Lib.hid (Upd.onto (Upd.onto HB.out hu3 (Nat.le_refl _) (Nat.le_refl _)) hu4 (Nat.le_refl _) HBsz)
      clear hs2 ht hs3 ht3 ht4 hu3 hu4 hne HBsz
      go_wp2_with (first
        | (go_at_call 15; first
          | ((with_reducible refine (room_calls _ _ _ _ _ _ HS.out (by omega) (by omega)).mono ?_); rintro e w5 ⟨rfl, n, rfl⟩)
          | ((with_reducible refine (room_at _ _ _ _ _ _ _ HT.out (by omega) (by omega)).mono ?_); rintro e w5 ⟨rfl, n, rfl⟩))
        | (go_at_call 13; refine (known_calls _).mono ?_; rintro e w6 ⟨rfl, hb⟩))
      go_ret
      exact ⟨rfl, (below_drewN HB4.out _).trans (hb.mono HB4.out.size)⟩

theorem nil_calls (key : ByteArray) (w : World) : Calls Try.prog 12 #[.string key] w fun e w' => e = .returned (.bool true) ∧ Below w.heap.size w w' := by
  by_cases hk : 60 < key.size
  all_goals
    go_enter Try.func12, Try.ntmps12
    go_wp2_with (first | (go_at_call 13; refine (known_calls _).mono ?_; rintro e w6 ⟨rfl, hb⟩) | go_in)
    go_ret
    first
    | exact ⟨rfl, Below.refl _ _⟩
    | exact ⟨rfl, hb⟩

/-- Two samples, at their blocks. -/
def Two (B b1 b2 : Nat) (r1 r2 : Int) (W w : World) : Prop :=
  (∃ x y, SRep w b1 r1 x y ∧ 0 ≤ x ∧ 0 ≤ y) ∧ (∃ x y, SRep w b2 r2 x y ∧ 0 ≤ x ∧ 0 ≤ y) ∧ Below B W w

theorem Two.first {B b1 b2 : Nat} {r1 r2 : Int} {W w : World} (h : Two B b1 b2 r1 r2 W w) (key : ByteArray) (d : Bool) (hd : taken key r1 = d) (hn : key.size ≤ 140737488351232)
    (hne : b1 ≠ b2) (hB : B ≤ W.heap.size) (hb : B ≤ b1) :
    Calls Try.prog 28 #[.pointer (some ⟨b1, 0, none⟩), .string key] w fun e w' => e = .returned (.bool d) ∧ Two B b1 b2 r1 r2 W w' := by
  obtain ⟨⟨x, y, h1, hx, hy⟩, ⟨x', y', h2, hx', hy'⟩, hW⟩ := h
  refine (takes_as b1 key r1 x y d w hd h1 hx hy hn).mono ?_
  rintro e w' ⟨rfl, ⟨a', t', h3, ha, ht⟩, hu⟩
  exact ⟨rfl, ⟨a', t', h3, ha, ht⟩, ⟨x', y', h2.upd hu hne.symm, hx', hy'⟩, Upd.onto hW hu hB hb⟩

theorem Two.swap {B b1 b2 : Nat} {r1 r2 : Int} {W w : World} (h : Two B b1 b2 r1 r2 W w) : Two B b2 b1 r2 r1 W w := ⟨h.2.1, h.1, h.2.2⟩

theorem Two.second {B b1 b2 : Nat} {r1 r2 : Int} {W w : World} (h : Two B b1 b2 r1 r2 W w) (key : ByteArray) (d : Bool) (hd : taken key r2 = d) (hn : key.size ≤ 140737488351232)
    (hne : b1 ≠ b2) (hB : B ≤ W.heap.size) (hb : B ≤ b2) :
    Calls Try.prog 28 #[.pointer (some ⟨b2, 0, none⟩), .string key] w fun e w' => e = .returned (.bool d) ∧ Two B b1 b2 r1 r2 W w' :=
  (h.swap.first key d hd hn hne.symm hB hb).mono fun _ _ ⟨he, h'⟩ => ⟨he, h'.swap⟩

theorem always_calls (a b : Int) (key : ByteArray) (n : Int) (w : World) (hn : key.size ≤ 140737488351232) :
    Calls Try.prog 9 #[.int .i64 a, .int .i64 b, .string key, .int .i64 n] w fun e w' => e = .returned (.bool true) ∧ Below w.heap.size w w' := by
  by_cases h : 60 < key.size ∨ n < 1 ∨ 50 < n ∨ b < a
  · by_cases h1 : 60 < key.size
    · clear h
      go_enter Try.func9, Try.ntmps9
      go_wp2_with (go_at_call 13; refine (known_calls _).mono ?_; rintro e w1 ⟨rfl, hb⟩)
      go_ret
      exact ⟨rfl, hb⟩
    by_cases h2 : n < 1
    · clear h
      go_enter Try.func9, Try.ntmps9
      go_wp2_with (go_at_call 13; refine (known_calls _).mono ?_; rintro e w1 ⟨rfl, hb⟩)
      go_ret
      exact ⟨rfl, hb⟩
    by_cases h3 : 50 < n
    · clear h
      go_enter Try.func9, Try.ntmps9
      go_wp2_with (go_at_call 13; refine (known_calls _).mono ?_; rintro e w1 ⟨rfl, hb⟩)
      go_ret
      exact ⟨rfl, hb⟩
    have h4 : b < a := by omega
    clear h
    go_enter Try.func9, Try.ntmps9
    go_wp2_with (go_at_call 13; refine (known_calls _).mono ?_; rintro e w1 ⟨rfl, hb⟩)
    go_ret
    exact ⟨rfl, hb⟩
  · have i1 : key.size ≤ 60 := by omega
    have i2 : 1 ≤ n := by omega
    have i3 : n ≤ 50 := by omega
    have i4 : a ≤ b := by omega
    have hm := taken_mono key (clamp a 0 16777216) (clamp b 0 16777216) (by unfold clamp; omega)
    clear h
    go_enter Try.func9, Try.ntmps9
    go_wp2_with fail
    refine (new_calls _ _).mono ?_
    rintro e w1 ⟨rfl, hs, hb⟩
    go_wp2_with fail
    refine (new_calls _ _).mono ?_
    rintro e w2 ⟨rfl, ht, hb2⟩
    have hne := Nat.ne_of_lt (lt_of_block hs)
    have HBsz := hb.size
    have hT : Two w.heap.size w.heap.size w1.heap.size (clamp a 0 16777216) (clamp b 0 16777216) w w2 :=
      ⟨⟨0, 0, hs.below hb2, by omega, by omega⟩, ⟨0, 0, ht, by omega, by omega⟩, hb.trans (hb2.mono hb.size)⟩
    clear hs ht hb hb2
    generalize clamp a 0 16777216 = ra at *
    generalize clamp b 0 16777216 = rb at *
    have HN := Lib.hid hn
    have HI := Lib.hid i1
    clear hn
    cases hd : taken key ra
    · have HD := Lib.hid hd
      clear hd hm
      go_wp2_with fail
      refine (hT.first key _ HD.out HN.out hne (Nat.le_refl _) (Nat.le_refl _)).mono ?_
      rintro e w3 ⟨rfl, hT3⟩
      clear hT
      go_wp2_with fail
      go_loopw [12] (fun v wr => ∃ k : Nat, (k : Int) ≤ n ∧ v = .int .i64 k ∧ Two w.heap.size w.heap.size w1.heap.size ra rb w wr) (fun v _ => (n - intOf v).toNat)
      case atStart => exact ⟨0, by omega, rfl, hT3⟩
      case round =>
        clear hT3
        obtain ⟨k, hk, rfl, hT⟩ := hrel
        by_cases hlt : (k : Int) < n
        · go_wp2_with fail
          refine (hT.first key _ HD.out HN.out hne (Nat.le_refl _) (Nat.le_refl _)).mono ?_
          rintro e w4 ⟨rfl, hT4⟩
          go_wp2_with fail
          go_roundw
          case rel => exact ⟨k + 1, by omega, by go_num, hT4⟩
          case measure => simp [intOf]; omega
        · go_wp2_with (go_at_call 13; refine (known_calls _).mono ?_; rintro e w6 ⟨rfl, hb⟩)
          go_ret
          exact ⟨rfl, hT.2.2.trans (hb.mono hT.2.2.size)⟩
    · have HD := Lib.hid hd
      have HM := Lib.hid (hm hd)
      clear hd hm
      go_wp2_with fail
      refine (hT.first key _ HD.out HN.out hne (Nat.le_refl _) (Nat.le_refl _)).mono ?_
      rintro e w3 ⟨rfl, hT3⟩
      clear hT
      go_wp2_with fail
      go_loopw [12] (fun v wr => ∃ k : Nat, (k : Int) ≤ n ∧ v = .int .i64 k ∧ Two w.heap.size w.heap.size w1.heap.size ra rb w wr) (fun v _ => (n - intOf v).toNat)
      case atStart => exact ⟨0, by omega, rfl, hT3⟩
      case round =>
        clear hT3
        obtain ⟨k, hk, rfl, hT⟩ := hrel
        by_cases hlt : (k : Int) < n
        · go_wp2_with fail
          refine (hT.first key _ HD.out HN.out hne (Nat.le_refl _) (Nat.le_refl _)).mono ?_
          rintro e w4 ⟨rfl, hT4⟩
          go_wp2_with fail
          refine (hT4.second key _ HM.out HN.out hne (Nat.le_refl _) HBsz).mono ?_
          rintro e w5 ⟨rfl, hT5⟩
          go_wp2_with fail
          go_roundw
          case rel => exact ⟨k + 1, by omega, by go_num, hT5⟩
          case measure => simp [intOf]; omega
        · go_wp2_with (go_at_call 13; refine (known_calls _).mono ?_; rintro e w6 ⟨rfl, hb⟩)
          go_ret
          exact ⟨rfl, hT.2.2.trans (hb.mono hT.2.2.size)⟩

end Go.Proofs.Ytonighgdfcomoaa.Sm
