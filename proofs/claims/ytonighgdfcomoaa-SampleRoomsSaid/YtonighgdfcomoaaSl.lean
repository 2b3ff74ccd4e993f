/- The walks of the laws on package sample. -/
import Derived.Test.YtonighgdfcomoaaSm
import Derived.StillTailTactics
namespace Go.Proofs.Ytonighgdfcomoaa.Sm
open Go Go.RowKit Go.Proofs.Ytonighgdfcomoaa.K Go.Proofs.Ytonighgdfcomoaa.PSamplePlays Go.Proofs.YtonighgdfcomoaaW.PrintWords

/-- A new sample at a rate that may be. -/
theorem new_at (rate : Int) (h0 : 0 ≤ rate) (h1 : rate ≤ 16777216) (w : World) :
    Calls Try.prog 14 #[.int .i64 rate] w fun e w' => e = .returned (.pointer (some ⟨w.heap.size, 0, none⟩)) ∧
      SRep w' w.heap.size rate 0 0 ∧ Below w.heap.size w w' := by
  have e : clamp rate 0 16777216 = rate := by unfold clamp; omega
  have := new_calls rate w
  rw [e] at this
  exact this

theorem room_at (b : Nat) (c r a t : Int) (w : World) (n : Nat) (h : SRep w b r a t) (hr0 : 0 ≤ r) (hr1 : r ≤ 16777216) :
    Calls Try.prog 15 #[.pointer (some ⟨b, 0, none⟩), .int .i64 c] (w.drewN n) fun e w' => e = .returned (.int .i64 (room c r)) ∧ ∃ k, w' = w.drewN k :=
  (room_calls b c r a t (w.drewN n) h hr0 hr1).mono fun _ _ ⟨he, k, hk⟩ => ⟨he, n + k, by rw [hk, World.drewN_drewN]⟩

theorem rate_at (b : Nat) (r a t : Int) (w : World) (n : Nat) (h : SRep w b r a t) :
    Calls Try.prog 33 #[.pointer (some ⟨b, 0, none⟩)] (w.drewN n) fun e w' => e = .returned (.int .i64 r) ∧ w' = w.drewN n := rate_calls b r a t (w.drewN n) h

theorem known_calls (w : World) : Calls Try.prog 13 #[] w fun e w' => e = .returned (.bool true) ∧ Below w.heap.size w w' := by
  have r1 : room 100 8388608 = 50 := by decide
  have r2 : room 1 8388608 = 1 := by decide
  go_enter Try.func13, Try.ntmps13
  go_wp2_with (first
    | (go_at_call 14; refine (new_at _ (by decide) (by decide) _).mono ?_; rintro e w1 ⟨rfl, hs, hb⟩; have HS := Lib.hid hs; have HB := Lib.hid hb; clear hs hb)
    | (go_at_call 15; first | ((with_reducible refine (room_calls _ 100 _ _ _ _ HS.out (by decide) (by decide)).mono ?_); rintro e w2 ⟨rfl, n, rfl⟩) | ((with_reducible refine (room_at _ 1 _ _ _ _ _ HS.out (by decide) (by decide)).mono ?_); rintro e w2 ⟨rfl, n, rfl⟩))
    | (go_at_call 33; refine (rate_at _ _ _ _ _ _ HS.out).mono ?_; rintro e w2 ⟨rfl, rfl⟩))
  go_ret
  exact ⟨rfl, below_drewN HB.out _⟩

theorem SRep.below {w w' : World} {b : Nat} {r a t : Int} (h : SRep w b r a t) (hb : Below w.heap.size w w') : SRep w' b r a t :=
  (hb.block b (lt_of_block h)).trans h

theorem room_mono (c d r s : Int) (hc : 0 ≤ c) (hcd : c ≤ d) (hd : d ≤ 1024) (hr : 0 ≤ r) (hrs : r ≤ s) : room c r ≤ room d s := by
  have e1 : clamp c 0 1024 = c := by unfold clamp; omega
  have e2 : clamp d 0 1024 = d := by unfold clamp; omega
  unfold room
  rw [e1, e2]
  have := Int.mul_le_mul hcd hrs hr (by omega)
  omega
theorem room_le (c r : Int) (hc : 1 ≤ c) (hd : c ≤ 1024) (hr : r ≤ 16777216) : room c r ≤ c := by
  have e1 : clamp c 0 1024 = c := by unfold clamp; omega
  unfold room
  rw [e1]
  have := Int.mul_le_mul_of_nonneg_left hr (show 0 ≤ c by omega)
  omega
theorem room_pos (c r : Int) : 1 ≤ room c r := by unfold room; omega

theorem rooms_calls (r m c d : Int) (w : World) : Calls Try.prog 3 #[.int .i64 r, .int .i64 m, .int .i64 c, .int .i64 d] w fun e w' => e = .returned (.bool true) ∧ Below w.heap.size w w' := by
  by_cases h : r < 0 ∨ m < r ∨ 16777216 < m ∨ c < 1 ∨ d < c ∨ 1024 < d
  · by_cases h1 : r < 0
    · go_enter Try.func3, Try.ntmps3
      go_wp2_with (go_at_call 13; refine (known_calls _).mono ?_; rintro e w1 ⟨rfl, hb⟩)
      go_ret
      exact ⟨rfl, hb⟩
    by_cases h2 : m < r
    · clear h
      go_enter Try.func3, Try.ntmps3
      go_wp2_with (go_at_call 13; refine (known_calls _).mono ?_; rintro e w1 ⟨rfl, hb⟩)
      go_ret
      exact ⟨rfl, hb⟩
    by_cases h3 : 16777216 < m
    · clear h
      go_enter Try.func3, Try.ntmps3
      go_wp2_with (go_at_call 13; refine (known_calls _).mono ?_; rintro e w1 ⟨rfl, hb⟩)
      go_ret
      exact ⟨rfl, hb⟩
    by_cases h4 : c < 1
    · clear h
      go_enter Try.func3, Try.ntmps3
      go_wp2_with (go_at_call 13; refine (known_calls _).mono ?_; rintro e w1 ⟨rfl, hb⟩)
      go_ret
      exact ⟨rfl, hb⟩
    by_cases h5 : d < c
    · clear h
      go_enter Try.func3, Try.ntmps3
      go_wp2_with (go_at_call 13; refine (known_calls _).mono ?_; rintro e w1 ⟨rfl, hb⟩)
      go_ret
      exact ⟨rfl, hb⟩
    have h6 : 1024 < d := by omega
    clear h
    go_enter Try.func3, Try.ntmps3
    go_wp2_with (go_at_call 13; refine (known_calls _).mono ?_; rintro e w1 ⟨rfl, hb⟩)
    go_ret
    exact ⟨rfl, hb⟩
  · have i1 : 0 ≤ r := by omega
    have i2 : r ≤ m := by omega
    have i3 : m ≤ 16777216 := by omega
    have i4 : 1 ≤ c := by omega
    have i5 : c ≤ d := by omega
    have i6 : d ≤ 1024 := by omega
    have k1 := room_pos c r
    have k2 := room_le c r i4 (by omega) (by omega)
    have k3 := room_mono c c r m (by omega) (by omega) (by omega) i1 i2
    have k4 := room_mono c d r r (by omega) i5 i6 i1 (by omega)
    clear h
    go_enter Try.func3, Try.ntmps3
    go_wp2_with fail
    refine (new_at _ (by omega) (by omega) _).mono ?_
    rintro e w1 ⟨rfl, hs, hb⟩
    go_wp2_with fail
    refine (new_at _ (by omega) (by omega) _).mono ?_
    rintro e w2 ⟨rfl, ht, hb2⟩
    have HS := Lib.hid (hs.below hb2)
    have HT := Lib.hid ht
    have HB := Lib.hid (hb.trans (hb2.mono hb.size))
    clear hs ht hb hb2
    go_wp2_with (first
      | (go_at_call 15; first
          | ((with_reducible refine (room_calls _ _ _ _ _ _ HS.out (by omega) (by omega)).mono ?_); rintro e w3 ⟨rfl, n, rfl⟩)
          | ((with_reducible refine (room_at _ _ _ _ _ _ _ HS.out (by omega) (by omega)).mono ?_); rintro e w3 ⟨rfl, n, rfl⟩)
          | ((with_reducible refine (room_at _ _ _ _ _ _ _ HT.out (by omega) (by omega)).mono ?_); rintro e w3 ⟨rfl, n, rfl⟩))
      | (go_at_call 13; refine (known_calls _).mono ?_; rintro e w4 ⟨rfl, hb⟩))
    go_ret
    exact ⟨rfl, (below_drewN HB.out _).trans (hb.mono HB.out.size)⟩

end Go.Proofs.Ytonighgdfcomoaa.Sm
