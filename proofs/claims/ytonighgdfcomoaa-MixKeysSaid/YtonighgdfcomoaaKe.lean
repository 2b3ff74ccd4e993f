/- The walks of mix.Key and of its reference, and of the law MixKeys. -/
import Derived.Test.YtonighgdfcomoaaK
import Derived.Test.YtonighgdfcomoaaShelf
import Derived.Test.YtonighgdfcomoaaPMixPlacesx1
import Derived.Lib.Hide
namespace Go.Proofs.Ytonighgdfcomoaa.Ke
open Go Go.RowKit Go.Proofs.Ytonighgdfcomoaa.K

/-- May a byte stand in a key? -/
def kb (c : Int) : Prop := (97 ≤ c ∧ c ≤ 122) ∨ (65 ≤ c ∧ c ≤ 90) ∨ (48 ≤ c ∧ c ≤ 57) ∨ c = 95 ∨ c = 45 ∨ c = 46 ∨ c = 47 ∨ c = 58
instance (c : Int) : Decidable (kb c) := by unfold kb; infer_instance

/-- Is a text a key? -/
def Good (s : ByteArray) : Prop := 1 ≤ s.size ∧ s.size ≤ 24 ∧ ∀ j (h : j < s.size), kb (s[j].toNat : Int)

set_option maxRecDepth 20000 in
theorem ib_all : ∀ u : Fin 256, (Lib.indexByte [95, 45, 46, 47, 58] u.val.toUInt8 < 0) ↔ ¬ (u.val = 95 ∨ u.val = 45 ∨ u.val = 46 ∨ u.val = 47 ∨ u.val = 58) := by decide

theorem ib_calls (c : Int) (h0 : 0 ≤ c) (h1 : c ≤ 255) (w : World) : ∃ r : Int, (r < 0 ↔ ¬ (c = 95 ∨ c = 45 ∨ c = 46 ∨ c = 47 ∨ c = 58)) ∧
    Calls Try.prog 36 #[.string ⟨#[95, 45, 46, 47, 58]⟩, .int .u8 c] w fun e w' => e = .returned (.int .i64 r) ∧ w' = w := by
  refine ⟨_, ?_, Try.strings_IndexByte _ c w⟩
  have := ib_all ⟨c.toNat, by omega⟩
  simp only at this
  rw [this]
  omega

def KeyPost (s : ByteArray) (w : World) (e : Ending) (w' : World) : Prop := ∃ b : Bool, e = .returned (.bool b) ∧ (b = true ↔ Good s) ∧ w' = w

set_option maxHeartbeats 8000000 in
theorem key_calls (s : ByteArray) (w : World) : Calls Try.prog 26 #[.string s] w (KeyPost s w) := by
  by_cases h1 : s.size < 1
  · go_enter Try.func26, Try.ntmps26
    go_wp2
    go_ret
    exact ⟨false, rfl, by unfold Good; simp; omega, rfl⟩
  by_cases h2 : 24 < s.size
  · go_enter Try.func26, Try.ntmps26
    go_wp2
    go_ret
    exact ⟨false, rfl, by unfold Good; simp; omega, rfl⟩
  go_enter Try.func26, Try.ntmps26
  go_wp2_with fail
  go_loop [15] (fun v => ∃ k : Nat, k ≤ s.size ∧ v = .int .i64 k ∧ Hid (∀ j (h : j < s.size), j < k → kb (s[j].toNat : Int))) (fun v => s.size - (intOf v).toNat)
  case atStart => exact ⟨0, by omega, rfl, fun j h hj => by omega⟩
  case round =>
    obtain ⟨k, hk, rfl, hall⟩ := hrel
    by_cases hlt : k < s.size
    · have hr : s[k].toNat ≤ 255 := by have := s[k].toNat_lt; omega
      obtain ⟨r, hr1, hc⟩ := ib_calls (s[k].toNat : Int) (by omega) (by omega) w
      have HC := Lib.hid hc
      have HR := Lib.hid hr1
      clear hc hr1
      go_wp2_with (go_at_call 36; refine HC.out.mono ?_; rintro e w' ⟨rfl, rfl⟩)
      all_goals
        have hR := HR.out
        clear HC HR
        first
        | (refine ⟨⟨k + 1, by omega, by go_num, ?_⟩, by simp [intOf]; omega⟩
           have hk1 : kb (s[k].toNat : Int) := by unfold kb; omega
           intro j hj hjk
           by_cases e : j = k
           · subst e; exact hk1
           · exact hall.out j hj (by omega))
        | (go_ret
           refine ⟨false, rfl, ?_, rfl⟩
           simp only [Bool.false_eq_true, false_iff]
           intro hg
           have hk1 := hg.2.2 k hlt
           unfold kb at hk1
           omega)
    · go_wp2
      go_ret
      refine ⟨true, rfl, ?_, rfl⟩
      simp only [true_iff]
      exact ⟨by omega, by omega, fun j h => hall.out j h (by omega)⟩

set_option maxHeartbeats 8000000 in
theorem key_calls2 (s : ByteArray) (hs : s.size ≤ 200) (w : World) : Calls Try.prog 27 #[.string s] w (KeyPost s w) := by
  go_enter Try.func27, Try.ntmps27
  go_wp2_with fail
  go_loop [3] (fun v => ∃ k : Nat, k ≤ s.size ∧ k ≤ 25 ∧ v = .int .i64 k ∧ Hid (∀ j (h : j < s.size), j < k → kb (s[j].toNat : Int))) (fun v => s.size - (intOf v).toNat)
  case atStart => exact ⟨0, by omega, by omega, rfl, fun j h hj => by omega⟩
  case round =>
    obtain ⟨k, hk, hk25, rfl, hall⟩ := hrel
    by_cases hlt : k < s.size
    · by_cases h24 : (k : Int) ≤ 24
      · have hr : s[k].toNat ≤ 255 := by have := s[k].toNat_lt; omega
        go_wp2
        all_goals
          simp only [Bool.not_eq_true', Bool.not_eq_false', bne_iff_ne, ne_eq, bne_eq_false_iff_eq, decide_eq_true_eq, decide_eq_false_iff_not] at *
          first
          | (refine ⟨⟨k + 1, by omega, by omega, by go_num, ?_⟩, by simp [intOf]; omega⟩
             have hk1 : kb (s[k].toNat : Int) := by unfold kb; omega
             intro j hj hjk
             by_cases e : j = k
             · subst e; exact hk1
             · exact hall.out j hj (by omega))
          | (go_ret
             refine ⟨false, rfl, ?_, rfl⟩
             simp only [Bool.false_eq_true, false_iff]
             intro hg
             have hk1 := hg.2.2 k hlt
             unfold kb at hk1
             omega)
      · have hd : decide ((s.size : Int) ≤ 24) = false := by simp; omega
        go_wp2
        all_goals
          go_ret
          refine ⟨false, rfl, ?_, rfl⟩
          simp only [Bool.false_eq_true, false_iff]
          intro hg
          have := hg.2.1
          omega
    · by_cases h1 : s.size < 1
      · have hd : decide (1 ≤ (s.size : Int)) = false := by simp; omega
        go_wp2
        all_goals
          go_ret
          exact ⟨false, rfl, by unfold Good; simp; omega, rfl⟩
      by_cases h2 : 24 < s.size
      · have hd : decide ((s.size : Int) ≤ 24) = false := by simp; omega
        go_wp2
        all_goals
          go_ret
          exact ⟨false, rfl, by unfold Good; simp; omega, rfl⟩
      have hd1 : decide (1 ≤ (s.size : Int)) = true := by simp; omega
      have hd2 : decide ((s.size : Int) ≤ 24) = true := by simp; omega
      go_wp2
      all_goals
        go_ret
        refine ⟨true, rfl, ?_, rfl⟩
        simp only [true_iff]
        exact ⟨by omega, by omega, fun j h => hall.out j h (by omega)⟩

theorem known_any (w : World) : Calls Try.prog 20 #[] w fun e w' => e = .returned (.bool true) ∧ ∃ k, w' = w.drewN k :=
  (PMixPlaces.hoardlaw1_known.calls 2 true w (by kernel_rfl)).mono fun _ _ ⟨he, ⟨n, hn⟩⟩ => ⟨he, n, hn⟩

theorem keys_calls (s : ByteArray) (w : World) : Calls Try.prog 8 #[.string s] w fun e w' => e = .returned (.bool true) ∧ Below w.heap.size w w' := by
  by_cases h1 : 200 < s.size
  · go_enter Try.func8, Try.ntmps8
    go_wp2
    go_ret
    exact ⟨rfl, Below.refl _ _⟩
  · go_enter Try.func8, Try.ntmps8
    go_wp2_with fail
    refine (key_calls s _).mono ?_
    rintro e w1 ⟨b1, rfl, g1, rfl⟩
    have G1 := Lib.hid g1
    clear g1
    go_wp2_with fail
    refine (key_calls2 s (by omega) _).mono ?_
    rintro e w2 ⟨b2, rfl, g2, rfl⟩
    have e : b1 = b2 := by
      have g1 := G1.out
      cases b1 <;> cases b2 <;> simp_all
    clear g2 G1
    subst e
    go_wp2_with (go_at_call 20; refine (known_any _).mono ?_; rintro e w3 ⟨rfl, n, rfl⟩)
    go_ret
    exact ⟨rfl, below_drewN (Below.refl _ _) _⟩

end Go.Proofs.Ytonighgdfcomoaa.Ke
