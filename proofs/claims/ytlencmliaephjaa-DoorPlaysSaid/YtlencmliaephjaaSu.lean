/- The walks of the reference's sketch: New, Halve, Add. -/
import Derived.Test.YtlencmliaephjaaSr
namespace Go.Proofs.Ytlencmliaephjaa.Sr
open Go Go.RowKit Go.Proofs.Ytlencmliaephjaa.K Go.Proofs.Ytlencmliaephjaa.Ha Go.Proofs.Ytlencmliaephjaa.Sk

/-- The powers, from one. -/
def Pow1 (n : Nat) : Prop := n = 1 ∨ n = 2 ∨ n = 4 ∨ Sk.Pow n
theorem pow1_next {n : Nat} {c : Int} (h : Pow1 n) (hc : (n : Int) < c ∨ n < 8) (h2 : c ≤ 1024) : Pow1 (2 * n) ∧ 2 * n ≤ 1024 ∧ (2 * n ≤ 8 ∨ ((2 * n : Nat) : Int) < 2 * c) := by unfold Pow1 Sk.Pow at *; omega
theorem pow1_end {n : Nat} {c : Int} (h : Pow1 n) (hb : n ≤ 8 ∨ (n : Int) < 2 * c) (h8 : 8 ≤ n) (hc : ¬ (n : Int) < c) (h2 : c ≤ 1024) : n = pw c := by
  unfold Pow1 Sk.Pow at h
  unfold pw
  (repeat' split) <;> omega

theorem power8_any (room : Int) (w : World) :
    Calls Try.prog 44 #[.int .i64 room, .int .i64 8] w fun e w' => e = .returned (.int .i64 (pw (clamp room 1 1024) : Nat)) ∧ w' = w := by
  have hcl : clamp room 1 1024 = min (max room 1) 1024 := rfl
  have hc2 : clamp room 1 1024 ≤ 1024 := by unfold clamp; omega
  generalize clamp room 1 1024 = c at *
  have HC := Lib.hid hcl
  clear hcl
  go_enter Try.func44, Try.ntmps44
  go_wp2_with fail
  go_loop [5] (fun v5 => ∃ n : Nat, v5 = .int .i64 n ∧ Pow1 n ∧ (n ≤ 8 ∨ (n : Int) < 2 * c) ∧ n ≤ 1024) (fun v5 => 1024 - (intOf v5).toNat)
  case atStart => exact ⟨1, rfl, .inl rfl, .inl (by omega), by omega⟩
  case round =>
    obtain ⟨n, rfl, hp, hb, hn⟩ := hrel
    have HP := Lib.hid hp
    clear hp
    have hn1 : 1 ≤ n := by have h := HP.out; unfold Pow1 Sk.Pow at h; omega
    go_wp2_with fail
    all_goals
      first
        | (have e := HC.out
           have e2 := pow1_next (c := c) HP.out (by omega) hc2
           exact ⟨⟨2 * n, by go_num, e2.1, e2.2.2, e2.2.1⟩, by simp [intOf]; omega⟩)
        | (have e := HC.out
           go_ret
           exact ⟨ret_int (by rw [pow1_end (c := c) HP.out hb (by omega) (by omega) hc2]), rfl⟩)

theorem halve_rf (b c n : Nat) (C : List Nat) (sum : Int) (w : World) (h : Rf w b c n C sum) (h0 : 0 ≤ sum) (h1 : sum ≤ 4611686018427387904) :
    Calls Try.prog 31 #[.pointer (some ⟨b, 0, none⟩)] w fun e w' => e = .returned (.tuple #[]) ∧ Rf w' b c n (C.map (· / 2)) (sum / 2) ∧ Upd (BC b c) w w' := by
  have n2 := h.n2
  have hl := h.len
  have H := Lib.hid h
  clear h
  go_enter Try.func31, Try.ntmps31
  go_wp2_with fail
  go_loopw [2] (fun v2 wr => ∃ k : Nat, k ≤ 4 * n ∧ v2 = .int .i64 k ∧ Rf wr b c n (hv C k) sum ∧ Upd (BC b c) w wr) (fun v2 wr => 4 * n - (intOf v2).toNat)
  case atStart => exact ⟨0, by omega, rfl, by have := H.out; unfold hv; simpa using this, Upd.refl _ _⟩
  case round =>
    obtain ⟨k, hk, rfl, hs, hu⟩ := hrel
    have HS := Lib.hid hs
    have HU := Lib.hid hu
    obtain ⟨c0, c1, c2, fr⟩ := cells3 hs.obj
    clear hs hu
    by_cases hlt : k < 4 * n
    · have d := HS.out.cell k hlt
      have fc := free_of HS.out.row
      have hx := HS.out.small k
      have S := Lib.hid (HS.out.put k ((hv C k).getD k 0 / 2) (by omega))
      have HV := Lib.hid (hv_succ C k (by omega))
      generalize (hv C k).getD k 0 = x at *
      have e1 : wrap64 (((x : Int)).tdiv 2) = ((x / 2 : Nat) : Int) := by
        rw [Int.tdiv_eq_ediv_of_nonneg (by omega)]; unfold wrap64; omega
      have z0 : (0 : Int) ≤ (k : Int) := by omega
      have z1 : (k : Int) < ((4 * n : Nat) : Int) := by omega
      go_wp2_with fail
      go_region
      go_wp2_with fail
      go_roundw
      case rel => exact ⟨k + 1, by omega, by go_num, by rw [HV.out]; exact S.out.drewN 1, (HU.out.setCell (p := ⟨c, k, none⟩) (.inl (.inr rfl)) _).drew⟩
      case measure => simp [intOf]; omega
    · obtain rfl : k = 4 * n := by omega
      have e1 : wrap64 (sum.tdiv 2) = sum / 2 := by rw [Int.tdiv_eq_ediv_of_nonneg h0]; unfold wrap64; omega
      go_wp2_with fail
      go_end0
      have hh : hv C (4 * n) = C.map (· / 2) := by
        unfold hv
        rw [List.take_of_length_le (by omega), List.drop_of_length_le (by omega), List.append_nil]
      have hs3 := HS.out
      rw [hh] at hs3
      exact ⟨rfl, hs3.put_sum _, HU.out.setCell (p := ⟨b, 2, none⟩) (.inl (.inl rfl)) _⟩

end Go.Proofs.Ytlencmliaephjaa.Sr
