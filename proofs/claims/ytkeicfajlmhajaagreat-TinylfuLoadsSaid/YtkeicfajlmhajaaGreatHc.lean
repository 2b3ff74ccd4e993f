/- The reference's number of a text, and its place: they are the program's. -/
import Derived.Test.YtkeicfajlmhajaaGreatHa
namespace Go.Proofs.YtkeicfajlmhajaaGreat.Ha
open Go Go.RowKit Go.Proofs.YtkeicfajlmhajaaGreat.K Go.Proofs.YtkeicfajlmhajaaGreat.Hb

theorem mixr_spec (x : Int) : ∀ w, Calls Tryz.prog 119 #[.int .u64 x] w fun e w' => e = .returned (.int .u64 (mixv x)) ∧ w = w' := by
  intro w
  have hm : Hid (mixv x = Go.bits .xor .u64 (m2 (m1 x)) (m2 (m1 x) / 2147483648)) := Lib.hid rfl
  go_enter Tryz.func119, Tryz.ntmps119
  go_wp2
  go_ret
  exact ⟨by rw [hm.out]; unfold m2 m1; rfl, rfl⟩

theorem hash_ref (seed : Int) (s : ByteArray) (hn : s.size ≤ 140737488351232) (w : World) :
    Calls Tryz.prog 117 #[.int .u64 seed, .string s] w fun e w' => e = .returned (.int .u64 (Hb.HF seed s)) ∧ w = w' := by
  have M0 := Lib.hid (mixr_spec (Go.bits .xor .u64 seed (IntKind.u64.wrap (s.size : Int))))
  have h0 : Hid (hk seed s 0 = mixv (Go.bits .xor .u64 seed (IntKind.u64.wrap (s.size : Int)))) := Lib.hid rfl
  have ew : IntKind.u64.wrap (s.size : Int) = (s.size : Int) := by simp only [IntKind.wrap_u64]; omega
  rw [ew] at M0 h0
  clear ew
  go_enter Tryz.func117, Tryz.ntmps117
  go_wp2_with fail
  refine (M0.out _).mono ?_
  rintro e w1 ⟨rfl, rfl⟩
  rw [← h0.out]
  go_wp2_with fail
  go_loop [5, 6] (fun v5 v6 => ∃ k : Nat, k ≤ s.size ∧ v6 = .int .i64 k ∧ v5 = .int .u64 (hk seed s k)) (fun v5 v6 => s.size - (intOf v6).toNat)
  case atStart => exact ⟨0, by omega, rfl, rfl⟩
  case round =>
    obtain ⟨k, hk', rfl, rfl⟩ := hrel
    by_cases hlt : k < s.size
    · have h1 := Lib.hid (hk_succ seed s k hlt)
      have M1 := Lib.hid (mixr_spec (IntKind.u64.wrap (Go.bits .xor .u64 (hk seed s k) (IntKind.u64.wrap ((s[k].toNat : Nat) : Int)) + 11400714819323198485)))
      generalize hk seed s k = h at *
      go_wp2_with fail
      refine (M1.out _).mono ?_
      rintro e w1 ⟨rfl, rfl⟩
      rw [← h1.out]
      go_wp2_with fail
      go_round
      case rel => exact ⟨k + 1, by omega, by go_num, rfl⟩
      case measure => simp [intOf]; omega
    · obtain rfl : k = s.size := by omega
      go_wp2_with fail
      go_ret
      exact ⟨rfl, rfl⟩

theorem hash_any2 {seed h : Int} {key : ByteArray} (hh : Hs seed key h) (w : World) :
    Calls Tryz.prog 117 #[.int .u64 seed, .string key] w fun e w' => e = .returned (.int .u64 h) ∧ ∃ m, w' = w.drewN m :=
  (hash_ref seed key hh.2 w).mono fun _ _ ⟨he, hn⟩ => ⟨by rw [he, hh.1], 0, hn.symm⟩

theorem place_any2 (h : Int) (n : Nat) (h0 : 0 ≤ h ∧ h < 18446744073709551616) (h1 : 1 ≤ n) (h2 : n ≤ 65536) (w : World) :
    Calls Tryz.prog 116 #[.int .u64 h, .int .i64 (n : Int)] w fun e w' => e = .returned (.int .i64 ((h.toNat % n : Nat) : Int)) ∧ ∃ m, w' = w.drewN m := by
  obtain ⟨m, rfl⟩ := Int.eq_ofNat_of_zero_le h0.1
  have e1 : IntKind.u64.wrap (n : Int) = (n : Int) := by simp only [IntKind.wrap_u64]; omega
  have e2 : wrap64 (Int.tmod (m : Int) (n : Int)) = ((m % n : Nat) : Int) := by
    have : Int.tmod (m : Int) (n : Int) = ((m % n : Nat) : Int) := by rw [Int.tmod_eq_emod_of_nonneg (by omega)]; simp
    rw [this]
    have := Nat.mod_lt m (show n > 0 by omega)
    generalize m % n = r at *
    unfold wrap64; omega
  have hlt := Nat.mod_lt m (show n > 0 by omega)
  have e3 : (m : Int) % (n : Int) = ((m % n : Nat) : Int) := by simp
  have E2 := Lib.hid e2
  have E3 := Lib.hid e3
  clear e2 e3
  rw [Int.toNat_natCast]
  go_enter Tryz.func116, Tryz.ntmps116
  go_wp2
  go_ret
  exact ⟨ret_int E3.out, 0, rfl⟩

end Go.Proofs.YtkeicfajlmhajaaGreat.Ha
