/- The number of a text, and a place: walked by hand. -/
import Derived.Test.YtkeicfajlmhajaaGreatK
import Derived.Test.YtkeicfajlmhajaaGreatProg
import Derived.Lib.Hide
import Derived.IntWalk
namespace Go.Proofs.YtkeicfajlmhajaaGreat.Hb
open Go Go.RowKit Go.Proofs.YtkeicfajlmhajaaGreat.K

theorem bits_range (x y : Int) : 0 ≤ Go.bits .xor .u64 x y ∧ Go.bits .xor .u64 x y < 18446744073709551616 := by
  unfold Go.bits
  simp only [IntKind.wrap_u64]
  omega

def m1 (x : Int) : Int := IntKind.u64.wrap (Go.bits .xor .u64 x (x / 1073741824) * 13787848793156543929)
def m2 (x : Int) : Int := IntKind.u64.wrap (Go.bits .xor .u64 x (x / 134217728) * 10723151780598845931)
def mixv (x : Int) : Int := Go.bits .xor .u64 (m2 (m1 x)) (m2 (m1 x) / 2147483648)

theorem mixv_spec (x : Int) : (0 ≤ mixv x ∧ mixv x < 18446744073709551616) ∧ ∀ w, Calls Tryz.prog 118 #[.int .u64 x] w fun e w' => e = .returned (.int .u64 (mixv x)) ∧ w = w' := by
  refine ⟨bits_range _ _, fun w => ?_⟩
  have hm : Hid (mixv x = Go.bits .xor .u64 (m2 (m1 x)) (m2 (m1 x) / 2147483648)) := Lib.hid rfl
  go_enter Tryz.func118, Tryz.ntmps118
  go_wp2
  go_ret
  exact ⟨by rw [hm.out]; unfold m2 m1; rfl, rfl⟩

/-- So many bytes are mixed in. -/
def hk (seed : Int) (s : ByteArray) : Nat → Int
  | 0 => mixv (Go.bits .xor .u64 seed (IntKind.u64.wrap (s.size : Int)))
  | k + 1 => mixv (IntKind.u64.wrap (Go.bits .xor .u64 (hk seed s k) (IntKind.u64.wrap ((s.data.toList.getD k 0).toNat : Int)) + 11400714819323198485))
/-- The number of a text. -/
def HF (seed : Int) (s : ByteArray) : Int := hk seed s s.size

theorem hk_range (seed : Int) (s : ByteArray) : ∀ k, 0 ≤ hk seed s k ∧ hk seed s k < 18446744073709551616
  | 0 => (mixv_spec _).1
  | _ + 1 => (mixv_spec _).1

theorem hk_succ (seed : Int) (s : ByteArray) (k : Nat) (h : k < s.size) : hk seed s (k + 1) = mixv (IntKind.u64.wrap (Go.bits .xor .u64 (hk seed s k) (IntKind.u64.wrap ((s[k].toNat : Nat) : Int)) + 11400714819323198485)) := by
  have e : s.data.toList.getD k 0 = s[k] := by
    rw [List.getD_eq_getElem?_getD, Array.getElem?_toList, Array.getElem?_eq_getElem h]; rfl
  rw [hk, e]

theorem hash_any (seed : Int) (s : ByteArray) (hn : s.size ≤ 140737488351232) (w : World) :
    Calls Tryz.prog 113 #[.int .u64 seed, .string s] w fun e w' => e = .returned (.int .u64 (HF seed s)) ∧ w = w' := by
  have M0 := Lib.hid (mixv_spec (Go.bits .xor .u64 seed (IntKind.u64.wrap (s.size : Int)))).2
  have h0 : Hid (hk seed s 0 = mixv (Go.bits .xor .u64 seed (IntKind.u64.wrap (s.size : Int)))) := Lib.hid rfl
  have ew : IntKind.u64.wrap (s.size : Int) = (s.size : Int) := by simp only [IntKind.wrap_u64]; omega
  rw [ew] at M0 h0
  clear ew
  go_enter Tryz.func113, Tryz.ntmps113
  go_wp2_with fail
  refine (M0.out _).mono ?_
  rintro e w1 ⟨rfl, rfl⟩
  rw [← h0.out]
  go_wp2_with fail
  go_loop [5, 15] (fun v5 v15 => ∃ k : Nat, k ≤ s.size ∧ v15 = .int .i64 k ∧ v5 = .int .u64 (hk seed s k)) (fun v5 v15 => s.size - (intOf v15).toNat)
  case atStart => exact ⟨0, by omega, rfl, rfl⟩
  case round =>
    obtain ⟨k, hk', rfl, rfl⟩ := hrel
    by_cases hlt : k < s.size
    · have h1 := Lib.hid (hk_succ seed s k hlt)
      have M1 := Lib.hid (mixv_spec (IntKind.u64.wrap (Go.bits .xor .u64 (hk seed s k) (IntKind.u64.wrap ((s[k].toNat : Nat) : Int)) + 11400714819323198485))).2
      generalize hk seed s k = h at *
      go_wp2_with fail
      refine (M1.out _).mono ?_
      rintro e w1 ⟨rfl, rfl⟩
      rw [← h1.out]
      go_wp2_with fail
      go_round
      case rel => exact ⟨k + 1, by omega, by go_num, rfl⟩
      case measure => simp [intOf]; omega
    · obtain rfl : k = s.size := by omega
      go_wp2_with fail
      go_ret
      exact ⟨rfl, rfl⟩

/-- A place among n. -/
def pl (seed : Int) (s : ByteArray) (n : Nat) : Nat := (HF seed s).toNat % n

theorem HF_range (seed : Int) (s : ByteArray) : 0 ≤ HF seed s ∧ HF seed s < 18446744073709551616 := hk_range seed s _

theorem place_any (h : Int) (n : Nat) (h0 : 0 ≤ h ∧ h < 18446744073709551616) (h1 : 1 ≤ n) (h2 : n ≤ 10000000) (w : World) :
    Calls Tryz.prog 112 #[.int .u64 h, .int .i64 (n : Int)] w fun e w' => e = .returned (.int .i64 ((h.toNat % n : Nat) : Int)) ∧ w = w' := by
  obtain ⟨m, rfl⟩ := Int.eq_ofNat_of_zero_le h0.1
  have e1 : IntKind.u64.wrap (n : Int) = (n : Int) := by simp only [IntKind.wrap_u64]; omega
  have e2 : wrap64 (Int.tmod (m : Int) (n : Int)) = ((m % n : Nat) : Int) := by
    have : Int.tmod (m : Int) (n : Int) = ((m % n : Nat) : Int) := by rw [Int.tmod_eq_emod_of_nonneg (by omega)]; simp
    rw [this]
    have := Nat.mod_lt m (show n > 0 by omega)
    generalize m % n = r at *
    unfold wrap64; omega
  have hlt := Nat.mod_lt m (show n > 0 by omega)
  have e3 : (m : Int) % (n : Int) = ((m % n : Nat) : Int) := by simp
  have E2 := Lib.hid e2
  have E3 := Lib.hid e3
  clear e2 e3
  rw [Int.toNat_natCast]
  go_enter Tryz.func112, Tryz.ntmps112
  go_wp2
  go_ret
  exact ⟨ret_int E3.out, rfl⟩

end Go.Proofs.YtkeicfajlmhajaaGreat.Hb
