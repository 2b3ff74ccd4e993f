/- The number of a text, and a place. -/
import Derived.Test.YtlencmliaephjaaK
import Derived.Test.YtlencmliaephjaaPSketchPlaysx1
import Derived.Lib.Hide
namespace Go.Proofs.Ytlencmliaephjaa.Ha
open Go Go.RowKit Go.Proofs.Ytlencmliaephjaa.K Go.Proofs.Ytlencmliaephjaa.PSketchPlays Go.Proofs.YtlencmliaephjaaW.PrintWords

/-- The number of a text, as the program's own loop tells it. -/
def HF (seed : Int) (s : ByteArray) : Int := (mix_Hash.f (s.size + 1) seed s).getD 0

theorem bits_range (x y : Int) : 0 ≤ Go.bits .xor .u64 x y ∧ Go.bits .xor .u64 x y < 18446744073709551616 := by
  unfold Go.bits
  simp only [IntKind.wrap_u64]
  omega

theorem mix_both (x : Int) : ∃ r, mix_Mix.f x = some r ∧ hoardref1_Mix.f x = some r ∧ 0 ≤ r ∧ r < 18446744073709551616 :=
  ⟨_, rfl, rfl, (bits_range _ _).1, (bits_range _ _).2⟩

theorem loops (s : ByteArray) (hn : s.size ≤ 140737488351232) (d : Nat) : ∀ (k : Nat) (h i : Int), 0 ≤ h → h < 18446744073709551616 → 0 ≤ i → i ≤ s.size → (s.size : Int) - i = d → d < k →
    ∃ r, mix_Hash.l0 k s h (s.size : Int) i = some r ∧ hoardref1_Hash.l0 k s h i = some r ∧ 0 ≤ r ∧ r < 18446744073709551616 := by
  induction d with
  | zero =>
    intro k h i hh0 hh1 h0 h1 hd hk
    obtain ⟨k, rfl⟩ : ∃ m, k = m + 1 := ⟨k - 1, by omega⟩
    refine ⟨h, ?_, ?_, hh0, hh1⟩
    · simp only [mix_Hash.l0]; rw [if_neg (by omega)]
    · simp only [hoardref1_Hash.l0]; rw [if_neg (by omega)]
  | succ d ih =>
    intro k h i hh0 hh1 h0 h1 hd hk
    obtain ⟨k, rfl⟩ : ∃ m, k = m + 1 := ⟨k - 1, by omega⟩
    obtain ⟨t, ht, ht', t0, t1⟩ := mix_both (IntKind.u64.wrap ((Go.bits .xor .u64 h (IntKind.u64.wrap (bt s i))) + 11400714819323198485))
    have hw : wrap64 (i + 1) = i + 1 := by unfold wrap64; omega
    obtain ⟨r, hr, hr', hrr⟩ := ih k t (i + 1) t0 t1 (by omega) (by omega) (by omega) (by omega)
    refine ⟨r, ?_, ?_, hrr⟩
    · simp only [mix_Hash.l0]; rw [if_pos (by omega), if_pos h0, if_pos (by omega), ht]; simp only [Option.bind_some]; rw [hw]; exact hr
    · simp only [hoardref1_Hash.l0]; rw [if_pos (by omega), if_pos h0, ht']; simp only [Option.bind_some]; rw [hw]; exact hr'

theorem HF_spec (s : ByteArray) (seed : Int) (hn : s.size ≤ 140737488351232) :
    mix_Hash.f (s.size + 1) seed s = some (HF seed s) ∧ hoardref1_Hash.f (s.size + 1) seed s = some (HF seed s) ∧ 0 ≤ HF seed s ∧ HF seed s < 18446744073709551616 := by
  obtain ⟨t, ht, ht', t0, t1⟩ := mix_both (Go.bits .xor .u64 seed (IntKind.u64.wrap ((s.size : Int))))
  obtain ⟨r, hr, hr', r0, r1⟩ := loops s hn s.size (s.size + 1) t 0 t0 t1 (by omega) (by omega) (by omega) (by omega)
  have e1 : mix_Hash.f (s.size + 1) seed s = some r := by unfold mix_Hash.f; rw [ht]; exact hr
  have e2 : hoardref1_Hash.f (s.size + 1) seed s = some r := by unfold hoardref1_Hash.f; rw [ht']; exact hr'
  have e3 : HF seed s = r := by unfold HF; rw [e1]; rfl
  rw [e3]
  exact ⟨e1, e2, r0, r1⟩

theorem hash_any {k : Nat} {seed h : Int} {key : ByteArray} (hh : mix_Hash.f k seed key = some h) (w : World) :
    Calls Try.prog 48 #[.int .u64 seed, .string key] w fun e w' => e = .returned (.int .u64 h) ∧ ∃ m, w' = w.drewN m :=
  (mix_Hash.calls k seed key h w hh).mono fun _ _ ⟨he, ⟨n, hn⟩⟩ => ⟨he, n, hn⟩
theorem hash_any2 {k : Nat} {seed h : Int} {key : ByteArray} (hh : hoardref1_Hash.f k seed key = some h) (w : World) :
    Calls Try.prog 50 #[.int .u64 seed, .string key] w fun e w' => e = .returned (.int .u64 h) ∧ ∃ m, w' = w.drewN m :=
  (hoardref1_Hash.calls k seed key h w hh).mono fun _ _ ⟨he, ⟨n, hn⟩⟩ => ⟨he, n, hn⟩

/-- A place among n. -/
def pl (seed : Int) (s : ByteArray) (n : Nat) : Nat := (HF seed s).toNat % n

theorem place_f (h : Int) (n : Nat) (h0 : 0 ≤ h) (h1 : 1 ≤ n) (h2 : n ≤ 65536) : mix_Place.f h n = some ((h.toNat % n : Nat) : Int) ∧ hoardref1_Place.f h n = some ((h.toNat % n : Nat) : Int) := by
  obtain ⟨m, rfl⟩ := Int.eq_ofNat_of_zero_le h0
  have e : IntKind.u64.wrap (n : Int) = n := by simp only [IntKind.wrap_u64]; omega
  have e2 : wrap64 (Int.tmod (m : Int) (n : Int)) = ((m % n : Nat) : Int) := by
    have : Int.tmod (m : Int) (n : Int) = ((m % n : Nat) : Int) := by rw [Int.tmod_eq_emod_of_nonneg (by omega)]; simp
    rw [this]
    have := Nat.mod_lt m (show n > 0 by omega)
    generalize m % n = r at *
    unfold wrap64; omega
  constructor
  · unfold mix_Place.f; rw [if_neg (by omega), e, if_neg (by omega), e2]; simp
  · unfold hoardref1_Place.f; rw [if_neg (by omega), e, if_neg (by omega), e2]; simp

theorem place_any (h : Int) (n : Nat) (h0 : 0 ≤ h) (h1 : 1 ≤ n) (h2 : n ≤ 65536) (w : World) :
    Calls Try.prog 47 #[.int .u64 h, .int .i64 (n : Int)] w fun e w' => e = .returned (.int .i64 ((h.toNat % n : Nat) : Int)) ∧ ∃ m, w' = w.drewN m :=
  (mix_Place.calls h n _ w (place_f h n h0 h1 h2).1).mono fun _ _ ⟨he, ⟨n, hn⟩⟩ => ⟨he, n, hn⟩
theorem place_any2 (h : Int) (n : Nat) (h0 : 0 ≤ h) (h1 : 1 ≤ n) (h2 : n ≤ 65536) (w : World) :
    Calls Try.prog 49 #[.int .u64 h, .int .i64 (n : Int)] w fun e w' => e = .returned (.int .i64 ((h.toNat % n : Nat) : Int)) ∧ ∃ m, w' = w.drewN m :=
  (hoardref1_Place.calls h n _ w (place_f h n h0 h1 h2).2).mono fun _ _ ⟨he, ⟨n, hn⟩⟩ => ⟨he, n, hn⟩

end Go.Proofs.Ytlencmliaephjaa.Ha
