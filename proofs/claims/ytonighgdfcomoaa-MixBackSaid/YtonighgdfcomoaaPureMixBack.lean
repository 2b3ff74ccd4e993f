/- For every number: what was mixed can be told back, so that no two numbers become one. No condition beyond the statement's own. -/
import Derived.Test.YtonighgdfcomoaaPMixBackx1
import Derived.Laws.Bits64b
namespace Go.Proofs.Ytonighgdfcomoaa.Pure
open Go.RowKit Go.Proofs.Ytonighgdfcomoaa.PMixBack Go.Proofs.YtonighgdfcomoaaW.PrintWords Go.Proofs.YtonighgdfcomoaaW.PrintLast Go.Proofs.YtonighgdfcomoaaW.PrintMore
namespace MB

theorem known (k : Nat) (hk : 2 ≤ k) : hoardlaw1_known.f k = some true := by
  obtain ⟨k, rfl⟩ : ∃ m, k = m + 2 := ⟨k - 2, by omega⟩
  kernel_rfl

/-- One round: the error moves right. -/
theorem err (z x b : Nat) : ((z ^^^ z >>> b) ^^^ x >>> b) = z ^^^ (z ^^^ x) >>> b := by
  rw [Nat.shiftRight_xor_distrib, Nat.xor_assoc]

theorem three (z b : Nat) (hz : z < 2 ^ 64) (hb : 64 ≤ 4 * b) :
    (z ^^^ z >>> b) ^^^ ((z ^^^ z >>> b) ^^^ ((z ^^^ z >>> b) ^^^ (z ^^^ z >>> b) >>> b) >>> b) >>> b = z := by
  have e1 : z ^^^ (z ^^^ z >>> b) = z >>> b := by rw [← Nat.xor_assoc, Nat.xor_self, Nat.zero_xor]
  have e2 (y : Nat) : z ^^^ (z ^^^ y) = y := by rw [← Nat.xor_assoc, Nat.xor_self, Nat.zero_xor]
  have q1 : (z ^^^ z >>> b) ^^^ (z ^^^ z >>> b) >>> b = z ^^^ z >>> b >>> b := by rw [err z (z ^^^ z >>> b) b, e1]
  have q2 (q : Nat) : (z ^^^ z >>> b) ^^^ (z ^^^ q) >>> b = z ^^^ q >>> b := by rw [err z (z ^^^ q) b, e2]
  rw [q1, q2, q2]
  have : z >>> b >>> b >>> b >>> b = 0 := by
    rw [← Nat.shiftRight_add, ← Nat.shiftRight_add, ← Nat.shiftRight_add, Nat.shiftRight_eq_div_pow]
    apply Nat.div_eq_of_lt
    exact Nat.lt_of_lt_of_le hz (Nat.pow_le_pow_right (by decide) (by omega))
  rw [this, Nat.xor_zero]

theorem xor_lt {a b : Nat} (ha : a < 18446744073709551616) (hb : b < 18446744073709551616) : a ^^^ b < 18446744073709551616 :=
  Nat.xor_lt_two_pow (n := 64) ha hb

theorem shr_lt {a : Nat} (b : Nat) (ha : a < 18446744073709551616) : a >>> b < 18446744073709551616 := by
  rw [Nat.shiftRight_eq_div_pow]; exact Nat.lt_of_le_of_lt (Nat.div_le_self _ _) ha

theorem shr_nat (x b : Nat) (hb : b ≤ 64) : shr .u64 (x : Int) (b : Int) = ((x >>> b : Nat) : Int) := by
  unfold shr
  rw [Int.toNat_natCast, Nat.min_eq_left (by simpa [IntKind.bits] using hb), Nat.shiftRight_eq_div_pow]
  rfl

theorem step (y x b : Nat) (hy : y < 18446744073709551616) (hx : x < 18446744073709551616) (hb : b ≤ 64) :
    Go.bits .xor .u64 (y : Int) (shr .u64 (x : Int) (b : Int)) = ((y ^^^ x >>> b : Nat) : Int) := by
  rw [shr_nat x b hb]; exact Go.bits_xor_u64_nat _ _ hy (shr_lt b hx)

theorem undo (z b : Nat) (hz : z < 18446744073709551616) (hb : 22 ≤ b) (hb' : b < 32) (k : Nat) (hk : 4 ≤ k) :
    hoardlaw1_undo.f k ((z ^^^ z >>> b : Nat) : Int) (b : Int) = some (z : Int) := by
  obtain ⟨k, rfl⟩ : ∃ m, k = m + 4 := ⟨k - 4, by omega⟩
  have hy : z ^^^ z >>> b < 18446744073709551616 := xor_lt hz (shr_lt b hz)
  have h1 := xor_lt hy (shr_lt b hy)
  have h2 := xor_lt hy (shr_lt b h1)
  have w1 : IntKind.u64.wrap ((0 : Int) + (b : Int)) = (b : Int) := by rw [IntKind.wrap_u64]; omega
  have w2 : IntKind.u64.wrap ((b : Int) + (b : Int)) = ((2 * b : Nat) : Int) := by rw [IntKind.wrap_u64]; omega
  have w3 : IntKind.u64.wrap (((2 * b : Nat) : Int) + (b : Int)) = ((3 * b : Nat) : Int) := by rw [IntKind.wrap_u64]; omega
  have hbs : b ≤ 64 := by omega
  have c0 : (0 : Int) < 64 := by decide
  have cb : 0 ≤ (b : Int) := by omega
  have c1 : (b : Int) < 64 := by omega
  have c2 : ((2 * b : Nat) : Int) < 64 := by omega
  have c3 : ¬ ((3 * b : Nat) : Int) < 64 := by omega
  unfold hoardlaw1_undo.f
  simp only [hoardlaw1_undo.l0, if_pos c0, if_pos cb, w1, if_pos c1, w2, if_pos c2, w3, if_neg c3]
  rw [step _ _ b hy hy hbs, step _ _ b hy h1 hbs, step _ _ b hy h2 hbs]
  have := three z b hz (by omega)
  exact congrArg (fun n : Nat => some (n : Int)) this

theorem back_nat (x C D M : Nat) (h1 : x < M) (h : C * D % M = 1) : x * C % M * D % M = x := by
  rw [Nat.mod_mul_mod, Nat.mul_assoc, Nat.mul_mod, h, Nat.mul_one, Nat.mod_mod, Nat.mod_eq_of_lt h1]

theorem wrap_nat (n : Nat) : IntKind.u64.wrap (n : Int) = ((n % 18446744073709551616 : Nat) : Int) := by
  rw [IntKind.wrap_u64]; omega

theorem back (x y C D : Nat) (h1 : x < 18446744073709551616) (hy : y = x * C % 18446744073709551616) (h : C * D % 18446744073709551616 = 1) :
    IntKind.u64.wrap ((y : Int) * (D : Int)) = x := by
  rw [← Int.natCast_mul, wrap_nat, hy, back_nat x C D _ h1 h]

theorem div30 (x : Nat) : x / 1073741824 = x >>> 30 := (Nat.shiftRight_eq_div_pow x 30).symm
theorem div27 (x : Nat) : x / 134217728 = x >>> 27 := (Nat.shiftRight_eq_div_pow x 27).symm
theorem div31 (x : Nat) : x / 2147483648 = x >>> 31 := (Nat.shiftRight_eq_div_pow x 31).symm

/-- A step of mixing, as a number. -/
def up (C x : Nat) : Nat := x * C % 18446744073709551616
theorem up_lt (C x : Nat) : up C x < 18446744073709551616 := Nat.mod_lt _ (by decide)

theorem s30 (x : Nat) (hx : x < 18446744073709551616) : IntKind.u64.wrap ((Go.bits .xor .u64 (x : Int) ((x : Int) / 1073741824)) * 13787848793156543929) = (up 13787848793156543929 (x ^^^ x >>> 30) : Nat) := by
  have := Go.mixStep_u64 x 1073741824 13787848793156543929 hx
  rw [div30] at this
  exact this
theorem s27 (x : Nat) (hx : x < 18446744073709551616) : IntKind.u64.wrap ((Go.bits .xor .u64 (x : Int) ((x : Int) / 134217728)) * 10723151780598845931) = (up 10723151780598845931 (x ^^^ x >>> 27) : Nat) := by
  have := Go.mixStep_u64 x 134217728 10723151780598845931 hx
  rw [div27] at this
  exact this
theorem s31 (x : Nat) (hx : x < 18446744073709551616) : Go.bits .xor .u64 (x : Int) ((x : Int) / 2147483648) = (x ^^^ x >>> 31 : Nat) := by
  have := Go.xorShift_u64 x 2147483648 hx
  rw [div31] at this
  exact this

def ynum (x : Nat) : Nat := up 13787848793156543929 (x ^^^ x >>> 30)
def znum (x : Nat) : Nat := up 10723151780598845931 (ynum x ^^^ ynum x >>> 27)

theorem mixed (x : Nat) (hx : x < 18446744073709551616) : mix_Mix.f (x : Int) = some ((znum x ^^^ znum x >>> 31 : Nat) : Int) := by
  unfold mix_Mix.f
  rw [s30 x hx, s27 _ (up_lt _ _), s31 _ (up_lt _ _)]
  rfl

theorem b27 (x : Nat) : IntKind.u64.wrap ((znum x : Int) * 3573116690164977347) = ((ynum x ^^^ ynum x >>> 27 : Nat) : Int) :=
  back (ynum x ^^^ ynum x >>> 27) (znum x) 10723151780598845931 3573116690164977347 (xor_lt (up_lt _ _) (shr_lt 27 (up_lt _ _))) rfl (by decide)
theorem b30 (x : Nat) (hx : x < 18446744073709551616) : IntKind.u64.wrap ((ynum x : Int) * 10871156337175269513) = ((x ^^^ x >>> 30 : Nat) : Int) :=
  back (x ^^^ x >>> 30) (ynum x) 13787848793156543929 10871156337175269513 (xor_lt hx (shr_lt 30 hx)) rfl (by decide)

end MB

theorem MixBack : hoardlaw1_MixBack.Pure := by
  intro a w0
  have ha : 0 ≤ a ∧ a ≤ 18446744073709551615 := by simpa [Lit.wf, IntKind.min, IntKind.max, IntKind.bits, IntKind.signed] using w0
  obtain ⟨x, rfl⟩ := Int.eq_ofNat_of_zero_le ha.1
  have hx : x < 18446744073709551616 := by omega
  refine ⟨4, ?_⟩
  have u1 := MB.undo (MB.znum x) 31 (MB.up_lt _ _) (by omega) (by omega) 4 (by omega)
  have u2 := MB.undo (MB.ynum x) 27 (MB.up_lt _ _) (by omega) (by omega) 4 (by omega)
  have u3 := MB.undo x 30 hx (by omega) (by omega) 4 (by omega)
  unfold hoardlaw1_MixBack.f
  rw [show (31 : Int) = ((31 : Nat) : Int) from rfl, show (27 : Int) = ((27 : Nat) : Int) from rfl, show (30 : Int) = ((30 : Nat) : Int) from rfl]
  rw [MB.mixed x hx, Option.bind_some, u1, Option.bind_some, MB.b27 x, u2, Option.bind_some, MB.b30 x hx, u3, Option.bind_some, if_pos rfl,
    MB.known _ (by omega), Option.bind_some]

end Go.Proofs.Ytonighgdfcomoaa.Pure
