/- The walk of the law RouteShards. -/
import Derived.Test.YtlnpjcamcefbkaaRk
import Derived.Laws.Bits64b
import Derived.IntWalk
namespace Go.Proofs.Ytlnpjcamcefbkaa.Rw
open Go Go.RowKit Go.Proofs.Ytlnpjcamcefbkaa.K Go.Proofs.Ytlnpjcamcefbkaa.Ro Go.Proofs.Ytlnpjcamcefbkaa.PRouteShards Go.Proofs.YtlnpjcamcefbkaaW.PrintWords

theorem bits_range (x y : Int) : 0 ≤ Go.bits .xor .u64 x y ∧ Go.bits .xor .u64 x y < 18446744073709551616 := by
  unfold Go.bits
  simp only [IntKind.wrap_u64]
  omega

theorem mix_both (x : Int) : ∃ r, mix_Mix.f x = some r ∧ hoardref1_Mix.f x = some r ∧ 0 ≤ r ∧ r < 18446744073709551616 :=
  ⟨_, rfl, rfl, (bits_range _ _).1, (bits_range _ _).2⟩

theorem loops (s : ByteArray) (hn : s.size ≤ 140737488351232) (d : Nat) : ∀ (k : Nat) (h i : Int), 0 ≤ h → h < 18446744073709551616 → 0 ≤ i → i ≤ s.size → (s.size : Int) - i = d → d < k →
    ∃ r, mix_Hash.l0 k s h (s.size : Int) i = some r ∧ hoardref1_Hash.l0 k s h i = some r ∧ 0 ≤ r ∧ r < 18446744073709551616 := by
  induction d with
  | zero =>
    intro k h i hh0 hh1 h0 h1 hd hk
    obtain ⟨k, rfl⟩ : ∃ m, k = m + 1 := ⟨k - 1, by omega⟩
    refine ⟨h, ?_, ?_, hh0, hh1⟩
    · simp only [mix_Hash.l0]; rw [if_neg (by omega)]
    · simp only [hoardref1_Hash.l0]; rw [if_neg (by omega)]
  | succ d ih =>
    intro k h i hh0 hh1 h0 h1 hd hk
    obtain ⟨k, rfl⟩ : ∃ m, k = m + 1 := ⟨k - 1, by omega⟩
    obtain ⟨t, ht, ht', t0, t1⟩ := mix_both (IntKind.u64.wrap ((Go.bits .xor .u64 h (IntKind.u64.wrap (bt s i))) + 11400714819323198485))
    have hw : wrap64 (i + 1) = i + 1 := by unfold wrap64; omega
    obtain ⟨r, hr, hr', hrr⟩ := ih k t (i + 1) t0 t1 (by omega) (by omega) (by omega) (by omega)
    refine ⟨r, ?_, ?_, hrr⟩
    · simp only [mix_Hash.l0]; rw [if_pos (by omega), if_pos h0, if_pos (by omega), ht]; simp only [Option.bind_some]; rw [hw]; exact hr
    · simp only [hoardref1_Hash.l0]; rw [if_pos (by omega), if_pos h0, ht']; simp only [Option.bind_some]; rw [hw]; exact hr'

theorem shard_both (key : ByteArray) (n : Int) (hn : key.size ≤ 140737488351232) : ∃ s k, route_Shard.f k key n = some s ∧ hoardref25_Shard.f k key n = some s ∧ 0 ≤ s ∧ s < max 1 (min n 8) := by
  obtain ⟨t, ht, ht', t0, t1⟩ := mix_both (Go.bits .xor .u64 31 (IntKind.u64.wrap ((key.size : Int))))
  obtain ⟨r, hr, hr', r0, r1⟩ := loops key hn key.size (key.size + 1) t 0 t0 t1 (by omega) (by omega) (by omega) (by omega)
  have e1 : mix_Hash.f (key.size + 1) 31 key = some r := by unfold mix_Hash.f; rw [ht]; exact hr
  have e2 : hoardref1_Hash.f (key.size + 1) 31 key = some r := by unfold hoardref1_Hash.f; rw [ht']; exact hr'
  obtain ⟨c, hc⟩ : ∃ c, c = mn (mx n 1) 8 := ⟨_, rfl⟩
  have hc1 : c = max 1 (min n 8) := by rw [hc]; unfold mn mx; omega
  have hw : IntKind.u64.wrap c = c := Go.IntWalk.u64_in c ⟨by omega, by omega⟩
  have htm : Int.tmod r c = r % c := Int.tmod_eq_emod_of_nonneg r0
  have p0 := Int.emod_nonneg r (show c ≠ 0 by omega)
  have p1 := Int.emod_lt_of_pos r (show 0 < c by omega)
  have hv : wrap64 (r % c) = r % c := by unfold wrap64; omega
  have f1 : mix_Place.f r c = some (r % c) := by
    unfold mix_Place.f
    rw [if_neg (by omega), hw, if_neg (by omega), htm, hv]
  have f2 : hoardref1_Place.f r c = some (r % c) := by
    unfold hoardref1_Place.f
    rw [if_neg (by omega), hw, if_neg (by omega), htm, hv]
  refine ⟨r % c, key.size + 1, ?_, ?_, p0, by omega⟩
  · unfold route_Shard.f fix_Clamp.f
    rw [e1, Option.bind_some, ← hc, Option.bind_some, f1, Option.bind_some]
  · unfold hoardref25_Shard.f
    rw [e2, Option.bind_some, ← hc, f2, Option.bind_some]

theorem shards_calls (key : ByteArray) (n : Int) (w : World) (hn : key.size ≤ 140737488351232) : Calls Try.prog 7 #[.string key, .int .i64 n] w fun e w' => e = .returned (.bool true) ∧ Below w.heap.size w w' := by
  by_cases hk : 60 < key.size
  · go_enter Try.func7, Try.ntmps7
    go_wp2
    go_ret
    exact ⟨rfl, Below.refl _ _⟩
  · obtain ⟨s, k, h1, h2, h3, h4⟩ := shard_both key n hn
    have H1 := fun w => Lib.hid (route_Shard.calls k key n s w h1)
    have H2 := fun w => Lib.hid (hoardref25_Shard.calls k key n s w h2)
    clear h1 h2 hn
    obtain ⟨m, hm, hc⟩ : ∃ m, s < m ∧ (n ≤ 1 ∧ m = 1 ∨ 1 < n ∧ n ≤ 8 ∧ m = n ∨ 8 < n ∧ m = 8) := ⟨_, h4, by omega⟩
    clear h4
    rcases hc with ⟨c1, rfl⟩ | ⟨c1, c2, rfl⟩ | ⟨c1, rfl⟩
    all_goals
      go_enter Try.func7, Try.ntmps7
      go_wp2_with fail
      refine ((H1 _).out).mono ?_
      rintro e w1 ⟨rfl, b1⟩
      have B1 := Lib.hid b1
      clear b1
      go_wp2_with fail
      refine ((H2 _).out).mono ?_
      rintro e w2 ⟨rfl, b2⟩
      have B2 := Lib.hid (B1.out.trans (b2.mono B1.out.size))
      clear b2
      go_wp2_with (go_at_call 12; refine (known_calls _).mono ?_; rintro e w3 ⟨rfl, hb⟩)
      go_ret
      exact ⟨rfl, B2.out.trans (hb.mono B2.out.size)⟩

end Go.Proofs.Ytlnpjcamcefbkaa.Rw
