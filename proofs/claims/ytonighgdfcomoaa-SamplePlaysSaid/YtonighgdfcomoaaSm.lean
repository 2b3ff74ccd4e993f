/- The walks of package sample and of its reference, over blocks. -/
import Derived.Test.YtonighgdfcomoaaK
import Derived.Test.YtonighgdfcomoaaPSamplePlaysx1
import Derived.Lib.Hide
import Derived.Laws.Bits64b
namespace Go.Proofs.Ytonighgdfcomoaa.Sm
open Go Go.RowKit Go.Proofs.Ytonighgdfcomoaa.K Go.Proofs.Ytonighgdfcomoaa.PSamplePlays Go.Proofs.YtonighgdfcomoaaW.PrintWords

def clamp (n lo hi : Int) : Int := min (max n lo) hi
def inc (n most : Int) : Int := if n ≥ most then n else n + 1

theorem clamp_calls (n lo hi : Int) (w : World) :
    Calls Try.prog 35 #[.int .i64 n, .int .i64 lo, .int .i64 hi] w fun e w' => e = .returned (.int .i64 (clamp n lo hi)) ∧ ∃ k, w' = w.drewN k := by
  go_enter Try.func35, Try.ntmps35
  go_wp2
  all_goals
    go_ret
    refine ⟨ret_int ?_, 0, rfl⟩
    simp only [clamp, Int.min_def, Int.max_def] at *
    omega

theorem clamp_calls2 (n lo hi : Int) (w : World) :
    Calls Try.prog 38 #[.int .i64 n, .int .i64 lo, .int .i64 hi] w fun e w' => e = .returned (.int .i64 (clamp n lo hi)) ∧ ∃ k, w' = w.drewN k := by
  go_enter Try.func38, Try.ntmps38
  go_wp2
  all_goals
    go_ret
    refine ⟨ret_int ?_, 0, rfl⟩
    simp only [clamp, Int.min_def, Int.max_def] at *
    omega

theorem inc_f (n : Int) (h0 : 0 ≤ n) : fix_Inc.f n 1099511627776 = some (inc n 1099511627776) := by
  unfold fix_Inc.f inc
  split
  · rfl
  · have : wrap64 (n + 1) = n + 1 := by unfold wrap64; omega
    rw [this]
theorem inc_calls (n : Int) (w : World) (h0 : 0 ≤ n) :
    Calls Try.prog 37 #[.int .i64 n, .int .i64 1099511627776] w fun e w' => e = .returned (.int .i64 (inc n 1099511627776)) ∧ ∃ k, w' = w.drewN k := by
  refine (fix_Inc.calls n _ _ w (inc_f n h0)).mono ?_
  rintro e w' ⟨rfl, ⟨k, rfl⟩⟩
  exact ⟨rfl, k, rfl⟩
theorem inc_calls2 (n : Int) (w : World) (h0 : 0 ≤ n) :
    Calls Try.prog 39 #[.int .i64 n, .int .i64 1099511627776] w fun e w' => e = .returned (.int .i64 (inc n 1099511627776)) ∧ ∃ k, w' = w.drewN k := by
  refine (hoardref2_Inc.calls n _ _ w (inc_f n h0)).mono ?_
  rintro e w' ⟨rfl, ⟨k, rfl⟩⟩
  exact ⟨rfl, k, rfl⟩
theorem inc_range (n m : Int) (h0 : 0 ≤ n) : 0 ≤ inc n m := by unfold inc; split <;> omega

/-- The number of a text, as the program's own loop tells it. -/
def HF (seed : Int) (s : ByteArray) : Int := (mix_Hash.f (s.size + 1) seed s).getD 0

theorem bits_range (x y : Int) : 0 ≤ Go.bits .xor .u64 x y ∧ Go.bits .xor .u64 x y < 18446744073709551616 := by
  unfold Go.bits
  simp only [IntKind.wrap_u64]
  omega

theorem mix_both (x : Int) : ∃ r, mix_Mix.f x = some r ∧ hoardref1_Mix.f x = some r ∧ 0 ≤ r ∧ r < 18446744073709551616 :=
  ⟨_, rfl, rfl, (bits_range _ _).1, (bits_range _ _).2⟩

theorem loops (s : ByteArray) (hn : s.size ≤ 140737488351232) (d : Nat) : ∀ (k : Nat) (h i : Int), 0 ≤ h → h < 18446744073709551616 → 0 ≤ i → i ≤ s.size → (s.size : Int) - i = d → d < k →
    ∃ r, mix_Hash.l0 k s h (s.size : Int) i = some r ∧ hoardref1_Hash.l0 k s h i = some r ∧ 0 ≤ r ∧ r < 18446744073709551616 := by
  induction d with
  | zero =>
    intro k h i hh0 hh1 h0 h1 hd hk
    obtain ⟨k, rfl⟩ : ∃ m, k = m + 1 := ⟨k - 1, by omega⟩
    refine ⟨h, ?_, ?_, hh0, hh1⟩
    · simp only [mix_Hash.l0]; rw [if_neg (by omega)]
    · simp only [hoardref1_Hash.l0]; rw [if_neg (by omega)]
  | succ d ih =>
    intro k h i hh0 hh1 h0 h1 hd hk
    obtain ⟨k, rfl⟩ : ∃ m, k = m + 1 := ⟨k - 1, by omega⟩
    obtain ⟨t, ht, ht', t0, t1⟩ := mix_both (IntKind.u64.wrap ((Go.bits .xor .u64 h (IntKind.u64.wrap (bt s i))) + 11400714819323198485))
    have hw : wrap64 (i + 1) = i + 1 := by unfold wrap64; omega
    obtain ⟨r, hr, hr', hrr⟩ := ih k t (i + 1) t0 t1 (by omega) (by omega) (by omega) (by omega)
    refine ⟨r, ?_, ?_, hrr⟩
    · simp only [mix_Hash.l0]; rw [if_pos (by omega), if_pos h0, if_pos (by omega), ht]; simp only [Option.bind_some]; rw [hw]; exact hr
    · simp only [hoardref1_Hash.l0]; rw [if_pos (by omega), if_pos h0, ht']; simp only [Option.bind_some]; rw [hw]; exact hr'

theorem HF_spec (s : ByteArray) (seed : Int) (hn : s.size ≤ 140737488351232) :
    mix_Hash.f (s.size + 1) seed s = some (HF seed s) ∧ hoardref1_Hash.f (s.size + 1) seed s = some (HF seed s) ∧ 0 ≤ HF seed s ∧ HF seed s < 18446744073709551616 := by
  obtain ⟨t, ht, ht', t0, t1⟩ := mix_both (Go.bits .xor .u64 seed (IntKind.u64.wrap ((s.size : Int))))
  obtain ⟨r, hr, hr', r0, r1⟩ := loops s hn s.size (s.size + 1) t 0 t0 t1 (by omega) (by omega) (by omega) (by omega)
  have e1 : mix_Hash.f (s.size + 1) seed s = some r := by unfold mix_Hash.f; rw [ht]; exact hr
  have e2 : hoardref1_Hash.f (s.size + 1) seed s = some r := by unfold hoardref1_Hash.f; rw [ht']; exact hr'
  have e3 : HF seed s = r := by unfold HF; rw [e1]; rfl
  rw [e3]
  exact ⟨e1, e2, r0, r1⟩

def SRep (w : World) (b : Nat) (r a t : Int) : Prop := w.heap[b]? = some (.cells #[.int .i64 r, .int .i64 a, .int .i64 t] 52 (0, 0))

theorem new_calls (rate : Int) (w : World) :
    Calls Try.prog 14 #[.int .i64 rate] w fun e w' => e = .returned (.pointer (some ⟨w.heap.size, 0, none⟩)) ∧
      SRep w' w.heap.size (clamp rate 0 16777216) 0 0 ∧ Below w.heap.size w w' := by
  go_enter Try.func14, Try.ntmps14
  go_wp2_with (go_at_call 35; refine (clamp_calls _ _ _ _).mono ?_; rintro e w' ⟨rfl, n, rfl⟩)
  go_ret
  exact ⟨rfl, block_new (w.drewN n) _, (below_drewN (Below.refl _ _) n).alloc (Nat.le_refl _) _⟩

theorem rate_calls (b : Nat) (r a t : Int) (w : World) (h : SRep w b r a t) :
    Calls Try.prog 33 #[.pointer (some ⟨b, 0, none⟩)] w fun e w' => e = .returned (.int .i64 r) ∧ w' = w := by
  obtain ⟨c0, c1, c2, fr⟩ := cells3 h
  clear h
  go_enter Try.func33, Try.ntmps33
  go_wp2
  go_ret
  exact ⟨rfl, rfl⟩

theorem seen_calls (b : Nat) (r a t : Int) (w : World) (h : SRep w b r a t) :
    Calls Try.prog 32 #[.pointer (some ⟨b, 0, none⟩)] w fun e w' => e = .returned (.tuple #[.int .i64 a, .int .i64 t]) ∧ ∃ k, w' = w.drewN k := by
  obtain ⟨c0, c1, c2, fr⟩ := cells3 h
  clear h
  go_enter Try.func32, Try.ntmps32
  go_wp2
  go_quiet (fail)
  go_wp2
  go_ret2
  exact ⟨rfl, _, rfl⟩

def room (c r : Int) : Int := max 1 (clamp c 0 1024 * r / 16777216)
theorem clamp_range (c lo hi : Int) (h : lo ≤ hi) : lo ≤ clamp c lo hi ∧ clamp c lo hi ≤ hi := by unfold clamp; omega
theorem room_range (c r : Int) (h0 : 0 ≤ r) (h1 : r ≤ 16777216) : 0 ≤ clamp c 0 1024 * r ∧ clamp c 0 1024 * r ≤ 17179869184 := by
  have := clamp_range c 0 1024 (by omega)
  refine ⟨Int.mul_nonneg this.1 h0, ?_⟩
  have := Int.mul_le_mul this.2 h1 h0 (by omega)
  omega
theorem room_calls (b : Nat) (c r a t : Int) (w : World) (h : SRep w b r a t) (hr0 : 0 ≤ r) (hr1 : r ≤ 16777216) :
    Calls Try.prog 15 #[.pointer (some ⟨b, 0, none⟩), .int .i64 c] w fun e w' => e = .returned (.int .i64 (room c r)) ∧ ∃ k, w' = w.drewN k := by
  have b0 := room_range c r hr0 hr1
  have e1 : wrap64 (clamp c 0 1024 * r) = clamp c 0 1024 * r := by unfold wrap64; omega
  have e2 : Int.tdiv (clamp c 0 1024 * r) 16777216 = clamp c 0 1024 * r / 16777216 := Int.tdiv_eq_ediv_of_nonneg b0.1
  have e3 : wrap64 (clamp c 0 1024 * r / 16777216) = clamp c 0 1024 * r / 16777216 := by unfold wrap64; omega
  have E : Hid (wrap64 ((wrap64 (clamp c 0 1024 * r)).tdiv 16777216) = clamp c 0 1024 * r / 16777216) := by rw [e1, e2, e3]; exact rfl
  clear b0 e1 e2 e3
  obtain ⟨c0, c1, c2, fr⟩ := cells3 h
  clear h
  go_enter Try.func15, Try.ntmps15
  go_wp2_with fail
  go_quiet ((go_at_call 35; exact Calls.quiet_of (clamp_calls _ _ _ _)))
  go_wp2
  all_goals
    go_ret
    refine ⟨ret_int ?_, _, rfl⟩
    have E := E.out
    unfold room
    omega

theorem hash_any {k : Nat} {seed h : Int} {key : ByteArray} (hh : mix_Hash.f k seed key = some h) (w : World) :
    Calls Try.prog 16 #[.int .u64 seed, .string key] w fun e w' => e = .returned (.int .u64 h) ∧ ∃ m, w' = w.drewN m :=
  (mix_Hash.calls k seed key h w hh).mono fun _ _ ⟨he, ⟨n, hn⟩⟩ => ⟨he, n, hn⟩
theorem hash_any2 {k : Nat} {seed h : Int} {key : ByteArray} (hh : hoardref1_Hash.f k seed key = some h) (w : World) :
    Calls Try.prog 17 #[.int .u64 seed, .string key] w fun e w' => e = .returned (.int .u64 h) ∧ ∃ m, w' = w.drewN m :=
  (hoardref1_Hash.calls k seed key h w hh).mono fun _ _ ⟨he, ⟨n, hn⟩⟩ => ⟨he, n, hn⟩
theorem sampled_any (h r : Int) (h0 : 0 ≤ h) (w : World) :
    Calls Try.prog 24 #[.int .u64 h, .int .i64 r] w fun e w' => e = .returned (.bool (decide (h % 16777216 < r))) ∧ ∃ m, w' = w.drewN m :=
  (mix_Sampled.calls h r (decide (h % 16777216 < r)) w (by
    unfold mix_Sampled.f
    rw [Int.tmod_eq_emod_of_nonneg h0]
    have : wrap64 (h % 16777216) = h % 16777216 := by unfold wrap64; omega
    rw [this])).mono fun _ _ ⟨he, ⟨n, hn⟩⟩ => ⟨he, n, hn⟩

/-- Is a key taken at a rate? -/
def taken (key : ByteArray) (r : Int) : Bool := decide (HF 21 key % 16777216 < r)

/-- What a Takes leaves. -/
def TakesPost (b : Nat) (key : ByteArray) (r a t : Int) (w : World) (e : Ending) (w' : World) : Prop :=
  e = .returned (.bool (taken key r)) ∧ SRep w' b r (inc a 1099511627776) (if taken key r = true then inc t 1099511627776 else t) ∧ Upd (· = b) w w'

theorem takes_calls (b : Nat) (key : ByteArray) (r a t : Int) (w : World) (hr : SRep w b r a t) (ha : 0 ≤ a) (ht : 0 ≤ t) (hn : key.size ≤ 140737488351232) :
    Calls Try.prog 28 #[.pointer (some ⟨b, 0, none⟩), .string key] w (TakesPost b key r a t w) := by
  obtain ⟨c0, c1, c2, fr⟩ := cells3 hr
  obtain ⟨hh, -, h0, -⟩ := HF_spec key 21 hn
  have HH := fun w => hash_any hh w
  have HS := fun w => sampled_any (HF 21 key) r h0 w
  change ∀ w, Calls Try.prog 24 #[.int .u64 (HF 21 key), .int .i64 r] w fun e w' => e = .returned (.bool (taken key r)) ∧ ∃ m, w' = w.drewN m at HS
  have H := Lib.hid hr
  clear hr hh h0 hn
  generalize HF 21 key = h at HH HS
  cases d : taken key r
  all_goals
    rw [d] at HS
    have D := Lib.hid d
    clear d
    go_enter Try.func28, Try.ntmps28
    go_wp2_with (go_at_call 37; refine (inc_calls _ _ ha).mono ?_; rintro e w' ⟨rfl, n, rfl⟩)
    go_quiet (first | (go_at_call 16; exact Calls.quiet_of (HH _)) | (go_at_call 24; exact Calls.quiet_of (HS _)))
    go_wp2_with (go_at_call 37; refine (inc_calls _ _ ht).mono ?_; rintro e w' ⟨rfl, m, rfl⟩)
    go_ret
    unfold TakesPost
    rw [D.out]
    first
      | exact ⟨rfl, block_setCell H.out, by repeat (first | exact Upd.refl _ _ | refine Upd.setB ?_ | refine Upd.drewN ?_ _ | refine Upd.drew ?_)⟩
      | exact ⟨rfl, block_setCell (block_setCell H.out), by repeat (first | exact Upd.refl _ _ | refine Upd.setB ?_ | refine Upd.drewN ?_ _ | refine Upd.drew ?_)⟩

/-! The reference. -/

def RRep (w : World) (b : Nat) (r a t : Int) : Prop := w.heap[b]? = some (.cells #[.int .i64 r, .int .i64 a, .int .i64 t] 47 (0, 0))

theorem new_calls2 (rate : Int) (w : World) :
    Calls Try.prog 30 #[.int .i64 rate] w fun e w' => e = .returned (.pointer (some ⟨w.heap.size, 0, none⟩)) ∧
      RRep w' w.heap.size (clamp rate 0 16777216) 0 0 ∧ Below w.heap.size w w' := by
  go_enter Try.func30, Try.ntmps30
  go_wp2_with (go_at_call 38; refine (clamp_calls2 _ _ _ _).mono ?_; rintro e w' ⟨rfl, n, rfl⟩)
  go_ret
  exact ⟨rfl, block_new (w.drewN n) _, (below_drewN (Below.refl _ _) n).alloc (Nat.le_refl _) _⟩

theorem room_calls2 (b : Nat) (c r a t : Int) (w : World) (h : RRep w b r a t) (hr0 : 0 ≤ r) (hr1 : r ≤ 16777216) :
    Calls Try.prog 34 #[.pointer (some ⟨b, 0, none⟩), .int .i64 c] w fun e w' => e = .returned (.int .i64 (room c r)) ∧ ∃ k, w' = w.drewN k := by
  have b0 := room_range c r hr0 hr1
  have e1 : wrap64 (clamp c 0 1024 * r) = clamp c 0 1024 * r := by unfold wrap64; omega
  have e2 : Int.tdiv (clamp c 0 1024 * r) 16777216 = clamp c 0 1024 * r / 16777216 := Int.tdiv_eq_ediv_of_nonneg b0.1
  have e3 : wrap64 (clamp c 0 1024 * r / 16777216) = clamp c 0 1024 * r / 16777216 := by unfold wrap64; omega
  have E : Hid (wrap64 ((wrap64 (clamp c 0 1024 * r)).tdiv 16777216) = clamp c 0 1024 * r / 16777216) := by rw [e1, e2, e3]; exact rfl
  clear b0 e1 e2 e3
  obtain ⟨c0, c1, c2, fr⟩ := cells3 h
  clear h
  go_enter Try.func34, Try.ntmps34
  go_wp2_with fail
  go_quiet ((go_at_call 38; exact Calls.quiet_of (clamp_calls2 _ _ _ _)))
  go_wp2
  all_goals
    go_ret
    refine ⟨ret_int ?_, _, rfl⟩
    have E := E.out
    unfold room
    omega

theorem sampled_any2 (h r : Int) (h0 : 0 ≤ h) (h1 : h < 18446744073709551616) (w : World) :
    Calls Try.prog 25 #[.int .u64 h, .int .i64 r] w fun e w' => e = .returned (.bool (decide (h % 16777216 < r))) ∧ ∃ m, w' = w.drewN m :=
  (hoardref1_Sampled.calls h r (decide (h % 16777216 < r)) w (by
    unfold hoardref1_Sampled.f
    have e : Go.bits .and .u64 h 16777215 = h % 16777216 := by
      obtain ⟨a, rfl⟩ := Int.eq_ofNat_of_zero_le h0
      have := Go.bits_and_u64_nat a 16777215 (by omega) (by omega)
      rw [show ((16777215 : Nat) : Int) = 16777215 from rfl] at this
      rw [this]
      have := Nat.and_two_pow_sub_one_eq_mod a 24
      rw [show (2 ^ 24 - 1 : Nat) = 16777215 from rfl, show (2 ^ 24 : Nat) = 16777216 from rfl] at this
      rw [this]; omega
    rw [e]
    have : wrap64 (h % 16777216) = h % 16777216 := by unfold wrap64; omega
    rw [this])).mono fun _ _ ⟨he, ⟨n, hn⟩⟩ => ⟨he, n, hn⟩

def TakesPost2 (b : Nat) (key : ByteArray) (r a t : Int) (w : World) (e : Ending) (w' : World) : Prop :=
  e = .returned (.bool (taken key r)) ∧ RRep w' b r (inc a 1099511627776) (if taken key r = true then inc t 1099511627776 else t) ∧ Upd (· = b) w w'

theorem takes_calls2 (b : Nat) (key : ByteArray) (r a t : Int) (w : World) (hr : RRep w b r a t) (ha : 0 ≤ a) (ht : 0 ≤ t) (hn : key.size ≤ 140737488351232) :
    Calls Try.prog 31 #[.pointer (some ⟨b, 0, none⟩), .string key] w (TakesPost2 b key r a t w) := by
  obtain ⟨c0, c1, c2, fr⟩ := cells3 hr
  obtain ⟨-, hh, h0, h1⟩ := HF_spec key 21 hn
  have HH := fun w => hash_any2 hh w
  have HS := fun w => sampled_any2 (HF 21 key) r h0 h1 w
  change ∀ w, Calls Try.prog 25 #[.int .u64 (HF 21 key), .int .i64 r] w fun e w' => e = .returned (.bool (taken key r)) ∧ ∃ m, w' = w.drewN m at HS
  have H := Lib.hid hr
  clear hr hh h0 h1 hn
  generalize HF 21 key = h at HH HS
  cases d : taken key r
  all_goals
    rw [d] at HS
    have D := Lib.hid d
    clear d
    go_enter Try.func31, Try.ntmps31
    go_wp2_with fail
    go_quiet (first | (go_at_call 17; exact Calls.quiet_of (HH _)) | (go_at_call 25; exact Calls.quiet_of (HS _)))
    go_wp2_with (go_at_call 39; first | ((with_reducible refine (inc_calls2 _ _ ha).mono ?_); rintro e w' ⟨rfl, n, rfl⟩) | ((with_reducible refine (inc_calls2 _ _ ht).mono ?_); rintro e w' ⟨rfl, m, rfl⟩))
    go_ret
    unfold TakesPost2
    rw [D.out]
    first
      | exact ⟨rfl, block_setCell H.out, by repeat (first | exact Upd.refl _ _ | refine Upd.setB ?_ | refine Upd.drewN ?_ _ | refine Upd.drew ?_)⟩
      | exact ⟨rfl, block_setCell (block_setCell H.out), by repeat (first | exact Upd.refl _ _ | refine Upd.setB ?_ | refine Upd.drewN ?_ _ | refine Upd.drew ?_)⟩

end Go.Proofs.Ytonighgdfcomoaa.Sm
