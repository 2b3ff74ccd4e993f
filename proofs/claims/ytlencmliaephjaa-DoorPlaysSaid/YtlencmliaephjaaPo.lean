/- How many bits of a word are 1: the sum by masks, as plain numbers. Nothing of the program. -/
namespace Go.Proofs.Ytlencmliaephjaa.Po

/-- A byte, again and again. -/
def rep (m : Nat) : Nat → Nat
  | 0 => 0
  | k + 1 => 256 * rep m k + m

theorem and_split {q Q r m : Nat} (hr : r < 256) (hm : m < 256) : (256 * q + r) &&& (256 * Q + m) = 256 * (q &&& Q) + (r &&& m) := by
  apply Nat.eq_of_testBit_eq
  intro i
  have hrm : r &&& m < 2 ^ 8 := Nat.lt_of_le_of_lt Nat.and_le_left hr
  have e1 := Nat.testBit_two_pow_mul_add q (show r < 2 ^ 8 from hr) i
  have e2 := Nat.testBit_two_pow_mul_add Q (show m < 2 ^ 8 from hm) i
  have e3 := Nat.testBit_two_pow_mul_add (q &&& Q) hrm i
  rw [Nat.testBit_and]
  rw [show (256 : Nat) = 2 ^ 8 from rfl, e1, e2, e3]
  split
  · rw [Nat.testBit_and]
  · rw [Nat.testBit_and]

def s1 (k x : Nat) : Nat := ((x / 2) &&& rep 85 k) + (x &&& rep 85 k)
def s2 (k x : Nat) : Nat := ((x / 4) &&& rep 51 k) + (x &&& rep 51 k)
def s3 (k x : Nat) : Nat := (x / 16 + x) &&& rep 15 k
def b1 (r : Nat) : Nat := ((r / 2) &&& 85) + (r &&& 85)
def b2 (r : Nat) : Nat := ((r / 4) &&& 51) + (r &&& 51)
def b3 (r : Nat) : Nat := r / 16 + r % 16
def popb (r : Nat) : Nat := b3 (b2 (b1 r))

theorem low1 : ∀ b : Fin 2, ∀ r : Fin 256, (128 * b.val + r.val / 2) &&& 85 = (r.val / 2) &&& 85 := by decide +kernel
theorem low2 : ∀ b : Fin 4, ∀ r : Fin 256, (64 * b.val + r.val / 4) &&& 51 = (r.val / 4) &&& 51 := by decide +kernel
theorem byte1 : ∀ r : Fin 256, b1 r.val < 256 := by decide +kernel
theorem byte2 : ∀ r : Fin 256, b2 (b1 r.val) / 16 ≤ 4 ∧ b2 (b1 r.val) % 16 ≤ 4 := by decide +kernel
theorem popb_eq : ∀ r : Fin 256, popb r.val = (List.range 8).countP (fun i => r.val.testBit i) := by decide +kernel
theorem popb_le : ∀ r : Fin 256, popb r.val ≤ 8 := by decide +kernel

theorem byte1' {r : Nat} (hr : r < 256) : b1 r < 256 := byte1 ⟨r, hr⟩
theorem byte2' {r : Nat} (hr : r < 256) : b2 (b1 r) / 16 ≤ 4 ∧ b2 (b1 r) % 16 ≤ 4 := byte2 ⟨r, hr⟩
theorem popb_eq' {r : Nat} (hr : r < 256) : popb r = (List.range 8).countP (fun i => r.testBit i) := popb_eq ⟨r, hr⟩
theorem popb_le' {r : Nat} (hr : r < 256) : popb r ≤ 8 := popb_le ⟨r, hr⟩

theorem s1_split (k q r : Nat) (hr : r < 256) : s1 (k + 1) (256 * q + r) = 256 * s1 k q + b1 r := by
  have h1 : (256 * q + r) / 2 = 256 * (q / 2) + (128 * (q % 2) + r / 2) := by omega
  have h2 := low1 ⟨q % 2, Nat.mod_lt _ (by decide)⟩ ⟨r, hr⟩
  simp only at h2
  show ((256 * q + r) / 2 &&& (256 * rep 85 k + 85)) + ((256 * q + r) &&& (256 * rep 85 k + 85)) = 256 * ((q / 2 &&& rep 85 k) + (q &&& rep 85 k)) + ((r / 2 &&& 85) + (r &&& 85))
  rw [h1, and_split (by omega) (by decide), and_split hr (by decide), h2]
  omega
theorem s2_split (k q r : Nat) (hr : r < 256) : s2 (k + 1) (256 * q + r) = 256 * s2 k q + b2 r := by
  have h1 : (256 * q + r) / 4 = 256 * (q / 4) + (64 * (q % 4) + r / 4) := by omega
  have h2 := low2 ⟨q % 4, Nat.mod_lt _ (by decide)⟩ ⟨r, hr⟩
  simp only at h2
  show ((256 * q + r) / 4 &&& (256 * rep 51 k + 51)) + ((256 * q + r) &&& (256 * rep 51 k + 51)) = 256 * ((q / 4 &&& rep 51 k) + (q &&& rep 51 k)) + ((r / 4 &&& 51) + (r &&& 51))
  rw [h1, and_split (by omega) (by decide), and_split hr (by decide), h2]
  omega
theorem s3_split (k q r : Nat) (h1 : r / 16 ≤ 4) (h2 : r % 16 ≤ 4) (h3 : q % 16 ≤ 4) : s3 (k + 1) (256 * q + r) = 256 * s3 k q + b3 r := by
  have e : (256 * q + r) / 16 + (256 * q + r) = 256 * (q / 16 + q) + (16 * (q % 16) + r / 16 + r) := by omega
  show ((256 * q + r) / 16 + (256 * q + r)) &&& (256 * rep 15 k + 15) = 256 * ((q / 16 + q) &&& rep 15 k) + (r / 16 + r % 16)
  rw [e, and_split (by omega) (by decide)]
  have : (16 * (q % 16) + r / 16 + r) &&& 15 = r / 16 + r % 16 := by
    rw [show (15 : Nat) = 2 ^ 4 - 1 from rfl, Nat.and_two_pow_sub_one_eq_mod]
    omega
  rw [this]

def t (k x : Nat) : Nat := s3 k (s2 k (s1 k x))
theorem mid_mod (k x : Nat) : s2 k (s1 k x) % 16 ≤ 4 := by
  cases k with
  | zero => simp [s2, s1, rep]
  | succ k =>
    have hx : x = 256 * (x / 256) + x % 256 := by omega
    have hr : x % 256 < 256 := Nat.mod_lt _ (by decide)
    rw [hx, s1_split _ _ _ hr, s2_split _ _ _ (byte1' hr)]
    have := (byte2' hr).2
    omega
theorem t_split (k x : Nat) : t (k + 1) x = 256 * t k (x / 256) + popb (x % 256) := by
  have hx : x = 256 * (x / 256) + x % 256 := by omega
  have hr : x % 256 < 256 := Nat.mod_lt _ (by decide)
  have hb := byte2' hr
  unfold t
  conv => lhs; rw [hx]
  rw [s1_split _ _ _ hr, s2_split _ _ _ (byte1' hr), s3_split _ _ _ hb.1 hb.2 (mid_mod k _)]
  rfl

/-- How many of the first bits are 1. -/
def pop (n x : Nat) : Nat := (List.range n).countP (fun i => x.testBit i)

theorem pop_split (k x : Nat) : pop (8 * k + 8) x = pop (8 * k) (x / 256) + popb (x % 256) := by
  have hr : x % 256 < 256 := Nat.mod_lt _ (by decide)
  have e : List.range (8 * k + 8) = List.range 8 ++ (List.range (8 * k)).map (8 + ·) := by
    rw [Nat.add_comm, List.range_add]
  unfold pop
  rw [e, List.countP_append, List.countP_map, popb_eq' hr]
  have e1 : (List.range 8).countP (fun i => x.testBit i) = (List.range 8).countP (fun i => (x % 256).testBit i) := by
    apply List.countP_congr
    intro i hi
    have hi := List.mem_range.1 hi
    rw [show (256 : Nat) = 2 ^ 8 from rfl, Nat.testBit_mod_two_pow]
    simp [hi]
  have e2 : (List.range (8 * k)).countP ((fun i => x.testBit i) ∘ (8 + ·)) = (List.range (8 * k)).countP (fun i => (x / 256).testBit i) := by
    apply List.countP_congr
    intro i _
    rw [show (256 : Nat) = 2 ^ 8 from rfl, Nat.testBit_div_two_pow]
    simp [Nat.add_comm]
  rw [e1, e2]
  omega

theorem fs1 {c p A : Nat} (h : c = 256 * A + p) (hp : p ≤ 8) : c / 256 = A := by omega
theorem fs2 {c A1 A2 A3 p0 p1 p2 : Nat} (h : c = 256 * A1 + p0) (h1 : A1 = 256 * A2 + p1) (h2 : A2 = 256 * A3 + p2) : c + A1 = 65536 * (A2 + A3) + (256 * (p1 + p2) + (p0 + p1)) := by omega
theorem fs3 {c D r s : Nat} (h : c = 65536 * D + (256 * r + s)) (hr : r ≤ 16) (hs : s ≤ 16) : c / 65536 = D := by omega
theorem fs4 {A2 A3 A4 A5 p2 p3 p4 : Nat} (h2 : A2 = 256 * A3 + p2) (h3 : A3 = 256 * A4 + p3) (h4 : A4 = 256 * A5 + p4) : A2 + A3 = 65536 * (A4 + A5) + (256 * (p3 + p4) + (p2 + p3)) := by omega
theorem fs5 {c D F G a0 a1 b0 b1 d0 d1 : Nat} (h : c = 65536 * D + (256 * a1 + a0)) (hD : D = 65536 * F + (256 * b1 + b0)) (hF : F = 65536 * G + (256 * d1 + d0)) :
    c + D = 4294967296 * (F + G) + (16777216 * (b1 + d1) + (65536 * (b0 + d0) + (256 * (a1 + b1) + (a0 + b0)))) := by omega
theorem fs6 {c E a b d e : Nat} (h : c = 4294967296 * E + (16777216 * a + (65536 * b + (256 * d + e)))) (ha : a ≤ 32) (hb : b ≤ 32) (hd : d ≤ 32) (he : e ≤ 32) : c / 4294967296 = E := by omega
theorem fs7 {c E H a b d e f g : Nat} (h : c = 4294967296 * E + (16777216 * a + (65536 * b + (256 * d + e)))) (hE : E = 65536 * H + (256 * g + f)) (h1 : e + f ≤ 64) : (c + E) % 128 = e + f := by omega

/-- The last steps, on eight bytes. -/
theorem fold8 (p0 p1 p2 p3 p4 p5 p6 p7 : Nat) (h0 : p0 ≤ 8) (h1 : p1 ≤ 8) (h2 : p2 ≤ 8) (h3 : p3 ≤ 8) (h4 : p4 ≤ 8) (h5 : p5 ≤ 8) (h6 : p6 ≤ 8) (h7 : p7 ≤ 8)
    (c c1 c2 c3 : Nat) (hc : c = 256 * (256 * (256 * (256 * (256 * (256 * (256 * p7 + p6) + p5) + p4) + p3) + p2) + p1) + p0)
    (e1 : c1 = c + c / 256) (e2 : c2 = c1 + c1 / 65536) (e3 : c3 = c2 + c2 / 4294967296) : c3 % 128 = p0 + p1 + p2 + p3 + p4 + p5 + p6 + p7 ∧ c3 < 9223372036854775808 ∧ c2 < 9223372036854775808 ∧ c1 < 9223372036854775808 := by
  obtain ⟨A6, a6⟩ : ∃ A, A = 256 * p7 + p6 := ⟨_, rfl⟩
  rw [← a6] at hc
  obtain ⟨A5, a5⟩ : ∃ A, A = 256 * A6 + p5 := ⟨_, rfl⟩
  rw [← a5] at hc
  obtain ⟨A4, a4⟩ : ∃ A, A = 256 * A5 + p4 := ⟨_, rfl⟩
  rw [← a4] at hc
  obtain ⟨A3, a3⟩ : ∃ A, A = 256 * A4 + p3 := ⟨_, rfl⟩
  rw [← a3] at hc
  obtain ⟨A2, a2⟩ : ∃ A, A = 256 * A3 + p2 := ⟨_, rfl⟩
  rw [← a2] at hc
  obtain ⟨A1, a1⟩ : ∃ A, A = 256 * A2 + p1 := ⟨_, rfl⟩
  rw [← a1] at hc
  rw [fs1 hc h0] at e1
  have g1 := e1.trans (fs2 hc a1 a2)
  have hq : ∀ a b : Nat, a ≤ 8 → b ≤ 8 → a + b ≤ 16 := fun a b ha hb => Nat.add_le_add ha hb
  rw [fs3 g1 (hq _ _ h1 h2) (hq _ _ h0 h1)] at e2
  have gD := fs4 a2 a3 a4
  have a7 : p7 = 256 * 0 + p7 := by omega
  have gF : A4 + A5 = 65536 * (A6 + p7) + (256 * (p5 + p6) + (p4 + p5)) := fs4 a4 a5 a6
  have g2 := e2.trans (fs5 g1 gD gF)
  have hr : ∀ a b : Nat, a ≤ 16 → b ≤ 16 → a + b ≤ 32 := fun a b ha hb => Nat.add_le_add ha hb
  rw [fs6 g2 (hr _ _ (hq _ _ h3 h4) (hq _ _ h5 h6)) (hr _ _ (hq _ _ h2 h3) (hq _ _ h4 h5)) (hr _ _ (hq _ _ h1 h2) (hq _ _ h3 h4)) (hr _ _ (hq _ _ h0 h1) (hq _ _ h2 h3))] at e3
  have gE : A4 + A5 + (A6 + p7) = 65536 * (A6 + p7) + (256 * (p5 + p6 + p7) + (p4 + p5 + p6 + p7)) := by
    rw [gF]
    clear g2 gF gD e1 e2 e3 g1 hc a1 a2 a3 a4 a5
    omega
  have g3 := fs7 g2 gE (by clear g2 gE gF gD e1 e2 e3 g1 hc a1 a2 a3 a4 a5 a6; omega)
  rw [← e3] at g3
  have lA : ∀ x y p : Nat, x = 256 * y + p → p ≤ 8 → ∀ n, y ≤ n → x ≤ 256 * n + 8 := fun x y p h hp n hn => by omega
  have l6 := lA _ _ _ a6 h6 _ h7
  have l5 := lA _ _ _ a5 h5 _ l6
  have l4 := lA _ _ _ a4 h4 _ l5
  have l3 := lA _ _ _ a3 h3 _ l4
  have l2 := lA _ _ _ a2 h2 _ l3
  have l1 := lA _ _ _ a1 h1 _ l2
  have l0 := lA _ _ _ hc h0 _ l1
  clear gE g2 gF gD g1 hc a1 a2 a3 a4 a5 a6 a7 hq hr lA
  refine ⟨?_, by omega, by omega, by omega⟩
  rw [g3]
  clear g3 e1 e2 e3
  omega

theorem pop64 (x c c1 c2 c3 : Nat) (hc : c = t 8 x) (e1 : c1 = c + c / 256) (e2 : c2 = c1 + c1 / 65536) (e3 : c3 = c2 + c2 / 4294967296) :
    c3 % 128 = pop 64 x ∧ c3 < 9223372036854775808 ∧ c2 < 9223372036854775808 ∧ c1 < 9223372036854775808 := by
  have hp : pop 64 x = popb (x % 256) + popb (x / 256 % 256) + popb (x / 256 / 256 % 256) + popb (x / 256 / 256 / 256 % 256) + popb (x / 256 / 256 / 256 / 256 % 256) +
      popb (x / 256 / 256 / 256 / 256 / 256 % 256) + popb (x / 256 / 256 / 256 / 256 / 256 / 256 % 256) + popb (x / 256 / 256 / 256 / 256 / 256 / 256 / 256 % 256) := by
    have h := pop_split
    rw [show 64 = 8 * 7 + 8 from rfl, h, show 8 * 7 = 8 * 6 + 8 from rfl, h, show 8 * 6 = 8 * 5 + 8 from rfl, h, show 8 * 5 = 8 * 4 + 8 from rfl, h, show 8 * 4 = 8 * 3 + 8 from rfl, h,
      show 8 * 3 = 8 * 2 + 8 from rfl, h, show 8 * 2 = 8 * 1 + 8 from rfl, h, show 8 * 1 = 8 * 0 + 8 from rfl, h]
    simp only [pop, Nat.mul_zero, List.range_zero, List.countP_nil]
    omega
  have ht : t 8 x = 256 * (256 * (256 * (256 * (256 * (256 * (256 * popb (x / 256 / 256 / 256 / 256 / 256 / 256 / 256 % 256) + popb (x / 256 / 256 / 256 / 256 / 256 / 256 % 256)) + popb (x / 256 / 256 / 256 / 256 / 256 % 256)) + popb (x / 256 / 256 / 256 / 256 % 256)) +
      popb (x / 256 / 256 / 256 % 256)) + popb (x / 256 / 256 % 256)) + popb (x / 256 % 256)) + popb (x % 256) := by
    have h := t_split
    have h0 : ∀ y, t 0 y = 0 := fun y => by simp [t, s3, rep]
    rw [h 7, h 6, h 5, h 4, h 3, h 2, h 1, h 0, h0, Nat.mul_zero, Nat.zero_add]
  have le : ∀ y, popb (y % 256) ≤ 8 := fun y => popb_le' (Nat.mod_lt y (by decide))
  rw [hp]
  exact fold8 _ _ _ _ _ _ _ _ (le _) (le _) (le _) (le _) (le _) (le _) (le _) (le _) c c1 c2 c3 (hc.trans ht) e1 e2 e3

theorem pop_le (n x : Nat) : pop n x ≤ n := Nat.le_trans (List.countP_le_length ..) (by simp)

end Go.Proofs.Ytlencmliaephjaa.Po
