/- SketchPlays: the sketch and the reference's, side by side. -/
import Derived.Test.YtlencmliaephjaaSv
namespace Go.Proofs.Ytlencmliaephjaa.Sw
open Go Go.RowKit Go.Proofs.Ytlencmliaephjaa.K Go.Proofs.Ytlencmliaephjaa.Ha Go.Proofs.Ytlencmliaephjaa.Sk Go.Proofs.Ytlencmliaephjaa.Sr Go.Proofs.Ytlencmliaephjaa.He
open Go.Proofs.Ytlencmliaephjaa.PSketchPlays Go.Proofs.YtlencmliaephjaaW.PrintWords

abbrev St := List Nat × Int

/-- Both, side by side. -/
structure Tw (b c b' c' n : Nat) (w0 : World) (s1 s2 : St) (w : World) : Prop where
  sq : Sq w b c n s1.1 s1.2
  rf : Rf w b' c' n s2.1 s2.2
  dis : ∀ i, BC b c i → ¬ BC b' c' i
  ge1 : ∀ i, BC b c i → w0.heap.size ≤ i
  ge2 : ∀ i, BC b' c' i → w0.heap.size ≤ i
  below : Below w0.heap.size w0 w

variable {b c b' c' n : Nat} {w0 w : World} {s1 s2 : St}

theorem Tw.one {s : St} {w2 : World} (h : Tw b c b' c' n w0 s1 s2 w) (hs : Sq w2 b c n s.1 s.2) (hu : Upd (BC b c) w w2) : Tw b c b' c' n w0 s s2 w2 :=
  ⟨hs, h.rf.upd hu (fun e => h.dis _ e (.inl rfl)) (fun e => h.dis _ e (.inr rfl)), h.dis, h.ge1, h.ge2, h.below.trans (hu.below h.below.size h.ge1)⟩
theorem Tw.two {s : St} {w2 : World} (h : Tw b c b' c' n w0 s1 s2 w) (hs : Rf w2 b' c' n s.1 s.2) (hu : Upd (BC b' c') w w2) : Tw b c b' c' n w0 s1 s w2 :=
  ⟨h.sq.upd hu (h.dis _ (.inl rfl)) (h.dis _ (.inr rfl)), hs, h.dis, h.ge1, h.ge2, h.below.trans (hu.below h.below.size h.ge2)⟩
theorem Tw.still {w2 : World} (h : Tw b c b' c' n w0 s1 s2 w) (hb : Below w.heap.size w w2) : Tw b c b' c' n w0 s1 s2 w2 :=
  ⟨h.sq.below hb, h.rf.below hb, h.dis, h.ge1, h.ge2, h.below.trans (hb.mono h.below.size)⟩
theorem Tw.drew (h : Tw b c b' c' n w0 s1 s2 w) : Tw b c b' c' n w0 s1 s2 w.drew := ⟨h.sq.drewN 1, h.rf.drewN 1, h.dis, h.ge1, h.ge2, below_drewN h.below 1⟩
theorem Tw.drewN (h : Tw b c b' c' n w0 s1 s2 w) (k : Nat) : Tw b c b' c' n w0 s1 s2 (w.drewN k) := ⟨h.sq.drewN k, h.rf.drewN k, h.dis, h.ge1, h.ge2, below_drewN h.below k⟩

def halS (s : St) : St := (s.1.map (· / 2), s.2 / 2)
def step (n : Nat) (s : St) (key : ByteArray) : St := if key.toList = [] then halS s else addS n key s
def Rng (n : Nat) (s : St) : Prop := 0 ≤ s.2 ∧ s.2 < 10 * (n : Int)
theorem step_rng {s : St} {key : ByteArray} (h : Rng n s) : Rng n (step n s key) := by
  unfold step
  split
  · unfold Rng halS at *; dsimp only; omega
  · exact addS_range n key s h.1 h.2
def steps (n : Nat) (l : List ByteArray) : St := l.foldl (step n) (List.replicate (4 * n) 0, 0)
theorem steps_snoc {l : List ByteArray} {k : Nat} {s : ByteArray} (h : l[k]? = some s) : steps n (l.take (k + 1)) = step n (steps n (l.take k)) s := by
  obtain ⟨hk, rfl⟩ := List.getElem?_eq_some_iff.1 h
  rw [List.take_succ_eq_append_getElem hk, steps, List.foldl_append]; rfl
theorem steps_rng (hn : 8 ≤ n) (l : List ByteArray) : ∀ k, Rng n (steps n (l.take k))
  | 0 => by unfold Rng steps; simp; omega
  | k + 1 => by
    rcases Nat.lt_or_ge k l.length with h | h
    · rw [steps_snoc (List.getElem?_eq_getElem h)]; exact step_rng (steps_rng hn l k)
    · have e : l.take (k + 1) = l.take k := by rw [List.take_of_length_le h, List.take_of_length_le (by omega)]
      rw [e]; exact steps_rng hn l k

theorem tw_add1 (h : Tw b c b' c' n w0 s1 s2 w) (key : ByteArray) (hk : key.size ≤ 140737488351232) (hr : Rng n s1) :
    Calls Try.prog 14 #[.pointer (some ⟨b, 0, none⟩), .string key] w fun e w2 => e = .returned (.tuple #[]) ∧ Tw b c b' c' n w0 (addS n key s1) s2 w2 :=
  (add_sq b c n s1.1 s1.2 key w h.sq hk hr.1 hr.2).mono fun _ _ ⟨he, hs, hu⟩ => ⟨he, h.one hs hu⟩
theorem tw_add2 (h : Tw b c b' c' n w0 s1 s2 w) (key : ByteArray) (hk : key.size ≤ 140737488351232) (hr : Rng n s2) :
    Calls Try.prog 32 #[.pointer (some ⟨b', 0, none⟩), .string key] w fun e w2 => e = .returned (.tuple #[]) ∧ Tw b c b' c' n w0 s1 (addS n key s2) w2 :=
  (add_rf b' c' n s2.1 s2.2 key w h.rf hk hr.1 hr.2).mono fun _ _ ⟨he, hs, hu⟩ => ⟨he, h.two hs hu⟩
theorem rng_big {s : St} (hr : Rng n s) (hn : n ≤ 1024) : s.2 ≤ 4611686018427387904 := by have := hr.2; omega
theorem tw_hal1 (h : Tw b c b' c' n w0 s1 s2 w) (hr : Rng n s1) :
    Calls Try.prog 30 #[.pointer (some ⟨b, 0, none⟩)] w fun e w2 => e = .returned (.tuple #[]) ∧ Tw b c b' c' n w0 (halS s1) s2 w2 :=
  (halve_sq b c n s1.1 s1.2 w h.sq hr.1 (rng_big hr h.sq.n2)).mono fun _ _ ⟨he, hs, hu⟩ => ⟨he, h.one hs hu⟩
theorem tw_hal2 (h : Tw b c b' c' n w0 s1 s2 w) (hr : Rng n s2) :
    Calls Try.prog 31 #[.pointer (some ⟨b', 0, none⟩)] w fun e w2 => e = .returned (.tuple #[]) ∧ Tw b c b' c' n w0 s1 (halS s2) w2 :=
  (halve_rf b' c' n s2.1 s2.2 w h.rf hr.1 (rng_big hr h.rf.n2)).mono fun _ _ ⟨he, hs, hu⟩ => ⟨he, h.two hs hu⟩
theorem tw_cnt1 (h : Tw b c b' c' n w0 s1 s2 w) (key : ByteArray) (hk : key.size ≤ 140737488351232) (x : Nat) (hx : cnt n s1.1 key = x) :
    Calls Try.prog 15 #[.pointer (some ⟨b, 0, none⟩), .string key] w fun e w2 => e = .returned (.int .i64 (x : Int)) ∧ Tw b c b' c' n w0 s1 s2 w2 := by
  subst hx
  exact (count_sq b c n s1.1 s1.2 key w h.sq hk).mono fun _ _ ⟨he, hb⟩ => ⟨he, h.still hb⟩
theorem tw_cnt2 (h : Tw b c b' c' n w0 s1 s2 w) (key : ByteArray) (hk : key.size ≤ 140737488351232) (x : Nat) (hx : cnt n s2.1 key = x) :
    Calls Try.prog 33 #[.pointer (some ⟨b', 0, none⟩), .string key] w fun e w2 => e = .returned (.int .i64 (x : Int)) ∧ Tw b c b' c' n w0 s1 s2 w2 := by
  subst hx
  exact (count_rf b' c' n s2.1 s2.2 key w h.rf hk).mono fun _ _ ⟨he, hb⟩ => ⟨he, h.still hb⟩
theorem tw_sum1 (h : Tw b c b' c' n w0 s1 s2 w) (y : Int) (hy : s1.2 = y) :
    Calls Try.prog 34 #[.pointer (some ⟨b, 0, none⟩)] w fun e w2 => e = .returned (.int .i64 y) ∧ w2 = w := by
  subst hy
  exact sum_sq b c n s1.1 s1.2 w h.sq
theorem tw_cell (h : Tw b c b' c' n w0 s1 s2 w) (y : Int) (hy : s2.2 = y) : w.cell? ⟨b', 2, none⟩ = some (.int .i64 y) := by
  subst hy
  exact (cells3 h.rf.obj).2.2.1
theorem tw_str (h : Tw b c b' c' n w0 s1 s2 w) {ab ao : Nat} {s : ByteArray} (hc : w0.cell? ⟨ab, ao, none⟩ = some (.string s)) : w.cell? ⟨ab, ao, none⟩ = some (.string s) := by
  rw [h.below.cell (p := ⟨ab, ao, none⟩) (World.block_lt_of_cell? w0 _ hc)]; exact hc

theorem tw_new (room : Int) (w0 w : World) (hb0 : Below w0.heap.size w0 w) :
    Calls Try.prog 13 #[.int .i64 room] w fun e w1 => ∃ b c, e = .returned (.pointer (some ⟨b, 0, none⟩)) ∧ Calls Try.prog 29 #[.int .i64 room] w1 fun e w2 => ∃ b' c', e = .returned (.pointer (some ⟨b', 0, none⟩)) ∧
      Tw b c b' c' (pw (clamp room 1 1024)) w0 (List.replicate (4 * pw (clamp room 1 1024)) 0, 0) (List.replicate (4 * pw (clamp room 1 1024)) 0, 0) w2 := by
  refine (new_sq room w).mono ?_
  rintro e w1 ⟨b, c, rfl, hb, hc, hs, hw⟩
  refine ⟨b, c, rfl, (new_rf room w1).mono ?_⟩
  rintro e w2 ⟨b', c', rfl, hb', hc', hs', hw'⟩
  have hlt : b < w1.heap.size ∧ c < w1.heap.size := by
    obtain ⟨B', h1, -⟩ := hs
    exact ⟨lt_of_block h1.obj, lt_of_block h1.row⟩
  have h0 := hb0.size
  have h1 := hw.size
  have hB : Below w0.heap.size w0 w2 := (hb0.trans (hw.mono h0)).trans (hw'.mono (Nat.le_trans h0 h1))
  refine ⟨b', c', rfl, hs.below hw', hs', ?_, ?_, ?_, hB⟩
  · rintro i (rfl | rfl) (rfl | rfl) <;> omega
  · rintro i (rfl | rfl) <;> omega
  · rintro i (rfl | rfl) <;> omega

theorem numbers_l (l : List Nat) (hb : l.length * 8 ≤ 140737488351232) (d : Nat) : ∀ (k i : Nat), i ≤ l.length → l.length - i = d → d < k →
    hoardlaw7_numbers.l0 k (l.map fun n : Nat => (n : Int)) (l.map fun n : Nat => (n : Int)) (i : Int) = some true := by
  induction d with
  | zero =>
    intro k i h1 hd hk
    obtain ⟨k, rfl⟩ : ∃ n, k = n + 1 := ⟨k - 1, by omega⟩
    rw [hoardlaw7_numbers.l0, if_neg (by simp; omega)]
  | succ d ih =>
    intro k i h1 hd hk
    obtain ⟨k, rfl⟩ : ∃ n, k = n + 1 := ⟨k - 1, by omega⟩
    have hi : i < l.length := by omega
    rw [hoardlaw7_numbers.l0, if_pos (by simp; omega), if_pos (by omega), if_pos (by simp; omega), if_pos rfl]
    have hw : wrap64 ((i : Int) + 1) = ((i + 1 : Nat) : Int) := by unfold wrap64; omega
    rw [hw]
    have h2 : i + 1 ≤ l.length := hi
    have h3 : l.length - (i + 1) = d := by omega
    exact ih k (i + 1) h2 h3 (by omega)

theorem kd_int {w : World} {A : Option Addr} {l : List Int} (h : RInt w A l) : Kd.C (Kd.int .i64) w A l.length l := by
  refine ⟨rfl, by have := h.len; omega, fun h0 => ?_⟩
  obtain ⟨b, o, rfl, -⟩ := h.get 0 _ (List.getElem?_eq_getElem h0)
  refine ⟨_, rfl, fun j p hp => ⟨[.int .i64 p], rfl, rfl, fun i u hu => ?_⟩⟩
  obtain ⟨b', o', he, hc⟩ := h.get j p hp
  cases he
  cases i with
  | zero =>
    cases hu
    rw [K.add_plain']
    show w.cell? ⟨b, o + (j * 1 + 0), none⟩ = _
    rw [Nat.mul_one, Nat.add_zero]; exact hc
  | succ i => simp at hu

/-- Two rows of one and the same numbers. -/
theorem numbers_same (A B : Option Addr) (c d : Nat) (l : List Nat) (w : World) (hA : RInt w A (l.map fun n : Nat => (n : Int))) (hB : RInt w B (l.map fun n : Nat => (n : Int))) (hc : l.length ≤ c) (hd : l.length ≤ d) :
    Calls Try.prog 35 #[.slice A l.length c, .slice B l.length d] w fun e w' => e = .returned (.bool true) ∧ ∃ n, w' = w.drewN n := by
  have hl : (l.map fun n : Nat => (n : Int)).length = l.length := by simp
  have hf : hoardlaw7_numbers.f (l.length + 1) (l.map fun n : Nat => (n : Int)) (l.map fun n : Nat => (n : Int)) = some true := by
    unfold hoardlaw7_numbers.f
    rw [if_pos rfl]
    exact numbers_l l (by have := hA.len; rw [hl] at this; exact this) l.length _ 0 (by omega) (by omega) (by omega)
  have := (hoardlaw7_numbers.calls _ A c _ B d _ _ w (kd_int hA) (by rw [hl]; exact hc) (kd_int hB) (by rw [hl]; exact hd) hf)
  rw [hl] at this
  exact this.mono fun _ _ ⟨he, ⟨n, hn⟩⟩ => ⟨he, n, hn⟩

theorem tw_numbers {B gc : Nat} {gA : Option Addr} {st : St} (h : Tw b c b' c' n w0 st st w) (hov : w.ownsRow B 3 1 (.slice gA (4 * n) gc) (4 * n) (nats st.1)) :
    Calls Try.prog 35 #[.slice gA (4 * n) gc, .slice (some ⟨c', 0, none⟩) (4 * n) (4 * n)] w fun e w2 => e = .returned (.bool true) ∧ Tw b c b' c' n w0 st st w2 := by
  have hl := h.rf.len
  have hn := h.rf.n2
  have hov' : w.ownsRow B 3 1 (.slice gA (4 * n) gc) (4 * n) ((st.1.map fun n : Nat => (n : Int)).map (Value.int .i64)) := by
    rw [List.map_map]; exact hov
  obtain ⟨A', c'', e', hR⟩ := RInt.of_own hov' (by simp; omega)
  injection e' with e1 e2 e3
  subst e1 e3
  have hcap : st.1.length ≤ gc := by
    rcases hov.2 with ⟨hh, h0⟩ | ⟨g, cap, cur, hh, _, _, hnc, _⟩
    · have := h.rf.n1; omega
    · injection hh with _ _ h3
      subst h3
      omega
  have hR2 : RInt w (some ⟨c', 0, none⟩) (st.1.map fun n : Nat => (n : Int)) := by
    refine ⟨by simp; omega, fun i x hx => ⟨c', 0, rfl, ?_⟩⟩
    rw [cell_of h.rf.row, Nat.zero_add]
    rw [List.getElem?_map] at hx
    simp only [nats, List.getElem?_toArray, List.getElem?_map]
    cases hq : st.1[i]? with
    | none => rw [hq] at hx; cases hx
    | some q => rw [hq] at hx; cases hx; rfl
  have := numbers_same gA (some ⟨c', 0, none⟩) gc (4 * n) st.1 w hR hR2 hcap (by omega)
  rw [hl] at this
  exact this.mono fun _ _ ⟨he, m, hm⟩ => ⟨he, by rw [hm]; exact h.drewN m⟩

theorem tw_head {st : St} (h : Tw b c b' c' n w0 s1 st w) : w.cell? ⟨b', 0, none⟩ = some (.slice (some ⟨c', 0, none⟩) (4 * n) (4 * n)) := (cells3 h.rf.obj).1

set_option maxHeartbeats 1600000 in
set_option maxRecDepth 100000 in
theorem plays_calls (room : Int) (A : Option Addr) (cap : Nat) (l : List ByteArray) (w : World) (hl : RStr w A l) (hcap : l.length ≤ cap) :
    Calls Try.prog 8 #[.int .i64 room, .slice A l.length cap] w fun e w' => e = .returned (.bool true) ∧ Below w.heap.size w w' := by
  obtain ⟨r, hh, hsm⟩ := heavy_any A cap l hl.len hcap
  have hlen := hl.len
  have HL := Lib.hid hl
  have H1 := hh w hl
  clear hl hh
  cases r with
  | true =>
    go_enter Try.func8, Try.ntmps8
    go_wp2_with (go_at_call 12; refine H1.mono ?_; rintro e w' ⟨rfl, k, rfl⟩)
    go_ret
    exact ⟨rfl, below_drewN (Below.refl _ _) _⟩
  | false =>
    have hsmall := hsm rfl
    clear hsm
    have HN := fun w2 hb => tw_new room w w2 hb
    have hr8 : 8 ≤ pw (clamp room 1 1024) ∧ pw (clamp room 1 1024) ≤ 1024 := by unfold pw; (repeat' split) <;> omega
    generalize pw (clamp room 1 1024) = n at *
    obtain ⟨n1, n2⟩ := hr8
    have HS := Lib.hid hsmall
    have HNN := Lib.hid HN
    clear hsmall HN
    go_enter Try.func8, Try.ntmps8
    go_wp2_with (first | (go_at_call 12; refine H1.mono ?_; rintro e w' ⟨rfl, k, rfl⟩) | (go_at_call 13; refine (HNN.out _ (below_drewN (Below.refl _ _) _)).mono ?_; rintro e w1 ⟨b, c, rfl, hc2⟩) | (go_at_call 29; refine hc2.mono ?_; rintro e w2 ⟨b', c', rfl, ht⟩))
    have h0 : Hid (Tw b c b' c' n w (steps n (l.take 0)) (steps n (l.take 0)) w2) := Lib.hid ht
    clear ht hc2
    go_loopw [7] (fun v7 wr => ∃ k : Nat, k ≤ l.length ∧ v7 = .int .i64 k ∧ Tw b c b' c' n w (steps n (l.take k)) (steps n (l.take k)) wr) (fun v7 wr => l.length - (intOf v7).toNat)
    case atStart => exact ⟨0, by omega, rfl, h0.out⟩
    case round =>
      clear h0
      obtain ⟨k, hk, rfl, ht⟩ := hrel
      have hrg := Lib.hid (steps_rng n1 l k)
      by_cases hend : k < l.length ∧ k < 300
      · obtain ⟨hli, h3⟩ := hend
        obtain ⟨s, hsk⟩ : ∃ s, l[k]? = some s := ⟨_, List.getElem?_eq_getElem hli⟩
        obtain ⟨ab, ao, rfl, hcell0⟩ := HL.out.get k s hsk
        have HC0 := Lib.hid hcell0
        have hcell := tw_str ht hcell0
        have t1 : decide (k < l.length) = true := by simpa using hli
        have t2 : decide ((k : Int) < 300) = true := by simp; omega
        have hsz : s.size ≤ 140737488351232 := by have := HS.out k s h3 hsk; omega
        have HP := Lib.hid (steps_snoc (n := n) hsk)
        have hrg2 := Lib.hid (step_rng (key := s) hrg.out)
        have HT := Lib.hid ht
        clear hsk hcell0 ht
        generalize steps n (l.take k) = st at *
        by_cases he : s.toList = []
        · have hst : step n st s = halS st := by unfold step; rw [if_pos he]
          have HST := Lib.hid hst
          clear hst
          go_wp2_with (first | (go_at_call 30; refine (tw_hal1 HT.out hrg.out).mono ?_; rintro e w3 ⟨rfl, hT3⟩; have HT3 := Lib.hid hT3; clear hT3) | (go_at_call 31; refine (tw_hal2 HT3.out hrg.out).mono ?_; rintro e w4 ⟨rfl, hT4⟩; have HT4 := Lib.hid hT4; have hcell4 := tw_str HT4.out HC0.out; clear hT4))
          have hst4 := HT4.out
          rw [← HST.out] at hst4
          have HT5 := Lib.hid hst4
          generalize step n st s = st5 at *
          have hx : Hid (cnt n st5.1 s = cnt n st5.1 s) := Lib.hid rfl
          obtain ⟨x, hx⟩ : ∃ x, cnt n st5.1 s = x := ⟨_, rfl⟩
          obtain ⟨y, hy⟩ : ∃ y, st5.2 = y := ⟨_, rfl⟩
          have hc2 := tw_cell HT5.out y hy
          have HX := Lib.hid hx
          have HY := Lib.hid hy
          have KEEP : Hid (∀ w', Tw b c b' c' n w st5 st5 w' → w'.cell? ⟨ab, ao + k, none⟩ = some (.string s) ∧ w'.cell? ⟨b', 2, none⟩ = some (.int .i64 y)) :=
            Lib.hid (fun w' h => ⟨tw_str h HC0.out, tw_cell h y HY.out⟩)
          clear hst4 hx hy HT4 HT
          go_region_held3 (fun w' => w'.cell? ⟨ab, ao + k, none⟩ = some (.string s) ∧ w'.cell? ⟨b', 2, none⟩ = some (.int .i64 y))
            (first
              | go_keep
              | exact KEEP.out _ (by assumption)
              | exact KEEP.out _ HT5.out)
            (first
              | (go_at_call 15; refine (tw_cnt1 (s1 := st5) (s2 := st5) (w0 := w) (by first | assumption | exact HT5.out | exact HT5.out.drew | exact Tw.drew (by assumption)) s hsz x HX.out).mono ?_; rintro e w5 ⟨rfl, hT5⟩)
              | (go_at_call 33; refine (tw_cnt2 (s1 := st5) (s2 := st5) (w0 := w) (by first | assumption | exact HT5.out | exact HT5.out.drew | exact Tw.drew (by assumption)) s hsz x HX.out).mono ?_; rintro e w6 ⟨rfl, hT6⟩)
              | (go_at_call 34; refine (tw_sum1 (s1 := st5) (s2 := st5) (w0 := w) (by first | assumption | exact HT5.out | exact HT5.out.drew | exact Tw.drew (by assumption)) y HY.out).mono ?_; rintro e w7 ⟨rfl, rfl⟩))
          all_goals
            go_wp2_with fail
            go_roundw
            case rel => exact ⟨k + 1, by omega, by go_num, by rw [HP.out]; first | assumption | exact HT5.out | exact HT5.out.drew | exact Tw.drew (by assumption)⟩
            case measure => simp [intOf]; omega
        · have hst : step n st s = addS n s st := by unfold step; rw [if_neg he]
          have HST := Lib.hid hst
          have he2 : s.toList.isEmpty = false := by simpa using he
          clear hst
          go_wp2_with (first | (go_at_call 14; refine (tw_add1 HT.out s hsz hrg.out).mono ?_; rintro e w3 ⟨rfl, hT3⟩; have HT3 := Lib.hid hT3; have hcell3 := tw_str HT3.out HC0.out; clear hT3) | (go_at_call 32; refine (tw_add2 HT3.out s hsz hrg.out).mono ?_; rintro e w4 ⟨rfl, hT4⟩; have HT4 := Lib.hid hT4; have hcell4 := tw_str HT4.out HC0.out; clear hT4))
          have hst4 := HT4.out
          rw [← HST.out] at hst4
          have HT5 := Lib.hid hst4
          generalize step n st s = st5 at *
          have hx : Hid (cnt n st5.1 s = cnt n st5.1 s) := Lib.hid rfl
          obtain ⟨x, hx⟩ : ∃ x, cnt n st5.1 s = x := ⟨_, rfl⟩
          obtain ⟨y, hy⟩ : ∃ y, st5.2 = y := ⟨_, rfl⟩
          have hc2 := tw_cell HT5.out y hy
          have HX := Lib.hid hx
          have HY := Lib.hid hy
          have KEEP : Hid (∀ w', Tw b c b' c' n w st5 st5 w' → w'.cell? ⟨ab, ao + k, none⟩ = some (.string s) ∧ w'.cell? ⟨b', 2, none⟩ = some (.int .i64 y)) :=
            Lib.hid (fun w' h => ⟨tw_str h HC0.out, tw_cell h y HY.out⟩)
          clear hst4 hx hy HT4 HT
          go_region_held3 (fun w' => w'.cell? ⟨ab, ao + k, none⟩ = some (.string s) ∧ w'.cell? ⟨b', 2, none⟩ = some (.int .i64 y))
            (first
              | go_keep
              | exact KEEP.out _ (by assumption)
              | exact KEEP.out _ HT5.out)
            (first
              | (go_at_call 15; refine (tw_cnt1 (s1 := st5) (s2 := st5) (w0 := w) (by first | assumption | exact HT5.out | exact HT5.out.drew | exact Tw.drew (by assumption)) s hsz x HX.out).mono ?_; rintro e w5 ⟨rfl, hT5⟩)
              | (go_at_call 33; refine (tw_cnt2 (s1 := st5) (s2 := st5) (w0 := w) (by first | assumption | exact HT5.out | exact HT5.out.drew | exact Tw.drew (by assumption)) s hsz x HX.out).mono ?_; rintro e w6 ⟨rfl, hT6⟩)
              | (go_at_call 34; refine (tw_sum1 (s1 := st5) (s2 := st5) (w0 := w) (by first | assumption | exact HT5.out | exact HT5.out.drew | exact Tw.drew (by assumption)) y HY.out).mono ?_; rintro e w7 ⟨rfl, rfl⟩))
          all_goals
            go_wp2_with fail
            go_roundw
            case rel => exact ⟨k + 1, by omega, by go_num, by rw [HP.out]; first | assumption | exact HT5.out | exact HT5.out.drew | exact Tw.drew (by assumption)⟩
            case measure => simp [intOf]; omega
      · have hends : decide (k < l.length) = true ∧ decide ((k : Int) < 300) = false ∨ decide (k < l.length) = false := by
          simp only [decide_eq_true_eq, decide_eq_false_iff_not]; omega
        generalize steps n (l.take k) = st at *
        have hh := tw_head ht
        have HT := Lib.hid ht
        clear ht
        rcases hends with ⟨hli, hgd⟩ | hli
        all_goals
          go_wp2_with fail
          go_region_held3 (fun w' => w'.cell? ⟨b', 0, none⟩ = some (.slice (some ⟨c', 0, none⟩) (4 * n) (4 * n)))
            (first
              | go_keep
              | exact tw_head (s1 := st) (st := st) (w0 := w) (by assumption)
              | exact tw_head (s1 := st) (st := st) (w0 := w) (hT6.still hb7))
            (first
              | (go_at_call 36; refine (cells_sq b c n st.1 st.2 _ (by first | exact HT.out.sq | exact HT.out.drew.sq)).mono ?_; rintro e w5 ⟨v, rfl, hov, hb5⟩; obtain ⟨gA, gc, rfl⟩ := own_form hov; have hT5 : Tw b c b' c' n w st st w5 := (by first | exact HT.out.still hb5 | exact HT.out.drew.still hb5))
              | (go_at_call 35; refine (tw_numbers (w0 := w) (st := st) hT5 hov).mono ?_; rintro e w6 ⟨rfl, hT6⟩)
              | (go_at_call 16; refine (known_calls _).mono ?_; rintro e w7 ⟨rfl, hb7⟩))
          go_wp2_with fail
          go_ret
          exact ⟨rfl, hT6.below.trans (hb7.mono hT6.below.size)⟩

end Go.Proofs.Ytlencmliaephjaa.Sw
