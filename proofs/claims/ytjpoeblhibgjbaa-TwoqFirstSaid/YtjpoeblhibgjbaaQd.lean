/- 2Q in memory: Evict. -/
import Derived.Test.YtjpoeblhibgjbaaQc
import Derived.Deep.RegionHeld3
import Derived.Deep.LoopGhost
namespace Go.Proofs.Ytjpoeblhibgjbaa.Eg
open Go Go.RowKit Go.Proofs.Ytjpoeblhibgjbaa.K
open Go.Proofs.Ytjpoeblhibgjbaa.Li (more more_lt)
open Go.Proofs.Ytjpoeblhibgjbaa.Rw

section
variable {w : World} {b c : Nat} {F : Nat → Prop} {K : Ks}

/-- An act's end: the engine as K', all its memory where it was, or new. -/
def Act (v : Value) (b : Nat) (F : Nat → Prop) (c : Nat) (K' : Ks) (w : World) (e : Ending) (w' : World) : Prop :=
  e = .returned v ∧ Eng w' b (more F w w') c K' ∧ Upd F w w'

theorem evict_none (h : Eng w b F c K) (h0 : len K = 0) :
    Calls Try.prog 28 #[.pointer (some ⟨b, 0, none⟩)] w fun e w' => e = .returned (.tuple #[.string ByteArray.empty, .bool false]) ∧ Below w.heap.size w w' := by
  have L := Lib.hid (eng_len h)
  rw [h0] at L
  clear h h0
  go_enter Try.func28, Try.ntmps28
  go_wp2_with fail
  refine L.out.mono ?_
  rintro e w4 ⟨rfl, hb4⟩
  go_wp2_with fail
  go_ret2
  exact ⟨rfl, hb4⟩

theorem below_on {w w1 w2 : World} (h : Below w.heap.size w w1) (k : Below w1.heap.size w1.drew w2) : Below w.heap.size w w2 := (below_drewN h 1).trans (k.mono h.size)
theorem below_next {w w1 w2 : World} (h : Below w.heap.size w w1) (k : Below w1.heap.size w1 w2) : Below w.heap.size w w2 := h.trans (k.mono h.size)

/-- many, of one row, in a world with one new block. -/
theorem many_1 {s cap bx : Nat} {G : Nat → Prop} (hr : Rw.Rows 3 w (rv s 3 cap bx) G K) (hi : Inv c K) {w1 : World} (hb : Below w.heap.size w w1) (r : Nat) (h3 : r < 3) {z : Int} (hz : z = (r : Int)) :
    Calls Try.prog 45 #[.agg #[.slice (some ⟨s, 0, none⟩) 3 cap, .pointer (some ⟨bx, 0, none⟩)], .slice (some ⟨w1.heap.size, 0, none⟩) 1 1] (w1.alloc (.cells #[.int .i64 z] 3)) fun e w' => e = .returned (.int .i64 ((K r).length : Int)) ∧ Below w1.heap.size w1 w' := by
  subst hz
  have hl1 := hi.len1
  have := many_at hr (w' := w1.alloc (.cells #[.int .i64 (r : Int)] 3)) (hb.alloc hb.size _) [r] (by simp; exact h3) (a := w1.heap.size) (m := 1) rfl 1 (T := 3) (heap_alloc_new w1 _) (by simp) (by
    rw [total_1]
    match r, h3 with
    | 0, _ => omega
    | 1, _ => omega
    | 2, _ => omega)
  rw [total_1] at this
  exact this.mono fun e w' ⟨he, hb'⟩ => ⟨he, ((Below.refl _ _).alloc (Nat.le_refl _) _).trans (hb'.mono (by simp))⟩

/-- The rows' value, as it stands in the frame. -/
abbrev rva (s cap bx : Nat) : Value := .agg #[.slice (some ⟨s, 0, none⟩) 3 cap, .pointer (some ⟨bx, 0, none⟩)]

theorem oldest_at {s cap bx : Nat} {G : Nat → Prop} (hr : Rw.Rows 3 w (rva s cap bx) G K) (r : Nat) (h3 : r < 3) {z : Int} (hz : z = (r : Int)) {k : ByteArray} {t : List ByteArray} (hK : K r = k :: t) :
    Calls Try.prog 52 #[rva s cap bx, .int .i64 z] w fun e w' => e = .returned (.string k) ∧ Below w.heap.size w w' := by
  subst hz
  exact rows_oldest hr h3 hK

theorem more_eq {F : Nat → Prop} {w w' : World} (hu : Upd F w w') : Step F w (more F w w') w' := ⟨hu, fun k hk => by
  rcases hk with h | h
  · exact .inl h
  · exact .inr h.1⟩

/-- What drop and push leave. -/
def RPost (v : Value) (G : Nat → Prop) (K' : Ks) (w : World) (e : Ending) (w' : World) : Prop :=
  e = .returned (.tuple #[]) ∧ ∃ H, Rw.Rows 3 w' v H K' ∧ Step G w H w'

theorem drop_at {s cap bx : Nat} {G : Nat → Prop} (hr : Rw.Rows 3 w (rva s cap bx) G K) {key : ByteArray} (hk : key.size ≤ 40) :
    Calls Try.prog 43 #[rva s cap bx, .string key] w (RPost (rva s cap bx) G (less K key) w) :=
  (rows_drop hr (by omega)).mono fun _ _ ⟨he, h1, h2⟩ => ⟨he, _, h1, more_eq h2⟩

theorem push_at' {s cap bx : Nat} {G : Nat → Prop} (hr : Rw.Rows 3 w (rva s cap bx) G K) {key : ByteArray} (hk : key.size ≤ 40) (r : Nat) (h3 : r < 3) {z : Int} (hz : z = (r : Int)) (hl : ∀ q, q < 3 → (K q).length ≤ 80000) :
    Calls Try.prog 42 #[rva s cap bx, .int .i64 z, .string key] w (RPost (rva s cap bx) G (push K r key) w) := by
  subst hz
  refine (rows_push hr (by omega) h3 (by have := hl r h3; omega) ?_).mono fun _ _ ⟨he, h1, h2⟩ => ⟨he, _, h1, more_eq h2⟩
  have h0 := hl 0 (by omega)
  have h1 := hl 1 (by omega)
  have h2 := hl 2 (by omega)
  show (K 0).length + ((K 1).length + ((K 2).length + 0)) ≤ 240000
  omega

/-- The engine's own block. -/
def Blk (w : World) (b s cap bx c : Nat) : Prop :=
  w.heap[b]? = some (.cells #[.slice (some ⟨s, 0, none⟩) 3 cap, .pointer (some ⟨bx, 0, none⟩), .int .i64 (c : Int), .int .i64 (kin c : Int), .int .i64 (kout c : Int)] 56 (0, 0))

/-- An engine in the midst of an act: from w on, its rows are K in a world behind. -/
structure Mid (w0 : World) (b s cap bx c : Nat) (F G : Nat → Prop) (H : Nat → Prop) (K : Ks) (w : World) : Prop where
  blk : Blk w b s cap bx c
  rows : Rw.Rows 3 w (rva s cap bx) H K
  ngb : ¬ G b
  gf : ∀ k, G k → F k
  fb : F b
  flt : ∀ k, F k → k < w0.heap.size
  step : Step G w0 H w

theorem Eng.mid (h : Eng w b F c K) : ∃ s cap bx G, Mid w b s cap bx c F G G K w := by
  obtain ⟨s, cap, bx, G, h1, h2, h3, h4, h5, h6, h7⟩ := h
  exact ⟨s, cap, bx, G, h1, h2, h4, h5, h6, h7, Step.refl _ _⟩

section
variable {w0 w w' : World} {b s cap bx c : Nat} {F G H H' : Nat → Prop} {K K' : Ks}
theorem Mid.far (h : Mid w0 b s cap bx c F G H K w) : ¬ H b := fun hh => by
  rcases h.step.grow b hh with h1 | h1
  · exact h.ngb h1
  · have := h.flt b h.fb; omega
theorem Mid.below (h : Mid w0 b s cap bx c F G H K w) (hb : Below w.heap.size w w') : Mid w0 b s cap bx c F G H K w' :=
  ⟨(hb.block b (lt_of_block h.blk)).trans h.blk, h.rows.below hb, h.ngb, h.gf, h.fb, h.flt, h.step.trans (Step.of_below hb)⟩
theorem Mid.drew (h : Mid w0 b s cap bx c F G H K w) : Mid w0 b s cap bx c F G H K w.drew := h.below (below_drewN (Below.refl _ _) 1)
theorem Mid.next (h : Mid w0 b s cap bx c F G H K w) (hr : Rw.Rows 3 w' (rva s cap bx) H' K') (hs : Step H w H' w') : Mid w0 b s cap bx c F G H' K' w' :=
  ⟨hs.upd.get h.blk h.far, hr, h.ngb, h.gf, h.fb, h.flt, h.step.trans hs⟩
theorem Mid.done (h : Mid w0 b s cap bx c F G H K w) (hi : Inv c K) : Eng w b (more F w0 w) c K ∧ Upd F w0 w := by
  have hu : Upd F w0 w := h.step.upd.mono (fun k _ hk => h.gf k hk)
  refine ⟨⟨s, cap, bx, H, h.blk, h.rows, hi, h.far, ?_, .inl h.fb, more_lt h.flt hu.size⟩, hu⟩
  intro k hk
  rcases h.step.grow k hk with h1 | h1
  · exact .inl (h.gf k h1)
  · exact .inr ⟨h1, h.rows.lt k hk⟩
theorem Mid.cells (h : Mid w0 b s cap bx c F G H K w) : w.cell? ⟨b, 0, none⟩ = some (.slice (some ⟨s, 0, none⟩) 3 cap) ∧ w.cell? ⟨b, 1, none⟩ = some (.pointer (some ⟨bx, 0, none⟩)) ∧ w.cell? ⟨b, 2, none⟩ = some (.int .i64 (c : Int)) ∧ w.cell? ⟨b, 3, none⟩ = some (.int .i64 (kin c : Int)) ∧ w.cell? ⟨b, 4, none⟩ = some (.int .i64 (kout c : Int)) := cells5 h.blk
end

/-- many, of one row, in a world with one new block. -/
theorem many_one {w0 w : World} {s cap bx : Nat} {G H : Nat → Prop} (h : Mid w0 b s cap bx c F G H K w) (r : Nat) (h3 : r < 3) {z : Int} (hz : z = (r : Int)) (hl : (K r).length ≤ 80000) :
    Calls Try.prog 45 #[rva s cap bx, .slice (some ⟨w.heap.size, 0, none⟩) 1 1] (w.alloc (.cells #[.int .i64 z] 3)) fun e w' => e = .returned (.int .i64 ((K r).length : Int)) ∧ Below w.heap.size w w' := by
  subst hz
  have := many_at h.rows (w' := w.alloc (.cells #[.int .i64 (r : Int)] 3)) ((Below.refl _ _).alloc (Nat.le_refl _) _) [r] (by simp; exact h3) (a := w.heap.size) (m := 1) rfl 1 (T := 3) (heap_alloc_new w _) (by simp) (by rw [total_1]; omega)
  rw [total_1] at this
  exact this.mono fun e w' ⟨he, hb'⟩ => ⟨he, ((Below.refl _ _).alloc (Nat.le_refl _) _).trans (hb'.mono (by simp))⟩

set_option maxHeartbeats 800000 in
theorem evict_am (h : Eng w b F c K) {k : ByteArray} {t : List ByteArray} (h0 : (K 0).length ≤ kin c) (h2 : K 2 = k :: t) :
    Calls Try.prog 28 #[.pointer (some ⟨b, 0, none⟩)] w (Act (.tuple #[.string k, .bool true]) b F c (less K k) w) := by
  have L := Lib.hid (eng_len h)
  have HI := Lib.hid h.inv
  have hkin : kin c ≤ 1024 := by have := h.inv.c2; unfold kin; omega
  have hl1 := h.inv.len1
  have hks : k.size ≤ 40 := h.inv.small 2 (by omega) k (by rw [h2]; exact List.mem_cons_self ..)
  obtain ⟨s, cap, bx, G, hm⟩ := h.mid
  have hp : (0 : Int) < (len K : Int) := by unfold len; rw [h2]; simp; omega
  have hB : 0 < (K 2).length := by rw [h2]; simp
  have HM := Lib.hid hm
  have H2 := Lib.hid h2
  have M0 := Lib.hid (fun w1 (h : Mid w b s cap bx c F G G K w1) => many_one h 0 (by omega) (z := 0) rfl (by omega))
  have M2 := Lib.hid (fun w1 (h : Mid w b s cap bx c F G G K w1) => many_one h 2 (by omega) (z := 2) rfl (by omega))
  clear h h2 hm
  generalize len K = n at *
  generalize (K 2).length = B at *
  generalize (K 0).length = A at *
  have dA : decide (A ≤ kin c) = true := by simpa using h0
  have dB : decide (0 < B) = true := by simpa using hB
  go_enter Try.func28, Try.ntmps28
  go_wp2_with fail
  refine L.out.mono ?_
  rintro e w1 ⟨rfl, hb1⟩
  have HM1 := Lib.hid (HM.out.below hb1)
  obtain ⟨c0, c1, c2, c3, c4⟩ := HM1.out.cells
  clear hb1
  go_wp2_with fail
  go_region_held3 (fun w' => w'.cell? ⟨b, 0, none⟩ = some (.slice (some ⟨s, 0, none⟩) 3 cap) ∧ w'.cell? ⟨b, 1, none⟩ = some (.pointer (some ⟨bx, 0, none⟩)) ∧ w'.cell? ⟨b, 3, none⟩ = some (.int .i64 (kin c : Int)))
    (first | (go_keep; done) | exact ⟨by assumption, by assumption, by assumption⟩)
    (first | (go_at_call 45; refine (M2.out w2 HM2.out).mono ?_; rintro e w3 ⟨rfl, hb3⟩; have HM3 := Lib.hid (HM2.out.below hb3); have p := HM3.out.cells; have p0 := p.1; have p1 := p.2.1; have p3 := p.2.2.2.1; clear hb3 p) | (go_at_call 45; refine (M0.out w1.drew HM1.out.drew).mono ?_; rintro e w2 ⟨rfl, hb2⟩; have HM2 := Lib.hid (HM1.out.drew.below hb2); have q := HM2.out.cells; have q0 := q.1; have q1 := q.2.1; have q3 := q.2.2.2.1; clear hb2 q))
  go_wp2_with fail
  refine (oldest_at HM3.out.rows 2 (by omega) (z := 2) rfl H2.out).mono ?_
  rintro e w4 ⟨rfl, hb4⟩
  have HM4 := Lib.hid (HM3.out.below hb4)
  obtain ⟨c0, c1, c2, c3, c4⟩ := HM4.out.cells
  clear hb4
  go_wp2_with fail
  refine (drop_at HM4.out.rows hks).mono ?_
  rintro e w5 ⟨rfl, H, hr5, hs5⟩
  have HM5 := Lib.hid (HM4.out.next hr5 hs5)
  clear hr5 hs5
  go_wp2_with fail
  go_ret2
  exact ⟨rfl, HM5.out.done (HI.out.less k)⟩

/-- The loop behind Evict: too many ghosts, or not. -/
def TrimRel (w0 : World) (b s cap bx c : Nat) (F G : Nat → Prop) (P : Ks) (kk : Nat) (w : World) : Prop :=
  ∃ Q H, Mid w0 b s cap bx c F G H Q w ∧ ((kk = 1 ∧ Q = P ∧ kout c < (P 1).length) ∨ (kk = 0 ∧ Q = trim c P ∧ (trim c P 1).length ≤ kout c))

theorem inv_trim (hi : Inv c K) {k : ByteArray} {t : List ByteArray} (h0 : ¬ ((K 0).length ≤ kin c ∧ 0 < (K 2).length)) (h2 : K 0 = k :: t) : Inv c (trim c (push K 1 k)) := by
  have he := evict_facts hi (by unfold len; rw [h2]; simp; omega)
  rcases evict_cases hi with ⟨e, -⟩ | ⟨-, k', t', e1, e2, -⟩ | ⟨-, -, k', t', e2, e3, -⟩
  · unfold len at e; rw [h2] at e; simp at e
  · exact absurd ⟨e1, by rw [e2]; simp⟩ h0
  · obtain ⟨k2, K2, e4, -, e5, -⟩ := he
    rw [e3] at e4
    rw [h2] at e2
    cases e2
    cases e4
    exact e5

theorem trim_start {s cap bx : Nat} {G H : Nat → Prop} {P : Ks} {w0 : World} (h : Mid w0 b s cap bx c F G H P w) : ∃ kk, TrimRel w0 b s cap bx c F G P kk w := by
  by_cases e : kout c < (P 1).length
  · exact ⟨1, P, H, h, .inl ⟨rfl, rfl, e⟩⟩
  · refine ⟨0, P, H, h, .inr ⟨rfl, ?_, ?_⟩⟩
    · unfold trim; rw [if_neg e]
    · unfold trim; rw [if_neg e]; omega

set_option maxHeartbeats 1600000 in
theorem evict_in (h : Eng w b F c K) {k : ByteArray} {t : List ByteArray} (h0 : ¬ ((K 0).length ≤ kin c ∧ 0 < (K 2).length)) (h2 : K 0 = k :: t) :
    Calls Try.prog 28 #[.pointer (some ⟨b, 0, none⟩)] w (Act (.tuple #[.string k, .bool true]) b F c (trim c (push K 1 k)) w) := by
  have L := Lib.hid (eng_len h)
  have HI := Lib.hid h.inv
  have hkin : kin c ≤ 1024 := by have := h.inv.c2; unfold kin; omega
  have hl1 := h.inv.len1
  have hks : k.size ≤ 40 := h.inv.small 0 (by omega) k (by rw [h2]; exact List.mem_cons_self ..)
  obtain ⟨s, cap, bx, G, hm⟩ := h.mid
  have IT0 := inv_trim h.inv h0 h2
  have hp : (0 : Int) < (len K : Int) := by unfold len; rw [h2]; simp; omega
  have HM := Lib.hid hm
  have H2 := Lib.hid h2
  have M0 := Lib.hid (fun w1 (h : Mid w b s cap bx c F G G K w1) => many_one h 0 (by omega) (z := 0) rfl (by omega))
  have M2 := Lib.hid (fun w1 (h : Mid w b s cap bx c F G G K w1) => many_one h 2 (by omega) (z := 2) rfl (by omega))
  clear h h2 hm
  generalize len K = n at *
  generalize (K 2).length = B at *
  generalize (K 0).length = A at *
  have SP : Hid (Sep (push K 1 k)) := Lib.hid (HI.out.sep.push hks)
  have HP1 : Hid ((push K 1 k 1).length ≤ kout c + 1) := Lib.hid (by rw [push_len]; have := less_length K k 1; have := HI.out.gh; omega)
  have HLQ : Hid (∀ q, q < 3 → (K q).length ≤ 80000) := Lib.hid (fun q hq => by
    have := HI.out.len1
    match q, hq with
    | 0, _ => omega
    | 1, _ => omega
    | 2, _ => omega)
  have hko : kout c ≤ 1024 := by have := HI.out.c2; unfold kout; omega
  have TL : Hid ((trim c (push K 1 k) 1).length ≤ kout c) := Lib.hid (by
    rw [trim_1 SP.out]
    have := HP1.out
    split
    · rw [List.length_tail]; omega
    · omega)
  have IT := Lib.hid IT0
  clear IT0
  by_cases hA : A ≤ kin c
  · have dA : decide (A ≤ kin c) = true := by simpa using hA
    have hB : B = 0 := by omega
    subst hB
    go_enter Try.func28, Try.ntmps28
    go_wp2_with fail
    refine L.out.mono ?_
    rintro e w1 ⟨rfl, hb1⟩
    have HM1 := Lib.hid (HM.out.below hb1)
    obtain ⟨c0, c1, c2, c3, c4⟩ := HM1.out.cells
    clear hb1
    go_wp2_with fail
    go_region_held3 (fun w' => w'.cell? ⟨b, 0, none⟩ = some (.slice (some ⟨s, 0, none⟩) 3 cap) ∧ w'.cell? ⟨b, 1, none⟩ = some (.pointer (some ⟨bx, 0, none⟩)) ∧ w'.cell? ⟨b, 3, none⟩ = some (.int .i64 (kin c : Int)))
      (first | (go_keep; done) | exact ⟨by assumption, by assumption, by assumption⟩)
      (first | (go_at_call 45; refine (M2.out w2 HM2.out).mono ?_; rintro e w3 ⟨rfl, hb3⟩; have HM3 := Lib.hid (HM2.out.below hb3); have p := HM3.out.cells; have p0 := p.1; have p1 := p.2.1; have p3 := p.2.2.2.1; clear hb3 p) | (go_at_call 45; refine (M0.out w1.drew HM1.out.drew).mono ?_; rintro e w2 ⟨rfl, hb2⟩; have HM2 := Lib.hid (HM1.out.drew.below hb2); have q := HM2.out.cells; have q0 := q.1; have q1 := q.2.1; have q3 := q.2.2.2.1; clear hb2 q))
    go_wp2_with fail
    refine (oldest_at HM3.out.rows 0 (by omega) (z := 0) rfl H2.out).mono ?_
    rintro e w4 ⟨rfl, hb4⟩
    have HM4 := Lib.hid (HM3.out.below hb4)
    obtain ⟨c0, c1, c2, c3, c4⟩ := HM4.out.cells
    clear hb4
    go_wp2_with fail
    refine (push_at' HM4.out.rows hks 1 (by omega) (z := 1) rfl HLQ.out).mono ?_
    rintro e w5 ⟨rfl, H5, hr5, hs5⟩
    have HM5 := Lib.hid (HM4.out.next hr5 hs5)
    clear hr5 hs5
    obtain ⟨kk, hkk⟩ := trim_start HM5.out
    go_wp2_with fail
    go_loopg [] kk (fun kk wr => TrimRel w b s cap bx c F G (push K 1 k) kk wr)
    case atStart => exact hkk
    case round =>
      obtain ⟨Q, H, hm, hq⟩ := hrel
      have HMQ := Lib.hid hm
      obtain ⟨d0, d1, d2, d3, d4⟩ := hm.cells
      clear hm
      rcases hq with ⟨rfl, rfl, hlt⟩ | ⟨rfl, rfl, hle⟩
      · have hln : (push K 1 k 1).length ≤ 80000 := by have := HP1.out; omega
        have ML := Lib.hid (many_one HMQ.out.drew 1 (by omega) (z := 1) rfl hln)
        obtain ⟨t1, ht1⟩ := oldest_cons (push K 1 k 1) (by omega)
        have hos : (oldest (push K 1 k 1)).size ≤ 40 := SP.out.small 1 (by omega) _ (oldest_mem (by omega))
        have HT1 := Lib.hid ht1
        have HTR : Hid (trim c (push K 1 k) = less (push K 1 k) (oldest (push K 1 k 1))) := Lib.hid (by unfold trim; rw [if_pos hlt])
        clear ht1
        generalize oldest (push K 1 k 1) = y at *
        generalize (push K 1 k 1).length = L1 at *
        have dL : decide (kout c < L1) = true := by simpa using hlt
        go_wp2_with fail
        go_region_held3 (fun w' => w'.cell? ⟨b, 0, none⟩ = some (.slice (some ⟨s, 0, none⟩) 3 cap) ∧ w'.cell? ⟨b, 1, none⟩ = some (.pointer (some ⟨bx, 0, none⟩)) ∧ w'.cell? ⟨b, 4, none⟩ = some (.int .i64 (kout c : Int)))
          (first | (go_keep; done) | exact ⟨by assumption, by assumption, by assumption⟩)
          (first | (go_at_call 45; refine ML.out.mono ?_; rintro e w6 ⟨rfl, hb6⟩; have HM6 := Lib.hid (HMQ.out.drew.below hb6); have q := HM6.out.cells; have q0 := q.1; have q1 := q.2.1; have q4 := q.2.2.2.2; clear hb6 q))
        go_wp2_with fail
        go_region_held3 (fun w' => w'.cell? ⟨b, 0, none⟩ = some (.slice (some ⟨s, 0, none⟩) 3 cap) ∧ w'.cell? ⟨b, 1, none⟩ = some (.pointer (some ⟨bx, 0, none⟩)))
          (first | (go_keep; done) | exact ⟨by assumption, by assumption⟩)
          (first | (go_at_call 52; refine (oldest_at HM6.out.drew.rows 1 (by omega) (z := 1) rfl HT1.out).mono ?_; rintro e w7 ⟨rfl, hb7⟩; have HM7 := Lib.hid (HM6.out.drew.below hb7); have p := HM7.out.cells; have p0 := p.1; have p1 := p.2.1; clear hb7 p) | (go_at_call 43; refine (drop_at HM7.out.rows hos).mono ?_; rintro e w8 ⟨rfl, H8, hr8, hs8⟩; have HM8 := Lib.hid (HM7.out.next hr8 hs8); have r := HM8.out.cells; have r0 := r.1; have r1 := r.2.1; clear hr8 hs8 r))
        go_wp2_with fail
        go_roundg 0
        case measure => omega
        case rel => exact ⟨_, _, HM8.out, .inr ⟨rfl, HTR.out.symm, TL.out⟩⟩
      · have hln : (trim c (push K 1 k) 1).length ≤ 80000 := by omega
        have ML := Lib.hid (many_one HMQ.out.drew 1 (by omega) (z := 1) rfl hln)
        generalize (trim c (push K 1 k) 1).length = L1 at *
        have dL : decide (kout c < L1) = false := by simp; omega
        go_wp2_with fail
        go_region_held3 (fun w' => w'.cell? ⟨b, 0, none⟩ = some (.slice (some ⟨s, 0, none⟩) 3 cap) ∧ w'.cell? ⟨b, 1, none⟩ = some (.pointer (some ⟨bx, 0, none⟩)) ∧ w'.cell? ⟨b, 4, none⟩ = some (.int .i64 (kout c : Int)))
          (first | (go_keep; done) | exact ⟨by assumption, by assumption, by assumption⟩)
          (first | (go_at_call 45; refine ML.out.mono ?_; rintro e w6 ⟨rfl, hb6⟩; have HM6 := Lib.hid (HMQ.out.drew.below hb6); have q := HM6.out.cells; have q0 := q.1; have q1 := q.2.1; have q4 := q.2.2.2.2; clear hb6 q))
        go_wp2_with fail
        go_ret2
        exact ⟨rfl, HM6.out.done IT.out⟩
  · have dA : decide (A ≤ kin c) = false := by simpa using hA
    go_enter Try.func28, Try.ntmps28
    go_wp2_with fail
    refine L.out.mono ?_
    rintro e w1 ⟨rfl, hb1⟩
    have HM1 := Lib.hid (HM.out.below hb1)
    obtain ⟨c0, c1, c2, c3, c4⟩ := HM1.out.cells
    clear hb1
    go_wp2_with fail
    refine wp_region_held_drew (S := fun w' => w'.cell? ⟨b, 0, none⟩ = some (.slice (some ⟨s, 0, none⟩) 3 cap) ∧ w'.cell? ⟨b, 1, none⟩ = some (.pointer (some ⟨bx, 0, none⟩)) ∧ w'.cell? ⟨b, 3, none⟩ = some (.int .i64 (kin c : Int))) (by kernel_rfl) ?_ (fun hHeld => ?_)
    · exact ⟨c0, c1, c3⟩
    refine wpAnyH_take (i := 0) (v := ?_) rfl (by kernel_rfl) (by kernel_rfl) (by kernel_rfl) (fun _ _ _ h => h) (Or.inl ⟨by rfl, ?_⟩) (by assumption) ?_
    rotate_left
    · (intro w hSw; (try dsimp only at hSw); go_simp; first | done | with_reducible rfl)
    simp only [Act.put, List.getElem_toArray, List.getElem_cons_zero, List.setIfInBounds_toArray, List.set_cons_zero, List.set_cons_succ]
    refine wpAnyH_take (i := 1) (v := ?_) rfl (by kernel_rfl) (by kernel_rfl) (by kernel_rfl) (fun _ _ _ h => h) (Or.inl ⟨by rfl, ?_⟩) (by assumption) ?_
    rotate_left
    · (intro w hSw; (try dsimp only at hSw); go_simp; first | done | with_reducible rfl)
    simp only [Act.put, List.getElem_toArray, List.getElem_cons_zero, List.getElem_cons_succ, List.setIfInBounds_toArray, List.set_cons_zero, List.set_cons_succ]
    refine wpAnyH_take (i := 2) (v := ?_) rfl (by kernel_rfl) (by kernel_rfl) (by kernel_rfl) (fun _ _ _ h => h) (Or.inl ⟨by rfl, ?_⟩) (by assumption) ?_
    rotate_left
    · (intro w hSw; (try dsimp only at hSw); go_simp; first | done | with_reducible rfl)
    simp only [Act.put, List.getElem_toArray, List.getElem_cons_zero, List.getElem_cons_succ, List.setIfInBounds_toArray, List.set_cons_zero, List.set_cons_succ]
    refine wpAnyH_take (i := 3) (v := ?_) rfl (by kernel_rfl) (by kernel_rfl) (by kernel_rfl) (fun _ _ _ h => h) (Or.inl ⟨by rfl, ?_⟩) (by assumption) ?_
    rotate_left
    · (intro w hSw; (try dsimp only at hSw); go_simp; first | done | with_reducible rfl)
    simp only [Act.put, List.getElem_toArray, List.getElem_cons_zero, List.getElem_cons_succ, List.setIfInBounds_toArray, List.set_cons_zero, List.set_cons_succ]
    refine wpAnyH_take (i := 6) (v := ?_) rfl (by kernel_rfl) (by kernel_rfl) (by kernel_rfl) (fun _ _ _ h => h) (Or.inl ⟨by rfl, ?_⟩) (by assumption) ?_
    rotate_left
    · (intro w hSw; (try dsimp only at hSw); go_simp; first | done | with_reducible rfl)
    simp only [Act.put, List.getElem_toArray, List.getElem_cons_zero, List.getElem_cons_succ, List.setIfInBounds_toArray, List.set_cons_zero, List.set_cons_succ]
    refine wpAnyH_take (i := 7) (v := ?_) rfl (by kernel_rfl) (by kernel_rfl) (by kernel_rfl) (fun _ _ _ h => h) (Or.inl ⟨by rfl, ?_⟩) (by assumption) ?_
    rotate_left
    · (intro w hSw; (try dsimp only at hSw); go_simp; first | done | with_reducible rfl)
    simp only [Act.put, List.getElem_toArray, List.getElem_cons_zero, List.getElem_cons_succ, List.setIfInBounds_toArray, List.set_cons_zero, List.set_cons_succ]
    refine wpAnyH_take (i := 8) (v := ?_) rfl (by kernel_rfl) (by kernel_rfl) (by kernel_rfl) (fun _ _ _ h => h) (Or.inl ⟨by rfl, ?_⟩) (by assumption) ?_
    rotate_left
    · (intro w hSw; (try dsimp only at hSw); go_simp; first | done | with_reducible rfl)
    simp only [Act.put, List.getElem_toArray, List.getElem_cons_zero, List.getElem_cons_succ, List.setIfInBounds_toArray, List.set_cons_zero, List.set_cons_succ]
    refine wpAnyH_take (i := 9) (v := ?_) rfl (by kernel_rfl) (by kernel_rfl) (by kernel_rfl) (fun _ _ _ h => h) (Or.inl ⟨by rfl, ?_⟩) (by assumption) ?_
    rotate_left
    · (intro w hSw; (try dsimp only at hSw); go_simp; first | done | with_reducible rfl)
    simp only [Act.put, List.getElem_toArray, List.getElem_cons_zero, List.getElem_cons_succ, List.setIfInBounds_toArray, List.set_cons_zero, List.set_cons_succ]
    refine wpAnyH_ready (rs := [4]) (by kernel_rfl) (by simp) ?_
    refine AllReadyH.cons rfl (fun K hK => ?_) ?_
    rotate_left
    · exact AllReadyH.nil
    go_simp
    refine hK.out _ _ ?_ (fun hHeld => ?_)
    · exact ⟨cell_below ((Below.refl _ _).alloc (Nat.le_refl _) _) c0, cell_below ((Below.refl _ _).alloc (Nat.le_refl _) _) c1, cell_below ((Below.refl _ _).alloc (Nat.le_refl _) _) c3⟩
    clear hK K
    try simp only [Act.put, List.getElem_toArray, List.getElem_cons_zero, List.getElem_cons_succ, List.setIfInBounds_toArray, List.set_cons_zero, List.set_cons_succ]
    refine wpAnyH_ready (rs := [5]) (by kernel_rfl) (by simp) ?_
    refine AllReadyH.cons rfl (fun K hK => ?_) ?_
    rotate_left
    · exact AllReadyH.nil
    go_simp
    refine (M0.out w1.drew HM1.out.drew).mono ?_; rintro e w2 ⟨rfl, hb2⟩; have HM2 := Lib.hid (HM1.out.drew.below hb2); have q := HM2.out.cells; have q0 := q.1; have q1 := q.2.1; have q3 := q.2.2.2.1; clear hb2 q; go_simp
    refine hK.out _ _ ?_ (fun hHeld => ?_)
    · exact ⟨q0, q1, q3⟩
    clear hK K
    try simp only [Act.put, List.getElem_toArray, List.getElem_cons_zero, List.getElem_cons_succ, List.setIfInBounds_toArray, List.set_cons_zero, List.set_cons_succ]
    refine wpAnyH_take (i := 10) (v := ?_) rfl (by kernel_rfl) (by kernel_rfl) (by kernel_rfl) (fun _ _ _ h => h) (Or.inl ⟨by rfl, ?_⟩) (by assumption) ?_
    rotate_left
    · (intro w hSw; (try dsimp only at hSw); go_simp; first | done | with_reducible rfl)
    simp only [Act.put, List.getElem_toArray, List.getElem_cons_zero, List.getElem_cons_succ, List.setIfInBounds_toArray, List.set_cons_zero, List.set_cons_succ]
    refine wpAnyH_take (i := 11) (v := ?_) rfl (by kernel_rfl) (by kernel_rfl) (by kernel_rfl) (fun _ _ _ h => h) (Or.inl ⟨by rfl, ?_⟩) (by assumption) ?_
    rotate_left
    · (intro w hSw; (try dsimp only at hSw); go_simp; first | done | with_reducible rfl)
    simp only [Act.put, List.getElem_toArray, List.getElem_cons_zero, List.getElem_cons_succ, List.setIfInBounds_toArray, List.set_cons_zero, List.set_cons_succ]
    refine wpAnyH_take (i := 12) (v := undef) rfl (by kernel_rfl) (by kernel_rfl) (by kernel_rfl) (fun _ _ _ h => h) (Or.inr ⟨by rfl, rfl⟩) (by assumption) ?_
    simp only [Act.put, List.getElem_toArray, List.getElem_cons_zero, List.getElem_cons_succ, List.setIfInBounds_toArray, List.set_cons_zero, List.set_cons_succ]
    refine wpAnyH_take (i := 13) (v := undef) rfl (by kernel_rfl) (by kernel_rfl) (by kernel_rfl) (fun _ _ _ h => h) (Or.inr ⟨by rfl, rfl⟩) (by assumption) ?_
    simp only [Act.put, List.getElem_toArray, List.getElem_cons_zero, List.getElem_cons_succ, List.setIfInBounds_toArray, List.set_cons_zero, List.set_cons_succ]
    refine wpAnyH_take (i := 14) (v := undef) rfl (by kernel_rfl) (by kernel_rfl) (by kernel_rfl) (fun _ _ _ h => h) (Or.inr ⟨by rfl, rfl⟩) (by assumption) ?_
    simp only [Act.put, List.getElem_toArray, List.getElem_cons_zero, List.getElem_cons_succ, List.setIfInBounds_toArray, List.set_cons_zero, List.set_cons_succ]
    refine wpAnyH_take (i := 15) (v := undef) rfl (by kernel_rfl) (by kernel_rfl) (by kernel_rfl) (fun _ _ _ h => h) (Or.inr ⟨by rfl, rfl⟩) (by assumption) ?_
    simp only [Act.put, List.getElem_toArray, List.getElem_cons_zero, List.getElem_cons_succ, List.setIfInBounds_toArray, List.set_cons_zero, List.set_cons_succ]
    refine wpAnyH_take (i := 16) (v := undef) rfl (by kernel_rfl) (by kernel_rfl) (by kernel_rfl) (fun _ _ _ h => h) (Or.inr ⟨by rfl, rfl⟩) (by assumption) ?_
    simp only [Act.put, List.getElem_toArray, List.getElem_cons_zero, List.getElem_cons_succ, List.setIfInBounds_toArray, List.set_cons_zero, List.set_cons_succ]
    refine wpAnyH_take (i := 17) (v := undef) rfl (by kernel_rfl) (by kernel_rfl) (by kernel_rfl) (fun _ _ _ h => h) (Or.inr ⟨by rfl, rfl⟩) (by assumption) ?_
    simp only [Act.put, List.getElem_toArray, List.getElem_cons_zero, List.getElem_cons_succ, List.setIfInBounds_toArray, List.set_cons_zero, List.set_cons_succ]
    refine wpAnyH_take (i := 18) (v := undef) rfl (by kernel_rfl) (by kernel_rfl) (by kernel_rfl) (fun _ _ _ h => h) (Or.inr ⟨by rfl, rfl⟩) (by assumption) ?_
    simp only [Act.put, List.getElem_toArray, List.getElem_cons_zero, List.getElem_cons_succ, List.setIfInBounds_toArray, List.set_cons_zero, List.set_cons_succ]
    refine wpAnyH_take (i := 19) (v := ?_) rfl (by kernel_rfl) (by kernel_rfl) (by kernel_rfl) (fun _ _ _ h => h) (Or.inl ⟨by rfl, ?_⟩) (by assumption) ?_
    rotate_left
    · (intro w hSw; (try dsimp only at hSw); go_simp; first | done | with_reducible rfl)
    simp only [Act.put, List.getElem_toArray, List.getElem_cons_zero, List.getElem_cons_succ, List.setIfInBounds_toArray, List.set_cons_zero, List.set_cons_succ]
    refine wpAnyH_done (by kernel_rfl) ?_ _
    go_wp2_with fail
    refine (oldest_at HM2.out.rows 0 (by omega) (z := 0) rfl H2.out).mono ?_
    rintro e w4 ⟨rfl, hb4⟩
    have HM4 := Lib.hid (HM2.out.below hb4)
    obtain ⟨c0, c1, c2, c3, c4⟩ := HM4.out.cells
    clear hb4
    go_wp2_with fail
    refine (push_at' HM4.out.rows hks 1 (by omega) (z := 1) rfl HLQ.out).mono ?_
    rintro e w5 ⟨rfl, H5, hr5, hs5⟩
    have HM5 := Lib.hid (HM4.out.next hr5 hs5)
    clear hr5 hs5
    obtain ⟨kk, hkk⟩ := trim_start HM5.out
    go_wp2_with fail
    go_loopg [] kk (fun kk wr => TrimRel w b s cap bx c F G (push K 1 k) kk wr)
    case atStart => exact hkk
    case round =>
      obtain ⟨Q, H, hm, hq⟩ := hrel
      have HMQ := Lib.hid hm
      obtain ⟨d0, d1, d2, d3, d4⟩ := hm.cells
      clear hm
      rcases hq with ⟨rfl, rfl, hlt⟩ | ⟨rfl, rfl, hle⟩
      · have hln : (push K 1 k 1).length ≤ 80000 := by have := HP1.out; omega
        have ML := Lib.hid (many_one HMQ.out.drew 1 (by omega) (z := 1) rfl hln)
        obtain ⟨t1, ht1⟩ := oldest_cons (push K 1 k 1) (by omega)
        have hos : (oldest (push K 1 k 1)).size ≤ 40 := SP.out.small 1 (by omega) _ (oldest_mem (by omega))
        have HT1 := Lib.hid ht1
        have HTR : Hid (trim c (push K 1 k) = less (push K 1 k) (oldest (push K 1 k 1))) := Lib.hid (by unfold trim; rw [if_pos hlt])
        clear ht1
        generalize oldest (push K 1 k 1) = y at *
        generalize (push K 1 k 1).length = L1 at *
        have dL : decide (kout c < L1) = true := by simpa using hlt
        go_wp2_with fail
        go_region_held3 (fun w' => w'.cell? ⟨b, 0, none⟩ = some (.slice (some ⟨s, 0, none⟩) 3 cap) ∧ w'.cell? ⟨b, 1, none⟩ = some (.pointer (some ⟨bx, 0, none⟩)) ∧ w'.cell? ⟨b, 4, none⟩ = some (.int .i64 (kout c : Int)))
          (first | (go_keep; done) | exact ⟨by assumption, by assumption, by assumption⟩)
          (first | (go_at_call 45; refine ML.out.mono ?_; rintro e w6 ⟨rfl, hb6⟩; have HM6 := Lib.hid (HMQ.out.drew.below hb6); have q := HM6.out.cells; have q0 := q.1; have q1 := q.2.1; have q4 := q.2.2.2.2; clear hb6 q))
        go_wp2_with fail
        go_region_held3 (fun w' => w'.cell? ⟨b, 0, none⟩ = some (.slice (some ⟨s, 0, none⟩) 3 cap) ∧ w'.cell? ⟨b, 1, none⟩ = some (.pointer (some ⟨bx, 0, none⟩)))
          (first | (go_keep; done) | exact ⟨by assumption, by assumption⟩)
          (first | (go_at_call 52; refine (oldest_at HM6.out.drew.rows 1 (by omega) (z := 1) rfl HT1.out).mono ?_; rintro e w7 ⟨rfl, hb7⟩; have HM7 := Lib.hid (HM6.out.drew.below hb7); have p := HM7.out.cells; have p0 := p.1; have p1 := p.2.1; clear hb7 p) | (go_at_call 43; refine (drop_at HM7.out.rows hos).mono ?_; rintro e w8 ⟨rfl, H8, hr8, hs8⟩; have HM8 := Lib.hid (HM7.out.next hr8 hs8); have r := HM8.out.cells; have r0 := r.1; have r1 := r.2.1; clear hr8 hs8 r))
        go_wp2_with fail
        go_roundg 0
        case measure => omega
        case rel => exact ⟨_, _, HM8.out, .inr ⟨rfl, HTR.out.symm, TL.out⟩⟩
      · have hln : (trim c (push K 1 k) 1).length ≤ 80000 := by omega
        have ML := Lib.hid (many_one HMQ.out.drew 1 (by omega) (z := 1) rfl hln)
        generalize (trim c (push K 1 k) 1).length = L1 at *
        have dL : decide (kout c < L1) = false := by simp; omega
        go_wp2_with fail
        go_region_held3 (fun w' => w'.cell? ⟨b, 0, none⟩ = some (.slice (some ⟨s, 0, none⟩) 3 cap) ∧ w'.cell? ⟨b, 1, none⟩ = some (.pointer (some ⟨bx, 0, none⟩)) ∧ w'.cell? ⟨b, 4, none⟩ = some (.int .i64 (kout c : Int)))
          (first | (go_keep; done) | exact ⟨by assumption, by assumption, by assumption⟩)
          (first | (go_at_call 45; refine ML.out.mono ?_; rintro e w6 ⟨rfl, hb6⟩; have HM6 := Lib.hid (HMQ.out.drew.below hb6); have q := HM6.out.cells; have q0 := q.1; have q1 := q.2.1; have q4 := q.2.2.2.2; clear hb6 q))
        go_wp2_with fail
        go_ret2
        exact ⟨rfl, HM6.out.done IT.out⟩
end

end Go.Proofs.Ytjpoeblhibgjbaa.Eg
