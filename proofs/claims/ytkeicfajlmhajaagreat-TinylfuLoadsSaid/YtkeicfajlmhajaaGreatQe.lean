/- TinyLFU in memory: victim, admits. -/
import Derived.Test.YtkeicfajlmhajaaGreatQd
namespace Go.Proofs.YtkeicfajlmhajaaGreat.Eg
open Go Go.RowKit Go.Proofs.YtkeicfajlmhajaaGreat.K
open Go.Proofs.YtkeicfajlmhajaaGreat.Li (more more_lt)
open Go.Proofs.YtkeicfajlmhajaaGreat.Rw

section
variable {w0 w w' : World} {b s cap bx kb db c : Nat} {F G H : Nat → Prop} {R : Rs} {N : Nt} {K : Ks}

def VRel (w : World) (R : Rs) (kk : Nat) (v8 : Value) (wr : World) : Prop :=
  ∃ j : Nat, j ≤ 2 ∧ kk = 2 - j ∧ v8 = .int .i64 (j : Int) ∧ (1 ≤ j → (R 1).length = 0) ∧ (2 ≤ j → (R 2).length = 0) ∧ Below w.heap.size w wr ∧ wr.heap[w.heap.size]? = some (.cells #[.int .i64 1, .int .i64 2] 3 (0, 0))

set_option maxHeartbeats 800000 in
theorem victim_at (h : Mid w0 b s cap bx kb db c F G H R N w) (hl : ∀ q, q < 3 → (R q).length ≤ 80000) :
    Calls Tryz.prog 48 #[.pointer (some ⟨b, 0, none⟩)] w fun e w' => e = .returned (.tuple #[.int .i64 (vict R : Int), .bool (decide (0 < (R 1).length + (R 2).length))]) ∧ Below w.heap.size w w' := by
  have HM := Lib.hid h
  have M1 := Lib.hid (fun w1 (h : Mid w0 b s cap bx kb db c F G H R N w1) => many_one h 1 (by omega) (z := 1) rfl (hl 1 (by omega)))
  have M2 := Lib.hid (fun w1 (h : Mid w0 b s cap bx kb db c F G H R N w1) => many_one h 2 (by omega) (z := 2) rfl (hl 2 (by omega)))
  have hb0 : Below w.heap.size w (w.alloc (.cells #[.int .i64 1, .int .i64 2] 3)) := (Below.refl _ _).alloc (Nat.le_refl _) _
  have HR0 : Hid (VRel w R 2 (.int .i64 0) (w.alloc (.cells #[.int .i64 1, .int .i64 2] 3))) := Lib.hid ⟨0, by omega, rfl, rfl, by omega, by omega, hb0, heap_alloc_new w _⟩
  have HV : Hid (vict R = if 0 < (R 1).length then 1 else if 0 < (R 2).length then 2 else 0) := Lib.hid rfl
  obtain ⟨ok, hok⟩ : ∃ ok, decide (0 < (R 1).length + (R 2).length) = ok := ⟨_, rfl⟩
  rw [hok]
  have HOK := Lib.hid hok
  clear h hl hb0 hok
  go_enter Tryz.func48, Tryz.ntmps48
  go_wp2_with fail
  go_loopg [8] 2 (fun kk v8 wr => VRel w R kk v8 wr)
  case atStart => exact HR0.out
  case round =>
    obtain ⟨j, hj, hgk, rfl, h1, h2, hb, hblk⟩ := hrel
    have HM1 := Lib.hid (HM.out.below hb)
    have HB := Lib.hid hb
    have HBL := Lib.hid hblk
    obtain ⟨d0, d1, d2, d3, d4, d5, d6, d7⟩ := HM1.out.cells
    have z0 := cell_of hblk 0
    have z1 := cell_of hblk 1
    clear hb hblk
    rcases (by omega : j = 0 ∨ j = 1 ∨ j = 2) with rfl | rfl | rfl
    · have L1 := Lib.hid (M1.out _ HM1.out)
      by_cases hp : 0 < (R 1).length
      · have hv : Hid ((1 : Int) = (vict R : Int) ∧ ok = true) := Lib.hid ⟨by rw [HV.out, if_pos hp]; rfl, by rw [← HOK.out]; exact decide_eq_true (by omega)⟩
        have dp : decide (0 < (R 1).length) = true := by simpa using hp
        generalize (R 1).length = n1 at *
        go_wp2_with fail
        refine L1.out.mono ?_
        rintro e w2 ⟨rfl, hb2⟩
        have HB2 := Lib.hid (below_next HB.out hb2)
        clear hb2
        go_wp2_with fail
        go_ret2
        rw [← hv.out.1, hv.out.2]
        exact ⟨rfl, HB2.out⟩
      · have HZ : Hid ((R 1).length = 0) := Lib.hid (by omega)
        have dp : decide (0 < (R 1).length) = false := by simpa using hp
        generalize hn1 : (R 1).length = n1 at *
        go_wp2_with fail
        refine L1.out.mono ?_
        rintro e w2 ⟨rfl, hb2⟩
        have HB2 := Lib.hid (below_next HB.out hb2)
        have HBL2 := Lib.hid ((hb2.block _ (lt_of_block HBL.out)).trans HBL.out)
        clear hb2
        go_wp2_with fail
        go_roundg 1
        case measure => omega
        case rel => exact ⟨1, by omega, rfl, rfl, fun _ => by rw [hn1]; exact HZ.out, by omega, HB2.out, HBL2.out⟩
    · have hz := h1 (by omega)
      have L1 := Lib.hid (M2.out _ HM1.out)
      have HZ1 := Lib.hid hz
      by_cases hp : 0 < (R 2).length
      · have hv : Hid ((2 : Int) = (vict R : Int) ∧ ok = true) := Lib.hid ⟨by rw [HV.out, if_neg (by omega), if_pos hp]; rfl, by rw [← HOK.out]; exact decide_eq_true (by omega)⟩
        have dp : decide (0 < (R 2).length) = true := by simpa using hp
        clear hz h1 h2
        generalize (R 2).length = n2 at *
        go_wp2_with fail
        refine L1.out.mono ?_
        rintro e w2 ⟨rfl, hb2⟩
        have HB2 := Lib.hid (below_next HB.out hb2)
        clear hb2
        go_wp2_with fail
        go_ret2
        rw [← hv.out.1, hv.out.2]
        exact ⟨rfl, HB2.out⟩
      · have HZ : Hid ((R 2).length = 0) := Lib.hid (by omega)
        have dp : decide (0 < (R 2).length) = false := by simpa using hp
        clear hz h1 h2
        generalize hn2 : (R 2).length = n2 at *
        go_wp2_with fail
        refine L1.out.mono ?_
        rintro e w2 ⟨rfl, hb2⟩
        have HB2 := Lib.hid (below_next HB.out hb2)
        have HBL2 := Lib.hid ((hb2.block _ (lt_of_block HBL.out)).trans HBL.out)
        clear hb2
        go_wp2_with fail
        go_roundg 0
        case measure => omega
        case rel => exact ⟨2, by omega, rfl, rfl, fun _ => HZ1.out, fun _ => by rw [hn2]; exact HZ.out, HB2.out, HBL2.out⟩
    · have hz1 := h1 (by omega)
      have hz2 := h2 (by omega)
      have hv : Hid ((0 : Int) = (vict R : Int) ∧ ok = false) := Lib.hid ⟨by rw [HV.out, if_neg (by omega), if_neg (by omega)]; rfl, by rw [← HOK.out]; exact decide_eq_false (by omega)⟩
      clear hz1 hz2 h1 h2
      go_wp2_with fail
      go_ret2
      rw [← hv.out.1, hv.out.2]
      exact ⟨rfl, HB.out⟩

/-- What admits answers: nothing, or one key in a new slice. -/
def Lit (l : List ByteArray) (w' : World) (v : Value) : Prop :=
  (l = [] ∧ v = .slice none 0 0) ∨ ∃ g k, l = [k] ∧ v = .slice (some ⟨g, 0, none⟩) 1 1 ∧ w'.heap[g]? = some (.cells #[.string k] 9 (0, 0))
/-- What admits leaves. -/
def AdmPost (w0 : World) (b s cap bx kb db c : Nat) (F H : Nat → Prop) (l : List ByteArray) (K' : Ks) (w : World) (e : Ending) (w' : World) : Prop :=
  ∃ v G', e = .returned v ∧ MidK w0 b s cap bx kb db c F G' H K' w' ∧ Lit l w' v ∧ w.heap.size ≤ w'.heap.size

/-- An engine in the midst of an act, and its first cells. -/
def MC (w0 : World) (b s cap bx kb db c : Nat) (F G H : Nat → Prop) (K : Ks) (w w' : World) : Prop :=
  Hid (MidK w0 b s cap bx kb db c F G H K w' ∧ w.heap.size ≤ w'.heap.size) ∧ w'.cell? ⟨b, 0, none⟩ = some (.slice (some ⟨s, 0, none⟩) 3 cap) ∧ w'.cell? ⟨b, 1, none⟩ = some (.pointer (some ⟨bx, 0, none⟩))
theorem MC.of (h : MidK w0 b s cap bx kb db c F G H K w') (hs : w.heap.size ≤ w'.heap.size) : MC w0 b s cap bx kb db c F G H K w w' := ⟨Lib.hid ⟨h, hs⟩, h.cells.1, h.cells.2.1⟩

theorem often_mc {key : ByteArray} (hk : key.size ≤ 40) {w1 : World} (h : Hid (MidK w0 b s cap bx kb db c F G H K w1 ∧ w.heap.size ≤ w1.heap.size)) :
    Calls Tryz.prog 84 #[.pointer (some ⟨b, 0, none⟩), .string key] w1 fun e w' => e = .returned (.int .i64 (often c K.h key : Int)) ∧ MC w0 b s cap bx kb db c F G H K w w' :=
  (often_at h.out.1 hk).mono fun _ _ ⟨he, hb⟩ => ⟨he, MC.of (h.out.1.below hb) (Nat.le_trans h.out.2 hb.size)⟩
theorem oldest_mc {r : Nat} (hr : r < 3) (hp : 0 < (K.r r).length) {w1 : World} (h : Hid (MidK w0 b s cap bx kb db c F G H K w1 ∧ w.heap.size ≤ w1.heap.size)) :
    Calls Tryz.prog 49 #[rva s cap bx, .int .i64 (r : Int)] w1 fun e w' => e = .returned (.string (oldest (K.r r))) ∧ MC w0 b s cap bx kb db c F G H K w w' := by
  obtain ⟨t, ht⟩ := oldest_cons (K.r r) hp
  exact (oldest_at h.out.1.rows r hr rfl ht).mono fun _ _ ⟨he, hb⟩ => ⟨he, MC.of (h.out.1.below hb) (Nat.le_trans h.out.2 hb.size)⟩

set_option maxRecDepth 100000 in
set_option maxHeartbeats 1600000 in
theorem admits_at (h : MidK w0 b s cap bx kb db c F G H K w) (hs : Sep K.r) (hl : ∀ q, q < 3 → (K.r q).length ≤ 2000) (h0 : 0 < (K.r 0).length) (hc : c ≤ 1024) :
    Calls Tryz.prog 61 #[.pointer (some ⟨b, 0, none⟩)] w (AdmPost w0 b s cap bx kb db c F H (admit c K).1 (admit c K).2 w) := by
  have hx : (oldest (K.r 0)).size ≤ 40 := hs.small 0 (by omega) _ (oldest_mem h0)
  have hl1 := hl 1 (by omega)
  have hl2 := hl 2 (by omega)
  have O0 := Lib.hid (oldest_mc (w := w) (r := 0) (by omega) h0 (Lib.hid ⟨h, Nat.le_refl _⟩))
  have HL := Lib.hid (fun q hq => Nat.le_trans (hl q hq) (show 2000 ≤ 80000 by omega))
  have VT := Lib.hid (fun w1 (h : MidK w0 b s cap bx kb db c F G H K w1) => victim_at h (fun q hq => Nat.le_trans (hl q hq) (show 2000 ≤ 80000 by omega)))
  have M2 := Lib.hid (fun w1 (h : MidK w0 b s cap bx kb db c F G H K w1) => many_two h (by omega))
  have OF := Lib.hid (fun w1 (k : ByteArray) (hk : k.size ≤ 40) => often_mc (w0 := w0) (b := b) (s := s) (cap := cap) (bx := bx) (kb := kb) (db := db) (c := c) (F := F) (G := G) (H := H) (K := K) (w := w) hk (w1 := w1))
  have hA : admit c K = if (K.r 1).length + (K.r 2).length < mainr c then ([], ⟨push K.r 1 (oldest (K.r 0)), K.h⟩)
      else if (K.r 1).length + (K.r 2).length = 0 ∨ often c K.h (oldest (K.r 0)) ≤ often c K.h (oldest (K.r (vict K.r))) then ([oldest (K.r 0)], ⟨less K.r (oldest (K.r 0)), K.h⟩)
      else ([oldest (K.r (vict K.r))], ⟨push (less K.r (oldest (K.r (vict K.r)))) 1 (oldest (K.r 0)), K.h⟩) := rfl
  have hm : mainr c ≤ 1024 := by unfold mainr; omega
  have HV3 := Lib.hid (vict_lt K.r)
  have HVP : Hid (0 < (K.r 1).length + (K.r 2).length → 0 < (K.r (vict K.r)).length) := Lib.hid (fun hp => vict_some (by unfold ln; omega))
  obtain ⟨c0, c1, c2, c3, c4, c5, c6, c7⟩ := h.cells
  have HM := Lib.hid h
  have HS := Lib.hid hs
  generalize hn : (K.r 1).length + (K.r 2).length = n at *
  have hn2 : n ≤ 4000 := by omega
  by_cases h1 : n < mainr c
  · rw [if_pos h1] at hA
    rw [hA]
    generalize oldest (K.r 0) = x at *
    generalize vict K.r = vr at *
    have d1 : decide (n < mainr c) = true := by simpa using h1
    clear h hs hl h0 hA hn HV3 HVP
    go_enter Tryz.func61, Tryz.ntmps61
    go_wp2_with fail
    refine O0.out.mono ?_
    rintro e w1 ⟨rfl, HM1, p0, p1⟩
    go_wp2_with fail
    refine (VT.out _ HM1.out.1).mono ?_
    rintro e w2 ⟨rfl, hb2⟩
    have HM2 := Lib.hid (HM1.out.1.below hb2)
    have HZ2 : Hid (w.heap.size ≤ w2.heap.size) := Lib.hid (Nat.le_trans HM1.out.2 hb2.size)
    obtain ⟨e0, e1, e2, e3, e4, e5, e6, e7⟩ := HM2.out.cells
    clear hb2
    go_wp2_with fail
    go_region_held3 (fun w' => w'.cell? ⟨b, 0, none⟩ = some (.slice (some ⟨s, 0, none⟩) 3 cap) ∧ w'.cell? ⟨b, 1, none⟩ = some (.pointer (some ⟨bx, 0, none⟩)) ∧ w'.cell? ⟨b, 4, none⟩ = some (.int .i64 (mainr c : Int)))
      (first | (go_keep; done) | exact ⟨by assumption, by assumption, by assumption⟩)
      (first | (go_at_call 51; refine (M2.out w2.drew HM2.out.drew).mono ?_; rintro e w3 ⟨rfl, hb3⟩; have HM3 := Lib.hid (HM2.out.drew.below hb3); have HZ3 : Hid (w.heap.size ≤ w3.heap.size) := Lib.hid (Nat.le_trans HZ2.out hb3.size); have p := HM3.out.cells; have p0 := p.1; have p1 := p.2.1; have p4 := p.2.2.2.2.1; clear hb3 p))
    go_wp2_with fail
    refine (push_at' HM3.out.rows hx 1 (by omega) (z := 1) rfl HL.out).mono ?_
    rintro e w4 ⟨rfl, G4, hr4, hs4⟩
    have HM4 := Lib.hid (HM3.out.rown hr4 hs4)
    have HZ4 : Hid (w.heap.size ≤ w4.heap.size) := Lib.hid (Nat.le_trans HZ3.out hs4.upd.size)
    clear hr4 hs4
    go_wp2_with fail
    go_ret
    exact ⟨_, G4, rfl, HM4.out, .inl ⟨rfl, rfl⟩, HZ4.out⟩
  · rw [if_neg h1] at hA
    have d1 : decide (n < mainr c) = false := by simpa using h1
    by_cases hz : n = 0
    · rw [if_pos (.inl hz)] at hA
      rw [hA]
      generalize oldest (K.r 0) = x at *
      generalize vict K.r = vr at *
      subst hz
      clear h hs hl h0 hA hn HV3 HVP
      go_enter Tryz.func61, Tryz.ntmps61
      go_wp2_with fail
      refine O0.out.mono ?_
      rintro e w1 ⟨rfl, HM1, p0, p1⟩
      go_wp2_with fail
      refine (VT.out _ HM1.out.1).mono ?_
      rintro e w2 ⟨rfl, hb2⟩
      have HM2 := Lib.hid (HM1.out.1.below hb2)
      have HZ2 : Hid (w.heap.size ≤ w2.heap.size) := Lib.hid (Nat.le_trans HM1.out.2 hb2.size)
      obtain ⟨e0, e1, e2, e3, e4, e5, e6, e7⟩ := HM2.out.cells
      clear hb2
      go_wp2_with fail
      go_region_held3 (fun w' => w'.cell? ⟨b, 0, none⟩ = some (.slice (some ⟨s, 0, none⟩) 3 cap) ∧ w'.cell? ⟨b, 1, none⟩ = some (.pointer (some ⟨bx, 0, none⟩)) ∧ w'.cell? ⟨b, 4, none⟩ = some (.int .i64 (mainr c : Int)))
        (first | (go_keep; done) | exact ⟨by assumption, by assumption, by assumption⟩)
        (first | (go_at_call 51; refine (M2.out w2.drew HM2.out.drew).mono ?_; rintro e w3 ⟨rfl, hb3⟩; have HM3 := Lib.hid (HM2.out.drew.below hb3); have HZ3 : Hid (w.heap.size ≤ w3.heap.size) := Lib.hid (Nat.le_trans HZ2.out hb3.size); have p := HM3.out.cells; have p0 := p.1; have p1 := p.2.1; have p4 := p.2.2.2.2.1; clear hb3 p))
      go_wp2_with fail
      go_quiet (fail)
      go_wp2_with fail
      refine (drop_at (HM3.out.drewN _).rows hx).mono ?_
      rintro e w5 ⟨rfl, G5, hr5, hs5⟩
      have HM5 := Lib.hid ((HM3.out.drewN _).rown hr5 hs5)
      have HZ5 : Hid (w.heap.size ≤ w5.heap.size) := Lib.hid (Nat.le_trans HZ3.out hs5.upd.size)
      clear hr5 hs5
      go_wp2_with fail
      go_ret
      exact ⟨_, G5, rfl, HM5.out.below ((Below.refl _ _).alloc (Nat.le_refl _) _), .inr ⟨_, _, rfl, rfl, heap_alloc_new w5 _⟩, by have := HZ5.out; simp; omega⟩
    · have hn0 : 0 < n := by omega
      have hvp := HVP.out hn0
      have hv : (oldest (K.r (vict K.r))).size ≤ 40 := hs.small _ HV3.out _ (oldest_mem hvp)
      have OV := Lib.hid (fun w1 => oldest_mc (w0 := w0) (b := b) (s := s) (cap := cap) (bx := bx) (kb := kb) (db := db) (c := c) (F := F) (G := G) (H := H) (K := K) (w := w) HV3.out hvp (w1 := w1))
      have HLL := Lib.hid (fun (v : ByteArray) q hq => Nat.le_trans (less_length K.r v q) (HL.out q hq))
      have dok : decide (0 < n) = true := by simpa using hn0
      by_cases ho : often c K.h (oldest (K.r 0)) ≤ often c K.h (oldest (K.r (vict K.r)))
      · rw [if_pos (.inr ho)] at hA
        rw [hA]
        generalize oldest (K.r (vict K.r)) = v at *
        generalize oldest (K.r 0) = x at *
        generalize vict K.r = vr at *
        generalize often c K.h = of at *
        have dxy : decide (of x ≤ of v) = true := by simpa using ho
        clear h hs hl h0 hA hn HV3 HVP hvp
        go_enter Tryz.func61, Tryz.ntmps61
        go_wp2_with fail
        refine O0.out.mono ?_
        rintro e w1 ⟨rfl, HM1, p0, p1⟩
        go_wp2_with fail
        refine (VT.out _ HM1.out.1).mono ?_
        rintro e w2 ⟨rfl, hb2⟩
        have HM2 := Lib.hid (HM1.out.1.below hb2)
        have HZ2 : Hid (w.heap.size ≤ w2.heap.size) := Lib.hid (Nat.le_trans HM1.out.2 hb2.size)
        obtain ⟨e0, e1, e2, e3, e4, e5, e6, e7⟩ := HM2.out.cells
        clear hb2
        go_wp2_with fail
        go_region_held3 (fun w' => w'.cell? ⟨b, 0, none⟩ = some (.slice (some ⟨s, 0, none⟩) 3 cap) ∧ w'.cell? ⟨b, 1, none⟩ = some (.pointer (some ⟨bx, 0, none⟩)) ∧ w'.cell? ⟨b, 4, none⟩ = some (.int .i64 (mainr c : Int)))
          (first | (go_keep; done) | exact ⟨by assumption, by assumption, by assumption⟩)
          (first | (go_at_call 51; refine (M2.out w2.drew HM2.out.drew).mono ?_; rintro e w3 ⟨rfl, hb3⟩; have HM3 := Lib.hid (HM2.out.drew.below hb3); have HZ3 : Hid (w.heap.size ≤ w3.heap.size) := Lib.hid (Nat.le_trans HZ2.out hb3.size); have p := HM3.out.cells; have p0 := p.1; have p1 := p.2.1; have p4 := p.2.2.2.2.1; clear hb3 p))
        go_wp2_with fail
        have HQ : Hid (MidK w0 b s cap bx kb db c F G H K w3.drew ∧ w.heap.size ≤ w3.drew.heap.size) := Lib.hid ⟨HM3.out.drew, HZ3.out⟩
        go_region_held3 (fun w' => w'.cell? ⟨b, 0, none⟩ = some (.slice (some ⟨s, 0, none⟩) 3 cap) ∧ w'.cell? ⟨b, 1, none⟩ = some (.pointer (some ⟨bx, 0, none⟩)))
          (first | (go_keep; done) | exact ⟨by assumption, by assumption⟩)
          (first
            | (go_at_call 49; refine (OV.out _ (by assumption)).mono ?_; rintro e w4 ⟨rfl, HQ, q0, q1⟩)
            | (go_at_call 84; refine (OF.out _ _ (by assumption) (by assumption)).mono ?_; rintro e w4 ⟨rfl, HQ, q0, q1⟩))
        all_goals
          go_wp2_with fail
          refine (drop_at HQ.out.1.rows hx).mono ?_
          rintro e w5 ⟨rfl, G5, hr5, hs5⟩
          have HM5 := Lib.hid (HQ.out.1.rown hr5 hs5)
          have HZ5 : Hid (w.heap.size ≤ w5.heap.size) := Lib.hid (Nat.le_trans HQ.out.2 hs5.upd.size)
          clear hr5 hs5
          go_wp2_with fail
          go_ret
          exact ⟨_, G5, rfl, HM5.out.below ((Below.refl _ _).alloc (Nat.le_refl _) _), .inr ⟨_, _, rfl, rfl, heap_alloc_new w5 _⟩, by have := HZ5.out; simp; omega⟩
      · rw [if_neg (by rintro (e | e); exact hz e; exact ho e)] at hA
        rw [hA]
        generalize oldest (K.r (vict K.r)) = v at *
        generalize oldest (K.r 0) = x at *
        generalize vict K.r = vr at *
        generalize often c K.h = of at *
        have dxy : decide (of x ≤ of v) = false := by simpa using ho
        clear h hs hl h0 hA hn HV3 HVP hvp
        go_enter Tryz.func61, Tryz.ntmps61
        go_wp2_with fail
        refine O0.out.mono ?_
        rintro e w1 ⟨rfl, HM1, p0, p1⟩
        go_wp2_with fail
        refine (VT.out _ HM1.out.1).mono ?_
        rintro e w2 ⟨rfl, hb2⟩
        have HM2 := Lib.hid (HM1.out.1.below hb2)
        have HZ2 : Hid (w.heap.size ≤ w2.heap.size) := Lib.hid (Nat.le_trans HM1.out.2 hb2.size)
        obtain ⟨e0, e1, e2, e3, e4, e5, e6, e7⟩ := HM2.out.cells
        clear hb2
        go_wp2_with fail
        go_region_held3 (fun w' => w'.cell? ⟨b, 0, none⟩ = some (.slice (some ⟨s, 0, none⟩) 3 cap) ∧ w'.cell? ⟨b, 1, none⟩ = some (.pointer (some ⟨bx, 0, none⟩)) ∧ w'.cell? ⟨b, 4, none⟩ = some (.int .i64 (mainr c : Int)))
          (first | (go_keep; done) | exact ⟨by assumption, by assumption, by assumption⟩)
          (first | (go_at_call 51; refine (M2.out w2.drew HM2.out.drew).mono ?_; rintro e w3 ⟨rfl, hb3⟩; have HM3 := Lib.hid (HM2.out.drew.below hb3); have HZ3 : Hid (w.heap.size ≤ w3.heap.size) := Lib.hid (Nat.le_trans HZ2.out hb3.size); have p := HM3.out.cells; have p0 := p.1; have p1 := p.2.1; have p4 := p.2.2.2.2.1; clear hb3 p))
        go_wp2_with fail
        have HQ : Hid (MidK w0 b s cap bx kb db c F G H K w3.drew ∧ w.heap.size ≤ w3.drew.heap.size) := Lib.hid ⟨HM3.out.drew, HZ3.out⟩
        go_region_held3 (fun w' => w'.cell? ⟨b, 0, none⟩ = some (.slice (some ⟨s, 0, none⟩) 3 cap) ∧ w'.cell? ⟨b, 1, none⟩ = some (.pointer (some ⟨bx, 0, none⟩)))
          (first | (go_keep; done) | exact ⟨by assumption, by assumption⟩)
          (first
            | (go_at_call 49; refine (OV.out _ (by assumption)).mono ?_; rintro e w4 ⟨rfl, HQ, q0, q1⟩)
            | (go_at_call 84; refine (OF.out _ _ (by assumption) (by assumption)).mono ?_; rintro e w4 ⟨rfl, HQ, q0, q1⟩))
        all_goals
          go_wp2_with fail
          refine (OV.out _ (by assumption)).mono ?_
          rintro e w5 ⟨rfl, HQ5, q0, q1⟩
          go_wp2_with fail
          refine (drop_at HQ5.out.1.rows hv).mono ?_
          rintro e w6 ⟨rfl, G6, hr6, hs6⟩
          have HM6 := Lib.hid (HQ5.out.1.rown hr6 hs6)
          have HZ6 : Hid (w.heap.size ≤ w6.heap.size) := Lib.hid (Nat.le_trans HQ5.out.2 hs6.upd.size)
          obtain ⟨f0, f1, f2, f3, f4, f5, f6, f7⟩ := HM6.out.cells
          clear hr6 hs6
          go_wp2_with fail
          refine (push_at' HM6.out.rows hx 1 (by omega) (z := 1) rfl (HLL.out v)).mono ?_
          rintro e w7 ⟨rfl, G7, hr7, hs7⟩
          have HM7 := Lib.hid (HM6.out.rown hr7 hs7)
          have HZ7 : Hid (w.heap.size ≤ w7.heap.size) := Lib.hid (Nat.le_trans HZ6.out hs7.upd.size)
          clear hr7 hs7
          go_wp2_with fail
          go_ret
          exact ⟨_, G7, rfl, HM7.out.below ((Below.refl _ _).alloc (Nat.le_refl _) _), .inr ⟨_, _, rfl, rfl, heap_alloc_new w7 _⟩, by have := HZ7.out; simp; omega⟩
end

end Go.Proofs.YtkeicfajlmhajaaGreat.Eg
