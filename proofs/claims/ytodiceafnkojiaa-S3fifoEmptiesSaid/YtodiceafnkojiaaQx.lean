/- S3-FIFO in memory: fromMain, fromSmall, Evict. -/
import Derived.Test.YtodiceafnkojiaaQd
namespace Go.Proofs.Ytodiceafnkojiaa.Eg
open Go Go.RowKit Go.Proofs.Ytodiceafnkojiaa.K
open Go.Proofs.Ytodiceafnkojiaa.Li (more more_lt)
open Go.Proofs.Ytodiceafnkojiaa.Rw

section
variable {w0 w w' : World} {b s cap bx y c : Nat} {F G H : Nat → Prop} {K : Ks}

/-- Row main, as far as it was gone through: what comes out is r. -/
def MRel (w0 : World) (b s cap bx y c : Nat) (F : Nat → Prop) (r : ByteArray × Ks) (kk : Nat) (w : World) : Prop :=
  ∃ f Kj G H, kk = f ∧ MidK w0 b s cap bx y c F G H Kj w ∧ Inv c Kj ∧ 0 < (Kj.r 1).length ∧ weight Kj ≤ f ∧ fromMain f Kj = r

set_option maxHeartbeats 800000 in
theorem fromMain_at (h : MidK w0 b s cap bx y c F G H K w) (hi : Inv c K) (hp : 0 < (K.r 1).length) :
    Calls Try.prog 55 #[.pointer (some ⟨b, 0, none⟩)] w (MPost w0 b s cap bx y c F (fromMain (weight K) K).2 (.string (fromMain (weight K) K).1)) := by
  have HR : Hid (MRel w0 b s cap bx y c F (fromMain (weight K) K) (weight K) w) := Lib.hid ⟨_, K, G, H, rfl, h, hi, hp, Nat.le_refl _, rfl⟩
  clear h hi hp
  generalize fromMain (weight K) K = r at *
  generalize weight K = f0 at *
  go_enter Try.func55, Try.ntmps55
  go_wp2_with fail
  go_loopg [] f0 (fun kk wr => MRel w0 b s cap bx y c F r kk wr)
  case atStart => exact HR.out
  case round =>
    clear HR
    obtain ⟨f, Kj, G1, H1, hgk, hm, hi, hp, hw, hr⟩ := hrel
    have HGK := Lib.hid hgk
    clear hgk
    obtain ⟨t, ht⟩ := oldest_cons (Kj.r 1) hp
    have hres : oldest (Kj.r 1) ∈ res Kj := mem_res.2 (.inr (oldest_mem hp))
    have hwk := weight_head ht
    obtain ⟨c0, c1, c2, c3, c4, c5⟩ := hm.cells
    have HM := Lib.hid hm
    have OL := Lib.hid (oldest_at hm.rows 1 (by omega) (z := 1) rfl ht)
    have HI := Lib.hid hi
    have HT := Lib.hid ht
    have HW := Lib.hid hw
    have hks : (oldest (Kj.r 1)).size ≤ 40 := hi.head_small (by omega) ht
    have hn3 := hi.cnt (oldest (Kj.r 1))
    have HG := Lib.hid (fun h => fromMain_goes (f := f) (K := Kj) h)
    have HN := Lib.hid (fun f (h : Kj.n (oldest (Kj.r 1)) ≠ 0) => fromMain_next (f := f) h)
    have GT := Lib.hid (fun w1 (h : MidK w0 b s cap bx y c F G1 H1 Kj w1) => get_at h hres)
    clear hm hi hp hw ht
    generalize oldest (Kj.r 1) = k at *
    have HRS := Lib.hid hres
    have HRR := Lib.hid hr
    clear hres hr
    generalize hn : Kj.n k = n at *
    go_wp2_with fail
    refine OL.out.mono ?_
    rintro e w1 ⟨rfl, hb1⟩
    have HM1 := Lib.hid (HM.out.below hb1)
    obtain ⟨d0, d1, d2, d3, d4, d5⟩ := HM1.out.cells
    clear hb1
    go_wp2_with fail
    refine (GT.out _ HM1.out).mono ?_
    rintro e w2 ⟨rfl, q, rfl⟩
    have HM2 := Lib.hid (HM1.out.drewN q)
    cases n with
    | zero =>
      go_wp2_with fail
      refine (goes_at HM2.out HI.out HRS.out).mono ?_
      rintro e w3 ⟨rfl, G3, H3, hm3⟩
      have HM3 := Lib.hid hm3
      clear hm3
      go_wp2_with fail
      go_ret
      rw [← HRR.out, HG.out (by first | rfl | trivial)]
      exact ⟨rfl, _, _, HM3.out⟩
    | succ m =>
      obtain ⟨f', rfl⟩ : ∃ f', f = f' + 1 := ⟨f - 1, by have := HW.out; omega⟩
      obtain ⟨i1, i2, i3, i4, i5, i6, i7⟩ := inv_move11 HI.out HT.out hn
      have I1 := Lib.hid i1
      have I3 : Hid (0 < ((comes Kj 1 k m).r 1).length) := Lib.hid (by rw [i3]; simp)
      have I7 := Lib.hid i7
      have HN' : Hid (fromMain f' (comes Kj 1 k m) = r) := Lib.hid (by rw [← HRR.out, HN.out f' (by omega), Nat.add_sub_cancel])
      have e1 : ((m + 1 : Nat) : Int) - 1 = (m : Int) := by omega
      clear i1 i2 i3 i4 i5 i6 i7
      go_wp2_with fail
      refine (comes_at HM2.out HI.out hks 1 (.inr rfl) (z := 1) rfl m (zm := (m : Int)) rfl).mono ?_
      rintro e w3 ⟨rfl, G3, H3, hm3⟩
      have HM3 := Lib.hid hm3
      clear hm3
      go_wp2_with fail
      go_roundg f'
      case measure => rw [HGK.out]; omega
      case rel => exact ⟨f', _, _, _, rfl, HM3.out, I1.out, I3.out, by have := HW.out; have := I7.out; omega, HN'.out⟩

/-- The loop behind fromSmall: too many ghosts, or not. -/
def TrimRel (w0 : World) (b s cap bx y c : Nat) (F : Nat → Prop) (P : Ks) (kk : Nat) (w : World) : Prop :=
  ∃ Q G H, MidK w0 b s cap bx y c F G H Q w ∧ ((kk = 1 ∧ Q = P ∧ kout c < (P.r 2).length) ∨ (kk = 0 ∧ Q = trim c P ∧ ((trim c P).r 2).length ≤ kout c))

theorem trim_start {P : Ks} (h : MidK w0 b s cap bx y c F G H P w) : ∃ kk, TrimRel w0 b s cap bx y c F P kk w := by
  by_cases e : kout c < (P.r 2).length
  · exact ⟨1, P, G, H, h, .inl ⟨rfl, rfl, e⟩⟩
  · refine ⟨0, P, G, H, h, .inr ⟨rfl, ?_, ?_⟩⟩
    · unfold trim; rw [if_neg e]
    · unfold trim; rw [if_neg e]; omega

theorem res_ghosted (k x : ByteArray) : x ∈ res (ghosted K k) ↔ x ∈ res (goes K k) := by
  rw [mem_res, mem_res]
  show x ∈ push (goes K k).r 2 k 0 ∨ x ∈ push (goes K k).r 2 k 1 ↔ _
  rw [push_ne _ _ (by omega), push_ne _ _ (by omega)]
  show x ∈ less (less K.r k) k 0 ∨ x ∈ less (less K.r k) k 1 ↔ _
  rw [less_less]
  rfl
theorem cm_ghosted (k x : ByteArray) (v : Nat) : cm (goes K k) x v ↔ cm (ghosted K k) x v := by
  unfold cm
  rw [res_ghosted]
  rfl
theorem len_ghosted (k : ByteArray) : len (goes K k) = len (ghosted K k) := by
  show _ = (push (goes K k).r 2 k 0).length + (push (goes K k).r 2 k 1).length
  rw [push_ne _ _ (by omega), push_ne _ _ (by omega)]
  show _ = (less (less K.r k) k 0).length + (less (less K.r k) k 1).length
  rw [less_less]
  rfl

/-- A ghost goes: the resident stay. -/
theorem trim_more {P : Ks} (hs : Sep P.r) (h : kout c < (P.r 2).length) : (trim c P).r = less P.r (oldest (P.r 2)) ∧ (∀ x v, cm P x v ↔ cm (trim c P) x v) ∧ len P = len (trim c P) := by
  have e0 := trim_rows hs c (q := 0) (by omega) (by omega)
  have e1 := trim_rows hs c (q := 1) (by omega) (by omega)
  refine ⟨?_, fun x v => ?_, ?_⟩
  · unfold trim; rw [if_pos h]
  · unfold cm; rw [mem_res, mem_res, e0, e1, trim_n]
  · unfold len; rw [e0, e1]

theorem fromSmall_none {f : Nat} (h : (K.r 0).length = 0) : fromSmall c (f + 1) K = (none, K) := by unfold fromSmall; rw [if_pos h]
theorem fromSmall_next {f : Nat} (h : (K.r 0).length ≠ 0) (h1 : 1 < K.n (oldest (K.r 0))) : fromSmall c (f + 1) K = fromSmall c f (comes K 1 (oldest (K.r 0)) 0) := by
  conv => lhs; unfold fromSmall
  rw [if_neg h, if_pos h1]
theorem fromSmall_goes {f : Nat} (h : (K.r 0).length ≠ 0) (h1 : ¬ 1 < K.n (oldest (K.r 0))) : fromSmall c (f + 1) K = (some (oldest (K.r 0)), toGhost c K (oldest (K.r 0))) := by
  unfold fromSmall
  rw [if_neg h, if_neg h1]

/-- Row small, as far as it was gone through: what comes out is r. -/
def SRel (w0 : World) (b s cap bx y c : Nat) (F : Nat → Prop) (r : Option ByteArray × Ks) (kk : Nat) (w : World) : Prop :=
  ∃ f Kj G H, kk = f ∧ MidK w0 b s cap bx y c F G H Kj w ∧ Inv c Kj ∧ (Kj.r 0).length < f ∧ fromSmall c f Kj = r

def SPost (w0 : World) (b s cap bx y c : Nat) (F : Nat → Prop) (r : Option ByteArray × Ks) (e : Ending) (w' : World) : Prop :=
  MPost w0 b s cap bx y c F r.2 (.tuple #[.string (r.1.getD ByteArray.empty), .bool r.1.isSome]) e w'

set_option maxHeartbeats 1600000 in
theorem fromSmall_at (h : MidK w0 b s cap bx y c F G H K w) (hi : Inv c K) :
    Calls Try.prog 54 #[.pointer (some ⟨b, 0, none⟩)] w (SPost w0 b s cap bx y c F (fromSmall c ((K.r 0).length + 1) K)) := by
  have HR : Hid (SRel w0 b s cap bx y c F (fromSmall c ((K.r 0).length + 1) K) ((K.r 0).length + 1) w) := Lib.hid ⟨_, K, G, H, rfl, h, hi, by omega, rfl⟩
  have hko : kout c ≤ 1024 := by have := hi.c2; unfold kout; omega
  clear h hi
  generalize fromSmall c ((K.r 0).length + 1) K = r at *
  generalize (K.r 0).length + 1 = f0 at *
  go_enter Try.func54, Try.ntmps54
  go_wp2_with fail
  go_loopg [] f0 (fun kk wr => SRel w0 b s cap bx y c F r kk wr)
  case atStart => exact HR.out
  case round =>
    clear HR
    obtain ⟨f, Kj, G1, H1, hgk, hm, hi, hw, hr⟩ := hrel
    have HGK := Lib.hid hgk
    clear hgk
    obtain ⟨f', rfl⟩ : ∃ f', f = f' + 1 := ⟨f - 1, by omega⟩
    obtain ⟨c0, c1, c2, c3, c4, c5⟩ := hm.cells
    have HM := Lib.hid hm
    have HI := Lib.hid hi
    have HW := Lib.hid hw
    have ML := Lib.hid (many_one hm 0 (by omega) (z := 0) rfl (lens hi 0 (by omega)))
    have HRR := Lib.hid hr
    clear hm hw hr
    by_cases h0 : (Kj.r 0).length = 0
    · rw [h0] at ML
      have HE := Lib.hid (fromSmall_none (c := c) (f := f') h0)
      clear hi h0
      go_wp2_with fail
      refine ML.out.mono ?_
      rintro e w1 ⟨rfl, hb1⟩
      have HM1 := Lib.hid (HM.out.below hb1)
      clear hb1
      go_wp2_with fail
      go_ret2
      rw [← HRR.out, HE.out]
      exact ⟨rfl, _, _, HM1.out⟩
    · obtain ⟨t, ht⟩ := oldest_cons (Kj.r 0) (by omega)
      have hres : oldest (Kj.r 0) ∈ res Kj := mem_res.2 (.inl (oldest_mem (by omega)))
      have HT := Lib.hid ht
      have hks : (oldest (Kj.r 0)).size ≤ 40 := hi.head_small (by omega) ht
      have hn3 := hi.cnt (oldest (Kj.r 0))
      have HG := Lib.hid (fun h => fromSmall_goes (c := c) (f := f') (K := Kj) h0 h)
      have HN := Lib.hid (fun h => fromSmall_next (c := c) (f := f') (K := Kj) h0 h)
      have GT := Lib.hid (fun w1 (h : MidK w0 b s cap bx y c F G1 H1 Kj w1) => get_at h hres)
      have OL := Lib.hid (fun w1 (h : MidK w0 b s cap bx y c F G1 H1 Kj w1) => oldest_at h.rows 0 (by omega) (z := 0) rfl ht)
      clear hi ht
      generalize oldest (Kj.r 0) = k at *
      have HRS := Lib.hid hres
      clear hres
      generalize hn : Kj.n k = n at *
      have HLW := HW.out
      generalize hL0 : (Kj.r 0).length = L0 at *
      have HL0 := Lib.hid hL0
      clear hL0
      have z0 : (0 : Int) < (L0 : Int) := by omega
      go_wp2_with fail
      refine ML.out.mono ?_
      rintro e w1 ⟨rfl, hb1⟩
      have HM1 := Lib.hid (HM.out.below hb1)
      obtain ⟨d0, d1, d2, d3, d4, d5⟩ := HM1.out.cells
      clear hb1
      go_wp2_with fail
      refine (OL.out _ HM1.out).mono ?_
      rintro e w2 ⟨rfl, hb2⟩
      have HM2 := Lib.hid (HM1.out.below hb2)
      obtain ⟨d0, d1, d2, d3, d4, d5⟩ := HM2.out.cells
      clear hb2
      go_wp2_with fail
      refine (GT.out _ HM2.out).mono ?_
      rintro e w3 ⟨rfl, q, rfl⟩
      have HM3 := Lib.hid (HM2.out.drewN q)
      by_cases hn1 : 1 < n
      · have i1 : (1 : Int) < (n : Int) := by omega
        obtain ⟨j1, j2, j3, j4, j5, j6⟩ := inv_move01 HI.out HT.out
        have I1 := Lib.hid j1
        have I2 : Hid (((comes Kj 1 k 0).r 0).length < f') := Lib.hid (by
          rw [j2]
          have h1 := HL0.out
          rw [HT.out, List.length_cons] at h1
          omega)
        have HN' : Hid (fromSmall c f' (comes Kj 1 k 0) = r) := Lib.hid (by rw [← HRR.out, HN.out hn1])
        clear j1 j2 j3 j4 j5 j6
        go_wp2_with fail
        refine (comes_at HM3.out HI.out hks 1 (.inr rfl) (z := 1) rfl 0 (zm := 0) rfl).mono ?_
        rintro e w4 ⟨rfl, G4, H4, hm4⟩
        have HM4 := Lib.hid hm4
        clear hm4
        go_wp2_with fail
        go_roundg f'
        case measure => rw [HGK.out]; omega
        case rel => exact ⟨f', _, _, _, rfl, HM4.out, I1.out, I2.out, HN'.out⟩
      · have i1 : ¬ (1 : Int) < (n : Int) := by omega
        have HE : Hid ((some k, trim c (ghosted Kj k)) = r) := Lib.hid (by rw [← HRR.out, HG.out hn1]; rfl)
        have SP := Lib.hid (ghosted_sep HI.out hks)
        have HP1 : Hid (((ghosted Kj k).r 2).length ≤ kout c + 1) := Lib.hid (by
          rw [(ghosted_rows HI.out HT.out).2.2]
          have := HI.out.gh
          simp; omega)
        have TL : Hid (((trim c (ghosted Kj k)).r 2).length ≤ kout c) := Lib.hid (by
          rw [trim_2 SP.out]
          have := HP1.out
          split
          · rw [List.length_tail]; omega
          · omega)
        have HLG := Lib.hid (lens (inv_goes HI.out k))
        go_wp2_with fail
        refine (goes_at HM3.out HI.out HRS.out).mono ?_
        rintro e w4 ⟨rfl, G4, H4, hm4⟩
        have HM4 := Lib.hid hm4
        obtain ⟨d0, d1, d2, d3, d4, d5⟩ := HM4.out.cells
        clear hm4
        go_wp2_with fail
        refine (push_at' HM4.out.rows hks 2 (by omega) (z := 2) rfl HLG.out).mono ?_
        rintro e w5 ⟨rfl, G5, hr5, hs5⟩
        have HM5 : Hid (MidK w0 b s cap bx y c F G5 H4 (ghosted Kj k) w5) := Lib.hid ((HM4.out.rown hr5 hs5).same (fun _ _ => rfl) (cm_ghosted k) (len_ghosted k))
        clear hr5 hs5
        generalize ghosted Kj k = P at *
        obtain ⟨kk, hkk⟩ := trim_start HM5.out
        go_wp2_with fail
        go_loopg [] kk (fun kk wr => TrimRel w0 b s cap bx y c F P kk wr)
        case atStart => exact hkk
        case round =>
          obtain ⟨Q, G6, H6, hm, hq⟩ := hrel
          have HMQ := Lib.hid hm
          obtain ⟨d0, d1, d2, d3, d4, d5⟩ := hm.cells
          clear hm
          rcases hq with ⟨rfl, rfl, hlt⟩ | ⟨rfl, rfl, hle⟩
          · have hln : (Q.r 2).length ≤ 80000 := by have := HP1.out; omega
            have ML2 := Lib.hid (many_one HMQ.out.drew 2 (by omega) (z := 2) rfl hln)
            obtain ⟨t1, ht1⟩ := oldest_cons (Q.r 2) (by omega)
            have hos : (oldest (Q.r 2)).size ≤ 40 := SP.out.small 2 (by omega) _ (oldest_mem (by omega))
            have HT1 := Lib.hid ht1
            have HTR := Lib.hid (trim_more SP.out hlt)
            clear ht1
            generalize oldest (Q.r 2) = yo at *
            generalize (Q.r 2).length = L1 at *
            have dL : decide (kout c < L1) = true := by simpa using hlt
            go_wp2_with fail
            go_region_held3 (fun w' => w'.cell? ⟨b, 0, none⟩ = some (.slice (some ⟨s, 0, none⟩) 3 cap) ∧ w'.cell? ⟨b, 1, none⟩ = some (.pointer (some ⟨bx, 0, none⟩)) ∧ w'.cell? ⟨b, 4, none⟩ = some (.int .i64 (kout c : Int)))
              (first | (go_keep; done) | exact ⟨by assumption, by assumption, by assumption⟩)
              (first | (go_at_call 47; refine ML2.out.mono ?_; rintro e w6 ⟨rfl, hb6⟩; have HM6 := Lib.hid (HMQ.out.drew.below hb6); have q := HM6.out.cells; have q0 := q.1; have q1 := q.2.1; have q4 := q.2.2.2.2.1; clear hb6 q))
            go_wp2_with fail
            go_region_held3 (fun w' => w'.cell? ⟨b, 0, none⟩ = some (.slice (some ⟨s, 0, none⟩) 3 cap) ∧ w'.cell? ⟨b, 1, none⟩ = some (.pointer (some ⟨bx, 0, none⟩)))
              (first | (go_keep; done) | exact ⟨by assumption, by assumption⟩)
              (first | (go_at_call 76; refine (oldest_at HM6.out.drew.rows 2 (by omega) (z := 2) rfl HT1.out).mono ?_; rintro e w7 ⟨rfl, hb7⟩; have HM7 := Lib.hid (HM6.out.drew.below hb7); have p := HM7.out.cells; have p0 := p.1; have p1 := p.2.1; clear hb7 p) | (go_at_call 77; refine (drop_at HM7.out.rows hos).mono ?_; rintro e w8 ⟨rfl, G8, hr8, hs8⟩; have HM8 := Lib.hid (HM7.out.rown hr8 hs8); have r := HM8.out.cells; have r0 := r.1; have r1 := r.2.1; clear hr8 hs8 r))
            go_wp2_with fail
            go_roundg 0
            case measure => omega
            case rel => exact ⟨_, _, _, HM8.out.same (fun _ _ => by rw [HTR.out.1]) HTR.out.2.1 HTR.out.2.2, .inr ⟨rfl, rfl, TL.out⟩⟩
          · have hln : ((trim c P).r 2).length ≤ 80000 := by omega
            have ML2 := Lib.hid (many_one HMQ.out.drew 2 (by omega) (z := 2) rfl hln)
            generalize ((trim c P).r 2).length = L1 at *
            have dL : decide (kout c < L1) = false := by simp; omega
            go_wp2_with fail
            go_region_held3 (fun w' => w'.cell? ⟨b, 0, none⟩ = some (.slice (some ⟨s, 0, none⟩) 3 cap) ∧ w'.cell? ⟨b, 1, none⟩ = some (.pointer (some ⟨bx, 0, none⟩)) ∧ w'.cell? ⟨b, 4, none⟩ = some (.int .i64 (kout c : Int)))
              (first | (go_keep; done) | exact ⟨by assumption, by assumption, by assumption⟩)
              (first | (go_at_call 47; refine ML2.out.mono ?_; rintro e w6 ⟨rfl, hb6⟩; have HM6 := Lib.hid (HMQ.out.drew.below hb6); have q := HM6.out.cells; have q0 := q.1; have q1 := q.2.1; have q4 := q.2.2.2.2.1; clear hb6 q))
            go_wp2_with fail
            go_ret2
            rw [← HE.out]
            exact ⟨rfl, _, _, HM6.out⟩
end

end Go.Proofs.Ytodiceafnkojiaa.Eg
