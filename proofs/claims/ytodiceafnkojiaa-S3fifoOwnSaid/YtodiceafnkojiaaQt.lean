/- S3-FIFO's reference in memory: ghost, fromM. -/
import Derived.Test.YtodiceafnkojiaaQs
import Derived.Deep.RegionLaw
namespace Go.Proofs.Ytodiceafnkojiaa.Rf
open Go Go.RowKit Go.Proofs.Ytodiceafnkojiaa.K Go.Proofs.Ytodiceafnkojiaa.Sl Go.Proofs.Ytodiceafnkojiaa.Eg
open Go.Proofs.Ytodiceafnkojiaa.Li (more more_lt own_form')
open Go.Proofs.Ytodiceafnkojiaa.Rw (upd upd_same upd_other less less_same less_not cell_below cell_upd)
open Go.Proofs.Ytodiceafnkojiaa.Sc (Cs fl RC)

section
variable {w0 w w' : World} {b c : Nat} {F : Nat → Prop} {v : Nat → Value} {Fs : Nat → Nat → Prop} {K : Ks} {X : X3}

theorem kin_le (h : 1 ≤ c) : kin c ≤ c := by unfold kin; omega
theorem kout_1024 (h : c ≤ 1024) : kout c ≤ 1024 := by unfold kout; omega
theorem maxk {c : Nat} (h1 : 1 ≤ c) (h : c ≤ 1024) : (if (1 : Int) < IntKind.i64.wrap ((c : Int) - (kin c : Int)) then IntKind.i64.wrap ((c : Int) - (kin c : Int)) else 1) = (kout c : Int) := by
  have hk := kin_le h1
  have e : IntKind.i64.wrap ((c : Int) - (kin c : Int)) = (c : Int) - (kin c : Int) := IntWalk.i64_in _ (by omega)
  rw [e]
  unfold kout
  generalize kin c = k at *
  split <;> omega
theorem maxk' {c : Nat} (h1 : 1 ≤ c) : (if (1 : Int) < (c : Int) - (kin c : Int) then (c : Int) - (kin c : Int) else 1) = (kout c : Int) := by
  have hk := kin_le h1
  unfold kout
  generalize kin c = k at *
  split <;> omega

/-- What a step of an act leaves. -/
def GPost (w0 : World) (b c : Nat) (F : Nat → Prop) (X' : X3) (u : Value) (e : Ending) (w' : World) : Prop :=
  e = .returned u ∧ ∃ v' Fs', RM w0 b c F v' Fs' X' w'

/-- The loop behind ghost. -/
def RTrim (w1 w0 : World) (b c : Nat) (F : Nat → Prop) (X : X3) (P : List ByteArray) (kk : Nat) (w : World) : Prop :=
  ∃ v Fs Q, RM w0 b c F v Fs (upd X 2 (.inr Q)) w ∧ Upd (· = b) w1 w ∧ ((kk = 1 ∧ Q = P ∧ kout c < P.length) ∨ (kk = 0 ∧ Q = gtrim c P ∧ (gtrim c P).length ≤ kout c))
theorem rtrim_start {w1 : World} {P : List ByteArray} (h : RM w0 b c F v Fs (upd X 2 (.inr P)) w) (hu : Upd (· = b) w1 w) : ∃ kk, RTrim w1 w0 b c F X P kk w := by
  by_cases e : kout c < P.length
  · exact ⟨1, v, Fs, P, h, hu, .inl ⟨rfl, rfl, e⟩⟩
  · refine ⟨0, v, Fs, P, h, hu, .inr ⟨rfl, ?_, ?_⟩⟩
    · unfold gtrim; rw [if_neg e]
    · unfold gtrim; rw [if_neg e]; omega
theorem upd_upd (x y : Cs ⊕ List ByteArray) (q : Nat) : ∀ r, r < 3 → upd (upd X q x) q y r = upd X q y r := fun r _ => by
  by_cases e : r = q
  · subst e; rw [upd_same, upd_same]
  · rw [upd_other _ _ e, upd_other _ _ e, upd_other _ _ e]

set_option maxHeartbeats 1600000 in
theorem ghost_at (h : RM w0 b c F v Fs X w) {gs : List ByteArray} (hX : X 2 = .inr gs) (hg : gs.length ≤ kout c) (hc1 : 1 ≤ c) (hc : c ≤ 1024) (key : ByteArray) :
    Calls Try.prog 74 #[.pointer (some ⟨b, 0, none⟩), .string key] w (fun e w' => GPost w0 b c F (upd X 2 (.inr (gtrim c (gs ++ [key])))) (.tuple #[]) e w' ∧ Upd (· = b) w w') := by
  obtain ⟨A, p, hs⟩ := h.rs
  have c2 : w.cell? ⟨b, 2, none⟩ = some (.slice (A 2) gs.length (p 2)) := by have := hs.c2; rw [hX] at this; exact this
  have s2 : Sl w (.slice (A 2) gs.length (p 2)) (Fs 2) gs := by have := hs.sl 2 (by omega); rw [hX] at this; exact this
  have hko := kout_1024 hc
  have W0 : Hid (Below w.heap.size w (w.alloc (.cells #[] 9))) := Lib.hid ((Below.refl _ _).alloc (Nat.le_refl _) _)
  have S0 := Lib.hid (s2.below W0.out)
  have OW : Hid ((w.alloc (.cells #[] 9)).ownsRow w.heap.size 9 1 (.slice (some ⟨w.heap.size, 0, none⟩) 0 0) 0 []) := Lib.hid (World.ownsRow_lit w #[] 0 (Nat.le_refl _) (by unfold maxLen; omega) rfl)
  have d2 := cell_below W0.out c2
  have HM := Lib.hid h
  have b1 : gs.length ≤ 1000 * 1000 := by omega
  have LN : Hid (gs.length ≤ 1000000) := Lib.hid b1
  have HGL := Lib.hid hg
  have hm1 := Lib.hid (maxk hc1 hc)
  have hm2 := Lib.hid (maxk' hc1)
  have hkin : kin c ≤ 1024 := by have := kin_le hc1; omega
  have HC := Lib.hid hc
  clear h hs s2 hX hg
  go_enter Try.func74, Try.ntmps74
  go_wp2_with (first | (at_builtin; refine wpList_cat rfl _ _ rfl OW.out W0.out.size S0.out (by omega) b1 rfl rfl ?_; intro v' w2 ho hg; rw [Nat.zero_add, List.nil_append] at ho; obtain ⟨A', c', hv⟩ := own_form' ho; subst hv; have hb2 := W0.out.grown hg W0.out.size (fun g hg => (OW.out.lt g hg).1); have HM2 := Lib.hid (HM.out.below hb2); have HB2 := Lib.hid hb2; have SL2 := Lib.hid (Sl.of_own (F := fun j => (Value.slice A' gs.length c').ownBlock = some j) (xs := gs) ho (fun _ h => h)); have LT2 : Hid (∀ j, (Value.slice A' gs.length c').ownBlock = some j → j < w2.heap.size) := Lib.hid (fun j hj => (ho.lt j hj).2); have LB2 : Hid (∀ j, (Value.slice A' gs.length c').ownBlock = some j → w.heap.size ≤ j) := Lib.hid (fun j hj => (ho.lt j hj).1); clear ho hg hb2) | (at_builtin; refine wpList_push rfl _ _ rfl SL2.out LN.out LT2.out key 1 w2.heap.size rfl rfl rfl ?_; intro v'' w3 hp; obtain ⟨A'', c'', hv, -⟩ := hp.sl.form; subst hv; have HP := Lib.hid hp; have HB3 := Lib.hid (hp.upd.get HM2.out.blk (fun hj => by have := LB2.out b hj; have := lt_of_block HM.out.blk; omega)); have q2 := cell_of HB3.out 2; have qf := free_of HB3.out; clear hp))
  have hu3 : Upd (Fs 2) w w3 := ((Upd.of_below (F := fun _ => False) HB2.out (fun i h1 h2 => by omega)).mono (fun _ _ h => h.elim)).then HP.out.upd (fun i hi hj => by have := LB2.out i hj; omega)
  have HM3 : Hid (RM w0 b c F _ _ (upd X 2 (.inr (gs ++ [key]))) _) := Lib.hid (HM.out.store (r := 2) (by omega) (xs := .inr (gs ++ [key])) hu3 HP.out.sl (fun j hj => by
    rcases HP.out.new j hj with h1 | h1
    · exact .inr (LB2.out j h1)
    · exact .inr (Nat.le_trans HB2.out.size h1)) HP.out.lt)
  have hub : Upd (· = b) w w3 := ((Upd.of_below (F := fun _ => False) HB2.out (fun i h1 h2 => by omega)).mono (fun _ _ h => h.elim)).then HP.out.upd (fun i hi hj => by have := LB2.out i hj; omega)
  obtain ⟨kk, hkk⟩ := rtrim_start HM3.out (hub.setB)
  clear hub
  rw [List.length_append, List.length_singleton] at hkk
  have HKK := Lib.hid hkk
  clear hkk
  have HP1 : Hid ((gs ++ [key]).length ≤ kout c + 1) := Lib.hid (by have := HGL.out; simp; omega)
  clear hu3 q2 qf c2 d2
  generalize hPP : gs ++ [key] = P at *
  have HPP := Lib.hid hPP
  clear hPP
  go_loopg [] kk (fun kk wr => RTrim w w0 b c F X P kk wr)
  case atStart => exact HKK.out
  case round =>
    obtain ⟨v, Fs, Q, hm, hu, hr⟩ := hrel
    have HUB := Lib.hid hu
    clear hu
    have HMQ := Lib.hid hm
    obtain ⟨A, p, hs⟩ := hm.rs
    have c2 : wr.cell? ⟨b, 2, none⟩ = some (.slice (A 2) Q.length (p 2)) := hs.c2
    have s2 : Sl wr (.slice (A 2) Q.length (p 2)) (Fs 2) Q := hs.sl 2 (by omega)
    have c3 := hs.c3
    have df := hm.wr
    have SM : Hid (∀ n, Calls Try.prog 73 #[.pointer (some ⟨b, 0, none⟩)] (wr.drewN n) fun e w' => e = .returned (.int .i64 (kin c : Int)) ∧ w' = wr.drewN n) := Lib.hid (fun n => (small_any (wr.drewN n) HC.out c3).mono fun _ _ ⟨h1, h2⟩ => ⟨h1, h2.symm⟩)
    have e1 := hm1.out
    have e2 := hm2.out
    clear hm hs
    rcases hr with ⟨rfl, rfl, hlt⟩ | ⟨rfl, rfl, hle⟩
    · obtain ⟨x0, y0, t0, hP⟩ : ∃ x0 y0 t0, Q = x0 :: y0 :: t0 := by
        have h1 := kout_pos c
        match hh : Q with
        | [] => simp at hlt
        | [_] => simp at hlt; omega
        | x0 :: y0 :: t0 => exact ⟨x0, y0, t0, rfl⟩
      have HTR : Hid (gtrim c Q = y0 :: t0) := Lib.hid (by unfold gtrim; rw [if_pos hlt, hP]; rfl)
      have TLE : Hid ((gtrim c Q).length ≤ kout c) := Lib.hid (by unfold gtrim; rw [if_pos hlt, List.length_tail]; have := HP1.out; omega)
      have hlen : Q.length = t0.length + 2 := by rw [hP]; rfl
      rw [hlen] at c2 s2 hlt
      have hlen0 := hlen
      rw [hP] at s2
      obtain ⟨g1, o1, hA1, -, hp2, hp3, hp4, sl'⟩ := s2.drop
      have SL' := Lib.hid sl'
      rw [hA1] at c2
      clear s2 sl' hA1 hP hlen
      generalize p 2 = p1 at *
      obtain ⟨m, hm⟩ : ∃ m, m = t0.length := ⟨_, rfl⟩
      rw [← hm] at c2 hlt hp3 SL'
      have HMM := Lib.hid hm
      rw [← hm] at hlen0
      clear hm
      unfold maxLen at hp4
      have i1 : (2 : Int) ≤ (p1 : Int) := by omega
      have i2 : ((m + 2 : Nat) : Int) ≤ (p1 : Int) := by omega
      have dL : decide ((kout c : Int) < (m : Int) + 2) = true := by simp; omega
      have hmm : m ≤ 2000 := by have := HP1.out; rw [hlen0] at this; omega
      clear hlen0
      go_wp2_with fail
      go_quiet (first | (go_at_call 73; with_reducible exact Calls.quiet_of_same (SM.out _)))
      go_wp2_with fail
      have HM7 := Lib.hid ((HMQ.out.drewN nq).store (r := 2) (by omega) (xs := .inr (y0 :: t0)) (Upd.refl _ _) SL'.out (fun j hj => .inl hj) (fun j hj => HMQ.out.lt 2 (by omega) j hj))
      go_roundg 0
      case measure => omega
      case rel =>
        refine ⟨_, _, gtrim c Q, HM7.out.same ?_, (HUB.out.drewN nq).setB, .inr ⟨rfl, rfl, TLE.out⟩⟩
        rw [HTR.out]
        exact upd_upd _ _ 2
    · clear s2
      generalize hQ : (gtrim c P).length = L1 at *
      have dL : decide (kout c < L1) = false := by simp; omega
      clear hQ
      go_wp2_with fail
      go_quiet (first | (go_at_call 73; with_reducible exact Calls.quiet_of_same (SM.out _)))
      go_wp2_with fail
      go_end0
      rw [HPP.out]
      exact ⟨⟨rfl, _, _, HMQ.out.drewN nq⟩, HUB.out.drewN nq⟩
end

end Go.Proofs.Ytodiceafnkojiaa.Rf
