/- TinyLFU's reference in memory: promote. -/
import Derived.Test.YtkeicfajlmhajaaGreatQs
namespace Go.Proofs.YtkeicfajlmhajaaGreat.Rf
open Go Go.RowKit Go.Proofs.YtkeicfajlmhajaaGreat.K Go.Proofs.YtkeicfajlmhajaaGreat.Sl Go.Proofs.YtkeicfajlmhajaaGreat.Eg
open Go.Proofs.YtkeicfajlmhajaaGreat.Li (more more_lt own_form')
open Go.Proofs.YtkeicfajlmhajaaGreat.Rw (upd upd_same upd_other less less_same cell_below cell_upd own_mono own_below)

section
variable {w0 w w' : World} {b c : Nat} {F : Nat → Prop} {v : Nat → Value} {Fs : Nat → Nat → Prop} {K : Rs} {kb db : Nat} {H : Nat → Prop} {N : Nt}

/-- The loop of promote. -/
def PRel (w0 : World) (b c : Nat) (F : Nat → Prop) (kb db : Nat) (H : Nat → Prop) (N : Nt) (P : Rs) (kk : Nat) (w : World) : Prop :=
  ∃ v Fs Q, RM w0 b c F v Fs Q kb db H N w ∧ ((kk = 1 ∧ Q = P ∧ prot c < (P 2).length) ∨ (kk = 0 ∧ Q = demote c P ∧ (demote c P 2).length ≤ prot c))
theorem prel_start {P : Rs} (h : RM w0 b c F v Fs P kb db H N w) : ∃ kk, PRel w0 b c F kb db H N P kk w := by
  by_cases e : prot c < (P 2).length
  · exact ⟨1, v, Fs, P, h, .inl ⟨rfl, rfl, e⟩⟩
  · refine ⟨0, v, Fs, P, h, .inr ⟨rfl, ?_, ?_⟩⟩
    · unfold demote; rw [if_neg e]
    · unfold demote; rw [if_neg e]; omega

/-- What promote leaves. -/
def RMPost (w0 : World) (b c : Nat) (F : Nat → Prop) (kb db : Nat) (H : Nat → Prop) (N : Nt) (Q : Rs) (e : Ending) (w' : World) : Prop :=
  e = .returned (.tuple #[]) ∧ ∃ v Fs, RM w0 b c F v Fs Q kb db H N w'

theorem rmain_q (h : RM w0 b c F v Fs K kb db H N w) (hc1 : 1 ≤ c) (hc : c ≤ 1024) : ∀ a, Calls Tryz.prog 67 #[.pointer (some ⟨b, 0, none⟩)] (w.drewN a) fun e w' => e = .returned (.int .i64 (mainr c : Int)) ∧ ∃ m, w' = (w.drewN a).drewN m :=
  fun a => rmain_any (w := w.drewN a) hc1 hc h.cells.2.2.2.2.2

set_option maxRecDepth 100000 in
set_option maxHeartbeats 1600000 in
theorem rpromote_at (hs : Sep K) (hl : ∀ q, q < 3 → (K q).length ≤ 1000) (hc1 : 1 ≤ c) (hc : c ≤ 1024) (h : RM w0 b c F v Fs K kb db H N w) {key : ByteArray} (hk : key.size ≤ 40) (h1 : key ∈ K 1)
    (hp2 : (demote c (push K 2 key) 2).length ≤ prot c) :
    Calls Tryz.prog 64 #[.pointer (some ⟨b, 0, none⟩), .string key] w (RMPost w0 b c F kb db H N (demote c (push K 2 key))) := by
  obtain ⟨A, p, hr⟩ := h.rs
  have hl8 : ∀ q, q < 3 → (K q).length ≤ 80000 := fun q hq => by have := hl q hq; omega
  have c1 := hr.c1
  have CUT := Lib.hid (rcut hl8 hr (r := 1) (by omega) key)
  have HM := Lib.hid h
  have HUL := Lib.hid (upd_less hs (r := 1) (by omega) h1)
  have HSP : Hid (Sep (push K 2 key)) := Lib.hid (hs.push hk)
  have HLP : Hid (∀ q, q < 3 → (push K 2 key q).length ≤ 1001) := Lib.hid (fun q hq => by
    have h1 := push_length K 2 key q
    have h2 := Rw.less_length K key q
    have h3 := hl q hq
    split at h1 <;> omega)
  have LN : Hid ((less K key 2).length ≤ 1000000) := Lib.hid (by have := Rw.less_length K key 2; have := hl 2 (by omega); omega)
  have HD := Lib.hid hp2
  have hmr : mainr c ≤ 1024 := by unfold mainr; omega
  have hpr : ((mainr c : Int) * 4) / 5 = (prot c : Int) := by unfold prot; omega
  have HPU : Hid (push K 2 key = upd (less K key) 2 (less K key 2 ++ [key])) := Lib.hid rfl
  clear h hr hs hl hl8 h1 hp2
  generalize hP : push K 2 key = P at *
  clear hP
  generalize A 1 = A1 at *
  generalize p 1 = p1 at *
  generalize (K 1).length = n1 at *
  go_enter Tryz.func64, Tryz.ntmps64
  go_wp2_with fail
  refine CUT.out.mono ?_
  rintro e w1 ⟨v', rfl, ho, hb1, -⟩
  obtain ⟨A', c', rfl⟩ := own_form' ho
  have HM1 := Lib.hid (HM.out.below hb1)
  have HE := Lib.hid ((HM.out.cutted (r := 1) (by omega) hb1 ho).same HUL.out)
  obtain ⟨A, p, hr⟩ := HM1.out.rs
  have d1 := hr.c1
  have d2 := hr.c2
  have df := HM1.out.wr
  have sl := HE.out.sl 2 (by omega)
  rw [upd_other _ _ (by omega), hr.v_ 2 (by omega)] at sl
  have SL := Lib.hid sl
  have LT := Lib.hid (HE.out.lt 2 (by omega))
  clear ho hb1 hr sl
  generalize A 1 = A1 at *
  generalize p 1 = p1 at *
  generalize A 2 = A2 at *
  generalize p 2 = p2 at *
  generalize (K 1).length = n1 at *
  generalize (K 2).length = n2 at *
  go_wp2_with (at_builtin; refine wpList_push rfl _ _ rfl SL.out LN.out LT.out key 1 w1.heap.size (by simp) rfl rfl ?_; intro v2 w2 hp; obtain ⟨A'', c'', hv, -⟩ := hp.sl.form; subst hv; have HP := Lib.hid hp; have HB2 := Lib.hid (hp.upd.get HE.out.blk (HE.out.nb 2 (by omega))); have q2 := cell_of HB2.out 2; have qf := free_of HB2.out; clear hp)
  have hm3 := HE.out.pushed (r := 2) (by omega) HP.out
  rw [← HPU.out] at hm3
  obtain ⟨kk, hkk⟩ := prel_start hm3
  have HKK := Lib.hid hkk
  clear hm3 hkk
  go_loopg [] kk (fun kk wr => PRel w0 b c F kb db H N P kk wr)
  case atStart =>
    have := HKK.out
    first | exact this | (rw [List.length_append, List.length_singleton] at this; exact this)
  case round =>
    clear HKK
    obtain ⟨vq, Fq, Q, hm, hq⟩ := hrel
    have HMQ := Lib.hid hm
    have MN := Lib.hid (rmain_q hm hc1 hc)
    obtain ⟨A, p, hr⟩ := hm.rs
    have e2 := hr.c2
    have ef := hm.wr
    clear hm
    rcases hq with ⟨rfl, rfl, hlt⟩ | ⟨rfl, rfl, hle⟩
    · obtain ⟨t, ht⟩ := oldest_cons (Q 2) (by omega)
      obtain ⟨k, hk0⟩ : ∃ k, oldest (Q 2) = k := ⟨_, rfl⟩
      have hmem : oldest (Q 2) ∈ Q 2 := oldest_mem (by omega)
      have HDM : Hid (demote c Q = push Q 1 k) := Lib.hid (by unfold demote; rw [if_pos hlt, hk0])
      rw [hk0] at ht hmem
      have HT := Lib.hid ht
      have HLQ8 : Hid (∀ q, q < 3 → (Q q).length ≤ 80000) := Lib.hid (fun q hq => by have := HLP.out q hq; omega)
      have HUL2 := Lib.hid (upd_less HSP.out (r := 2) (by omega) hmem)
      have LN2 : Hid ((less Q k 1).length ≤ 1000000) := Lib.hid (by have := Rw.less_length Q k 1; have := HLP.out 1 (by omega); omega)
      have HL2 := Lib.hid (HLP.out 2 (by omega))
      have z0 : (0 : Int) < ((Q 2).length : Int) := by omega
      have z1 : 0 < (Q 2).length := by omega
      have HZ : Hid ((0 : Int) < ((Q 2).length : Int) ∧ 0 < (Q 2).length) := Lib.hid ⟨z0, z1⟩
      clear hr hk0 ht hmem z0 z1
      obtain ⟨n2, hn2⟩ : ∃ n, (Q 2).length = n := ⟨_, rfl⟩
      have hn2' : n2 ≤ 1001 := by rw [← hn2]; exact HL2.out
      rw [hn2] at e2 hlt
      clear hn2
      generalize mainr c = mr at *
      have dP : decide (prot c < n2) = true := by simpa using hlt
      go_wp2_with fail
      go_quiet ((go_at_call 67; exact Do.quiet_any (MN.out _)))
      have HM5 := Lib.hid (HMQ.out.drewN nq)
      clear e2 ef
      obtain ⟨A, p, hr⟩ := HM5.out.rs
      obtain ⟨g, o, hA, hcell⟩ := first_cell hr (r := 2) (by omega) HT.out
      have e2 := hr.c2
      have CT := rcut HLQ8.out hr (r := 2) (by omega) k
      rw [hA] at e2 CT
      have CUT2 := Lib.hid CT
      obtain ⟨z0, z1⟩ := HZ.out
      clear hr hA CT
      generalize p 2 = p2' at *
      generalize (Q 2).length = n3 at *
      go_wp2_with fail
      refine CUT2.out.mono ?_
      rintro e w5 ⟨v', rfl, ho, hb5, -⟩
      obtain ⟨A', c', rfl⟩ := own_form' ho
      have HM6 := Lib.hid (HM5.out.below hb5)
      have HE6 := Lib.hid ((HM5.out.cutted (r := 2) (by omega) hb5 ho).same HUL2.out)
      obtain ⟨A, p, hr⟩ := HM6.out.rs
      have d1 := hr.c1
      have d2 := hr.c2
      have df := HM6.out.wr
      have sl := HE6.out.sl 1 (by omega)
      rw [upd_other _ _ (by omega), hr.v_ 1 (by omega)] at sl
      have SL6 := Lib.hid sl
      have LT6 := Lib.hid (HE6.out.lt 1 (by omega))
      clear ho hb5 hr sl
      generalize A 1 = A1 at *
      generalize p 1 = p1 at *
      generalize A 2 = A2 at *
      generalize p 2 = p2 at *
      generalize (Q 1).length = n4 at *
      generalize (Q 2).length = n5 at *
      go_wp2_with (at_builtin; refine wpList_push rfl _ _ rfl SL6.out LN2.out LT6.out k 1 w5.heap.size (by simp) rfl rfl ?_; intro v2 w6 hp; obtain ⟨A'', c'', hv, -⟩ := hp.sl.form; subst hv; have HP6 := Lib.hid hp; have HB6 := Lib.hid (hp.upd.get HE6.out.blk (HE6.out.nb 1 (by omega))); have q1 := cell_of HB6.out 1; have qf := free_of HB6.out; clear hp)
      have HM7 := Lib.hid (HE6.out.pushed (r := 1) (by omega) HP6.out)
      go_roundg 0
      case measure => omega
      case rel =>
        have h7 := HM7.out
        rw [show upd (less Q k) 1 (less Q k 1 ++ [k]) = push Q 1 k from rfl, ← HDM.out] at h7
        first | exact ⟨_, _, _, h7, .inr ⟨rfl, rfl, HD.out⟩⟩ | (rw [List.length_append, List.length_singleton] at h7; exact ⟨_, _, _, h7, .inr ⟨rfl, rfl, HD.out⟩⟩)
    · obtain ⟨n2, hn2⟩ : ∃ n, (demote c P 2).length = n := ⟨_, rfl⟩
      rw [hn2] at e2 hle
      clear hr hn2
      generalize mainr c = mr at *
      have dP : decide (prot c < n2) = false := by simpa using hle
      have hn2' : n2 ≤ 1024 := by omega
      go_wp2_with fail
      go_quiet ((go_at_call 67; exact Do.quiet_any (MN.out _)))
      go_wp2_with fail
      go_end0
      exact ⟨rfl, _, _, HMQ.out.drewN _⟩
end

end Go.Proofs.YtkeicfajlmhajaaGreat.Rf
