/- TinyLFU in memory: Access. -/
import Derived.Test.YtkeicfajlmhajaaGreatQe
namespace Go.Proofs.YtkeicfajlmhajaaGreat.Eg
open Go Go.RowKit Go.Proofs.YtkeicfajlmhajaaGreat.K
open Go.Proofs.YtkeicfajlmhajaaGreat.Li (more more_lt own_form' infoS)
open Go.Proofs.YtkeicfajlmhajaaGreat.Rw

section
variable {w : World} {b c : Nat} {F : Nat → Prop} {K : Ks}

/-- An act's end: what it says, the engine as K', its memory where it was, or new. -/
def Did (v : Value) (b : Nat) (F : Nat → Prop) (c : Nat) (K' : Ks) (w : World) (e : Ending) (w' : World) : Prop :=
  e = .returned v ∧ ∃ F', Eng w' b F' c K' ∧ Step F w F' w'
theorem Did.of_below {v : Value} {e : Ending} {w' : World} (h : Eng w b F c K) (he : e = .returned v) (hb : Below w.heap.size w w') : Did v b F c K w e w' :=
  ⟨he, F, h.below hb, Step.of_below hb⟩
/-- The same, and texts that are their own. -/
def Gone (l : List ByteArray) (mk : Value → Value) (b : Nat) (F : Nat → Prop) (c : Nat) (K' : Ks) (w : World) (e : Ending) (w' : World) : Prop :=
  ∃ v F', e = .returned (mk v) ∧ Eng w' b F' c K' ∧ Step F w F' w' ∧ w'.ownsRow w.heap.size 9 1 v l.length (l.map .string) ∧ ∀ k, v.ownBlock = some k → ¬ F' k
theorem Gone.mk {l : List ByteArray} {f : Value → Value} {K' : Ks} {w w' : World} {e : Ending} {v : Value} {F' : Nat → Prop} (he : e = .returned (f v)) (h1 : Eng w' b F' c K') (h2 : Step F w F' w') (h3 : w'.ownsRow w.heap.size 9 1 v l.length (l.map .string)) (h4 : ∀ k, v.ownBlock = some k → ¬ F' k) : Gone l f b F c K' w e w' :=
  ⟨v, F', he, h1, h2, h3, h4⟩
/-- What Access says and leaves. -/
def AccPost (b : Nat) (F : Nat → Prop) (c : Nat) (K : Ks) (key : ByteArray) (w : World) (e : Ending) (w' : World) : Prop :=
  Gone (access c K key).2.1 (fun v => .tuple #[.bool (access c K key).1, v]) b F c (access c K key).2.2 w e w'

theorem lens {c : Nat} {K : Ks} (h : Inv c K) : ∀ q, q < 3 → (K.r q).length ≤ 80000 := fun q hq => by
  have := h.len1
  match q, hq with
  | 0, _ => omega
  | 1, _ => omega
  | 2, _ => omega

section
variable {w0 w1 : World} {s cap bx kb db : Nat} {G H : Nat → Prop}
/-- notes, and what K is behind it. -/
theorem noted_at (h : MidK w0 b s cap bx kb db c F G H K w) {key : ByteArray} (hk : key.size ≤ 40) :
    Calls Tryz.prog 60 #[.pointer (some ⟨b, 0, none⟩), .string key] w fun e w' => e = .returned (.tuple #[]) ∧ MidK w0 b s cap bx kb db c F G H ⟨K.r, K.h ++ [key]⟩ w' :=
  (notes_at h (nts_range c K.h) hk).mono fun _ _ ⟨he, hm⟩ => ⟨he, by show Mid _ _ _ _ _ _ _ _ _ _ _ _ (nts c (K.h ++ [key])) _; rw [nts_snoc]; exact hm⟩
theorem hit_end {R' : Rs} {l : List ByteArray} (h : MidK w b s cap bx kb db c F G H ⟨R', l⟩ w1) (hi : Inv c ⟨R', l⟩) : Gone [] (fun v => .tuple #[.bool true, v]) b F c ⟨R', l⟩ w (.returned (.tuple #[.bool true, .slice none 0 0])) w1 := by
  obtain ⟨h1, h2⟩ := h.done hi
  exact Gone.mk (v := .slice none 0 0) rfl h1 (more_eq h2) (World.ownsRow_nil _ _ _ _) (fun k hk => by simp [Value.ownBlock] at hk)
end

set_option maxRecDepth 100000 in
set_option maxHeartbeats 800000 in
theorem acc_win (h : Eng w b F c K) {key : ByteArray} (hk : key.size ≤ 40) (h0 : key ∈ K.r 0) : Calls Tryz.prog 40 #[.pointer (some ⟨b, 0, none⟩), .string key] w (AccPost b F c K key w) := by
  have hi' := (access_facts h.inv hk).inv
  have hi := h.inv
  have e : access c K key = (true, [], ⟨push K.r 0 key, K.h ++ [key]⟩) := by unfold access; rw [if_pos h0]
  unfold AccPost
  rw [e] at hi' ⊢
  have hr : row K.r key = 0 := by unfold row; rw [if_pos h0]
  obtain ⟨s, cap, bx, kb, db, G, H, hm⟩ := h.mid
  have N := Lib.hid (noted_at hm hk)
  have HL := Lib.hid (lens hi)
  have HI := Lib.hid hi'
  have HR := Lib.hid hr
  clear hm hi hi' e hr h h0
  go_enter Tryz.func40, Tryz.ntmps40
  go_wp2_with fail
  refine N.out.mono ?_
  rintro e w1 ⟨rfl, hm1⟩
  have HM1 := Lib.hid hm1
  obtain ⟨c0, c1, c2, c3, c4, c5, c6, c7⟩ := hm1.cells
  have W := Lib.hid (where_at hm1.rows (Below.refl _ _) (key := key) (by omega))
  rw [HR.out] at W
  clear hm1
  go_wp2_with fail
  refine W.out.mono ?_
  rintro e w2 ⟨rfl, hb2⟩
  have HM2 := Lib.hid (HM1.out.below hb2)
  obtain ⟨d0, d1, d2, d3, d4, d5, d6, d7⟩ := HM2.out.cells
  clear hb2
  go_wp2_with fail
  refine (push_at' HM2.out.rows hk 0 (by omega) (z := 0) rfl HL.out).mono ?_
  rintro e w3 ⟨rfl, G3, hr3, hs3⟩
  have HM3 := Lib.hid (HM2.out.rown hr3 hs3)
  clear hr3 hs3
  go_wp2_with fail
  go_ret2
  exact hit_end HM3.out HI.out

/-- The loop behind a hit: too many protected, or not. -/
def PRel (w0 : World) (b s cap bx kb db c : Nat) (F H : Nat → Prop) (P : Rs) (l : List ByteArray) (kk : Nat) (w : World) : Prop :=
  ∃ Q G, MidK w0 b s cap bx kb db c F G H ⟨Q, l⟩ w ∧ ((kk = 1 ∧ Q = P ∧ prot c < (P 2).length) ∨ (kk = 0 ∧ Q = demote c P ∧ (demote c P 2).length ≤ prot c))
theorem prel_start {w0 : World} {s cap bx kb db : Nat} {G H : Nat → Prop} {P : Rs} {l : List ByteArray} (h : MidK w0 b s cap bx kb db c F G H ⟨P, l⟩ w) : ∃ kk, PRel w0 b s cap bx kb db c F H P l kk w := by
  by_cases e : prot c < (P 2).length
  · exact ⟨1, P, G, h, .inl ⟨rfl, rfl, e⟩⟩
  · refine ⟨0, P, G, h, .inr ⟨rfl, ?_, ?_⟩⟩
    · unfold demote; rw [if_neg e]
    · unfold demote; rw [if_neg e]; omega

set_option maxRecDepth 100000 in
set_option maxHeartbeats 1600000 in
theorem acc_main (h : Eng w b F c K) {key : ByteArray} (hk : key.size ≤ 40) (h0 : key ∉ K.r 0) (h12 : key ∈ K.r 1 ∨ key ∈ K.r 2) : Calls Tryz.prog 40 #[.pointer (some ⟨b, 0, none⟩), .string key] w (AccPost b F c K key w) := by
  have hi' := (access_facts h.inv hk).inv
  have hi := h.inv
  have e : access c K key = (true, [], ⟨demote c (push K.r 2 key), K.h ++ [key]⟩) := by unfold access; rw [if_neg h0, if_pos h12]
  unfold AccPost
  rw [e] at hi' ⊢
  have hr : row K.r key = 1 ∨ row K.r key = 2 := by
    unfold row
    rw [if_neg h0]
    by_cases h1 : key ∈ K.r 1
    · rw [if_pos h1]; exact .inl rfl
    · rw [if_neg h1, if_pos (h12.resolve_left h1)]; exact .inr rfl
  have hlp : ∀ q, q < 3 → (push K.r 2 key q).length ≤ 2000 := fun q hq => by
    have h1 := push_length K.r 2 key q
    have h2 := less_length K.r key q
    have h3 := hi.len1
    have : q = 0 ∨ q = 1 ∨ q = 2 := by omega
    rcases this with rfl | rfl | rfl <;> simp at h1 <;> omega
  have hsp : Sep (push K.r 2 key) := hi.sep.push hk
  have hpc : prot c ≤ 1024 := by have := hi.c2; unfold prot mainr; omega
  have hd2 : (demote c (push K.r 2 key) 2).length ≤ prot c := hi'.r2
  obtain ⟨s, cap, bx, kb, db, G, H, hm⟩ := h.mid
  have N := Lib.hid (noted_at hm hk)
  have HL := Lib.hid (lens hi)
  have HI := Lib.hid hi'
  have HD := Lib.hid hd2
  have HLP := Lib.hid hlp
  have HSP := Lib.hid hsp
  have HRK := Lib.hid (show ∀ r, row K.r key = r → row K.r key = r from fun _ h => h)
  clear hm hi hi' e h h0 h12 hlp hsp hd2 HRK
  generalize hP : push K.r 2 key = P at *
  have HPP := Lib.hid hP
  clear hP
  rcases hr with hr | hr
  all_goals
    have HR := Lib.hid hr
    clear hr
    go_enter Tryz.func40, Tryz.ntmps40
    go_wp2_with fail
    refine N.out.mono ?_
    rintro e w1 ⟨rfl, hm1⟩
    have HM1 := Lib.hid hm1
    obtain ⟨c0, c1, c2, c3, c4, c5, c6, c7⟩ := hm1.cells
    have W := Lib.hid (where_at hm1.rows (Below.refl _ _) (key := key) (by omega))
    rw [HR.out] at W
    clear hm1
    go_wp2_with fail
    refine W.out.mono ?_
    rintro e w2 ⟨rfl, hb2⟩
    have HM2 := Lib.hid (HM1.out.below hb2)
    obtain ⟨d0, d1, d2, d3, d4, d5, d6, d7⟩ := HM2.out.cells
    clear hb2
    go_wp2_with fail
    refine (push_at' HM2.out.rows hk 2 (by omega) (z := 2) rfl HL.out).mono ?_
    rintro e w3 ⟨rfl, G3, hr3, hs3⟩
    rw [HPP.out] at hr3
    have hm3 : MidK w b s cap bx kb db c F G3 H ⟨P, K.h ++ [key]⟩ w3 := HM2.out.rown hr3 hs3
    obtain ⟨kk, hkk⟩ := prel_start hm3
    have HKK := Lib.hid hkk
    clear hr3 hs3 hm3 hkk
    go_wp2_with fail
    go_loopg [] kk (fun kk wr => PRel w b s cap bx kb db c F H P (K.h ++ [key]) kk wr)
    case atStart => exact HKK.out
    case round =>
      clear HKK
      obtain ⟨Q, G5, hm, hq⟩ := hrel
      have HM5 := Lib.hid hm
      obtain ⟨e0, e1, e2, e3, e4, e5, e6, e7⟩ := hm.cells
      clear hm
      rcases hq with ⟨rfl, rfl, hl⟩ | ⟨rfl, hQ, hl⟩
      · have hl2 := HLP.out 2 (by omega)
        have HQ2 : Hid (∃ t, Q 2 = oldest (Q 2) :: t) := Lib.hid (oldest_cons (Q 2) (by omega))
        have HOS : Hid ((oldest (Q 2)).size ≤ 40) := Lib.hid (HSP.out.small 2 (by omega) _ (oldest_mem (by omega)))
        have hdm : demote c Q = push Q 1 (oldest (Q 2)) := by unfold demote; rw [if_pos hl]
        have HDM := Lib.hid hdm
        have M2 := Lib.hid (many_one HM5.out.drew 2 (by omega) (z := 2) rfl (by show (Q 2).length ≤ 80000; omega))
        have HLQ : Hid (∀ q, q < 3 → (Q q).length ≤ 80000) := Lib.hid (fun q hq => Nat.le_trans (HLP.out q hq) (by omega))
        have M2' : Hid (Calls Tryz.prog 51 #[rva s cap bx, .slice (some ⟨wr.drew.heap.size, 0, none⟩) 1 1] (wr.drew.alloc (.cells #[.int .i64 2] 3)) fun e w' => e = .returned (.int .i64 ((Q 2).length : Int)) ∧ Below wr.drew.heap.size wr.drew w') := M2
        have dp : decide (prot c < (Q 2).length) = true := by simpa using hl
        obtain ⟨ol, hol⟩ : ∃ o, oldest (Q 2) = o := ⟨_, rfl⟩
        rw [hol] at HQ2 HOS HDM
        clear M2 hdm hol
        obtain ⟨n2, hn2⟩ : ∃ n, (Q 2).length = n := ⟨_, rfl⟩
        rw [hn2] at M2' dp hl hl2
        clear hn2
        go_wp2_with fail
        go_region_held3 (fun w' => w'.cell? ⟨b, 0, none⟩ = some (.slice (some ⟨s, 0, none⟩) 3 cap) ∧ w'.cell? ⟨b, 1, none⟩ = some (.pointer (some ⟨bx, 0, none⟩)) ∧ w'.cell? ⟨b, 5, none⟩ = some (.int .i64 (prot c : Int)))
          (first | (go_keep; done) | exact ⟨by assumption, by assumption, by assumption⟩)
          (first | (go_at_call 51; refine M2'.out.mono ?_; rintro e w6 ⟨rfl, hb6⟩; have HM6 := Lib.hid (HM5.out.drew.below hb6); have p := HM6.out.cells; have p0 := p.1; have p1 := p.2.1; have p5 := p.2.2.2.2.2.1; clear hb6 p))
        go_wp2_with fail
        go_region_held3 (fun w' => w'.cell? ⟨b, 0, none⟩ = some (.slice (some ⟨s, 0, none⟩) 3 cap) ∧ w'.cell? ⟨b, 1, none⟩ = some (.pointer (some ⟨bx, 0, none⟩)))
          (first | (go_keep; done) | exact ⟨by assumption, by assumption⟩)
          (first
            | (go_at_call 49; obtain ⟨t, ht⟩ := HQ2.out; refine (oldest_at HM6.out.drew.rows 2 (by omega) (z := 2) rfl ht).mono ?_; rintro e w7 ⟨rfl, hb7⟩; have HM7 := Lib.hid (HM6.out.drew.below hb7); have p := HM7.out.cells; have p0 := p.1; have p1 := p.2.1; clear hb7 p ht)
            | (go_at_call 52; refine (push_at' HM7.out.rows HOS.out 1 (by omega) (z := 1) rfl HLQ.out).mono ?_; rintro e w8 ⟨rfl, G8, hr8, hs8⟩; have HM8 := Lib.hid (HM7.out.rown hr8 hs8); have p := HM8.out.cells; have p0 := p.1; have p1 := p.2.1; clear hr8 hs8 p))
        go_wp2_with fail
        go_roundg 0
        case measure => omega
        case rel => exact ⟨_, _, HM8.out, .inr ⟨rfl, HDM.out.symm, HD.out⟩⟩
      · subst hQ
        have HQI : Hid (Inv c ⟨demote c P, K.h ++ [key]⟩) := HI
        have M2' : Hid (Calls Tryz.prog 51 #[rva s cap bx, .slice (some ⟨wr.drew.heap.size, 0, none⟩) 1 1] (wr.drew.alloc (.cells #[.int .i64 2] 3)) fun e w' => e = .returned (.int .i64 ((demote c P 2).length : Int)) ∧ Below wr.drew.heap.size wr.drew w') :=
          Lib.hid (many_one HM5.out.drew 2 (by omega) (z := 2) rfl (by show (demote c P 2).length ≤ 80000; omega))
        have dp : decide (prot c < (demote c P 2).length) = false := by simp; omega
        obtain ⟨n2, hn2⟩ : ∃ n, (demote c P 2).length = n := ⟨_, rfl⟩
        rw [hn2] at M2' dp hl
        clear hn2
        go_wp2_with fail
        go_region_held3 (fun w' => w'.cell? ⟨b, 0, none⟩ = some (.slice (some ⟨s, 0, none⟩) 3 cap) ∧ w'.cell? ⟨b, 1, none⟩ = some (.pointer (some ⟨bx, 0, none⟩)) ∧ w'.cell? ⟨b, 5, none⟩ = some (.int .i64 (prot c : Int)))
          (first | (go_keep; done) | exact ⟨by assumption, by assumption, by assumption⟩)
          (first | (go_at_call 51; refine M2'.out.mono ?_; rintro e w6 ⟨rfl, hb6⟩; have HM6 := Lib.hid (HM5.out.drew.below hb6); have p := HM6.out.cells; have p0 := p.1; have p1 := p.2.1; have p5 := p.2.2.2.2.2.1; clear hb6 p))
        go_wp2_with fail
        go_ret2
        exact hit_end HM6.out HQI.out

end

end Go.Proofs.YtkeicfajlmhajaaGreat.Eg
