/- An engine and its reference side by side; one act in both. -/
import Derived.Test.YtkeicfajlmhajaaGreatWa
import Derived.Test.YtkeicfajlmhajaaGreatQv
import Derived.Test.YtkeicfajlmhajaaGreatZf
import Derived.Deep.RegionHeld3
namespace Go.Proofs.YtkeicfajlmhajaaGreat.Lw
open Go Go.RowKit Go.Proofs.YtkeicfajlmhajaaGreat.K Go.Proofs.YtkeicfajlmhajaaGreat.Sl
open Go.Proofs.YtkeicfajlmhajaaGreat.Li (more more_lt own_form')
open Go.Proofs.YtkeicfajlmhajaaGreat.Rw (cell_below cell_upd own_mono own_below)
open Go.Proofs.YtkeicfajlmhajaaGreat.Eg (Ks Eng access remove evict has stext res gho len cof init Inv AccPost Gone Texts)
open Go.Proofs.YtkeicfajlmhajaaGreat.Rf (Ref RAccPost RGone)

/-- An engine at b in F, its reference at q in G, apart. -/
structure Two (w : World) (b q c : Nat) (F G : Nat → Prop) (K L : Ks) : Prop where
  eng : Eng w b F c K
  ref : Ref w q G c L
  sep : ∀ k, F k → ¬ G k

/-- Both footprints. -/
def Both (F G : Nat → Prop) : Nat → Prop := fun k => F k ∨ G k

section
variable {w w' : World} {b q c : Nat} {F F' G G' : Nat → Prop} {K K' L L' : Ks}

theorem Two.below (h : Two w b q c F G K L) (hb : Below w.heap.size w w') : Two w' b q c F G K L := ⟨h.eng.below hb, h.ref.below hb, h.sep⟩
theorem Two.drewN (h : Two w b q c F G K L) (n : Nat) : Two (w.drewN n) b q c F G K L := h.below (below_drewN (Below.refl _ _) n)
theorem Two.lt (h : Two w b q c F G K L) : ∀ k, Both F G k → k < w.heap.size := fun k hk => by
  rcases hk with hk | hk
  · exact h.eng.lt k hk
  · exact h.ref.lt k hk
theorem Two.upd {H : Nat → Prop} (h : Two w b q c F G K L) (hu : Upd H w w') (hH : ∀ k, Both F G k → ¬ H k) : Two w' b q c F G K L :=
  ⟨h.eng.upd hu (fun k hk => hH k (.inl hk)), h.ref.upd hu (fun k hk => hH k (.inr hk)), h.sep⟩
/-- The engine acts. -/
theorem Two.left (h : Two w b q c F G K L) (he : Eng w' b F' c K') (hs : Step F w F' w') : Two w' b q c F' G K' L ∧ Step (Both F G) w (Both F' G) w' :=
  ⟨⟨he, h.ref.upd hs.upd (fun k hk hf => h.sep k hf hk), fun k hk hg => by
    rcases hs.grow k hk with h1 | h1
    · exact h.sep k h1 hg
    · have := h.ref.lt k hg; omega⟩, hs.part⟩
/-- The reference acts. -/
theorem Two.right (h : Two w b q c F G K L) (hr : Ref w' q G' c L') (hs : Step G w G' w') : Two w' b q c F G' K L' ∧ Step (Both F G) w (Both F G') w' := by
  refine ⟨⟨h.eng.upd hs.upd (fun k hk hg => h.sep k hk hg), hr, fun k hk hg => ?_⟩, ⟨hs.upd.mono (fun k _ hk => .inr hk), fun k hk => ?_⟩⟩
  · rcases hs.grow k hg with h1 | h1
    · exact h.sep k hk h1
    · have := h.eng.lt k hk; omega
  · rcases hk with hk | hk
    · exact .inl (.inl hk)
    · rcases hs.grow k hk with h1 | h1
      · exact .inl (.inr h1)
      · exact .inr h1

/-- What an act leaves. -/
def next (c : Nat) (K : Ks) (a : Act2) : Ks :=
  if a.kind = 1 then (access c K a.key).2.2 else if a.kind = 2 then (Eg.load c K a.key).2 else if a.kind = 3 then (remove K a.key).2 else if a.kind = 4 then (evict c K).2.2 else K

def ActPost (b q c : Nat) (F G : Nat → Prop) (K' : Ks) (w : World) (e : Ending) (w' : World) : Prop :=
  e = .returned (.bool true) ∧ ∃ F' G', Two w' b q c F' G' K' K' ∧ Step (Both F G) w (Both F' G') w'

theorem far_step {D D' : Nat → Prop} {k : Nat} (h : ¬ D k) (hk : k < w.heap.size) (hs : Step D w D' w') : ¬ D' k := fun hf => (hs.grow k hf).elim h (by omega)

theorem own_rstr {B n : Nat} {v : Value} {l : List ByteArray} (h : w.ownsRow B 9 1 v n (l.map .string)) (hl : l.length ≤ 8796093021952) : ∃ A c, v = .slice A l.length c ∧ l.length ≤ c ∧ RStr w A l := by
  have hs := Sl.of_own (F := fun _ => True) h (fun _ _ => trivial)
  obtain ⟨A, c, rfl, hc⟩ := hs.form
  exact ⟨A, c, rfl, hc, hs.rstr hl⟩

theorem gone_le {c : Nat} {K : Ks} (hi : Inv c K) {key : ByteArray} (hk : key.size ≤ 40) : (access c K key).2.1.length ≤ 1 := by
  have h := Eg.access_facts hi hk
  by_cases hm : key ∈ res K
  · rw [(h.yes hm).1]; simp
  · rcases h.no hm with ⟨-, h1, -⟩ | ⟨-, k, h1, -⟩
    · rw [h1]; simp
    · rw [h1]; simp

set_option maxHeartbeats 800000 in
theorem act_1 (h : Two w b q c F G K K) {key : ByteArray} (hk : key.size ≤ 40) :
    Calls Tryz.prog 13 #[.pointer (some ⟨b, 0, none⟩), .pointer (some ⟨q, 0, none⟩), .agg #[.int .i64 1, .string key]] w (ActPost b q c F G (access c K key).2.2 w) := by
  have hb1 : Below w.heap.size w (w.alloc (.cells #[.int .i64 1, .string key] 30)) := (Below.refl _ _).alloc (Nat.le_refl _) _
  have h1 := h.below hb1
  have EA := Lib.hid (Eg.eng_access h1.eng hk)
  have RA := Lib.hid (fun w2 (hr : Ref w2 q G c K) => Rf.ref_access hr hk)
  have hgl := gone_le h.eng.inv hk
  unfold AccPost at EA
  unfold RAccPost at RA
  have H0 := Lib.hid h
  have H1 := Lib.hid h1
  have HB1 := Lib.hid hb1
  have HF : Hid (¬ Both F G w.heap.size) := Lib.hid (fun hh => by have := h.lt _ hh; omega)
  have hblk := block_new w (.cells #[.int .i64 1, .string key] 30)
  have k1 := cell_of hblk 1
  have k0 := cell_of hblk 0
  clear h h1 hb1 hblk
  generalize access c K key = r at *
  obtain ⟨hit, l, K'⟩ := r
  go_enter Tryz.func13, Tryz.ntmps13
  go_wp2_with fail
  refine EA.out.mono ?_
  rintro e w2 ⟨v, F2, rfl, he2, hs2, ho2, hn2⟩
  have hh := H1.out.left he2 hs2
  have q1 := cell_upd hh.2.upd HF.out k1
  have T1 := Lib.hid hh.1
  have S1 := Lib.hid hh.2
  have HO := Lib.hid ho2
  clear he2 hs2 hh ho2 hn2
  simp only []
  go_wp2_with fail
  refine (RA.out w2 T1.out.ref).mono ?_
  rintro e w3 ⟨u, G3, rfl, hr3, hs3, ho3, hn3⟩
  have hh := T1.out.right hr3 hs3
  have hO : w3.ownsRow (w.alloc (.cells #[.int .i64 1, .string key] 30)).heap.size 9 1 v l.length (l.map .string) := own_upd HO.out hs3.upd (fun k hk hg => by
    have := (HO.out.lt k hk).1
    have := H1.out.ref.lt k hg
    omega)
  obtain ⟨A1, c1, rfl, hc1, R1⟩ := own_rstr hO (by omega)
  obtain ⟨A2, c2, rfl, hc2, R2⟩ := own_rstr ho3 (by omega)
  have TX := Lib.hid (texts_same R1 R2 hc1 hc2 (by omega))
  have T2 := Lib.hid hh.1
  have S2 := Lib.hid (S1.out.trans hh.2)
  clear hr3 hs3 ho3 hn3 hh hO R1 R2
  simp only []
  go_wp2_with fail
  refine TX.out.mono ?_
  rintro e w4 ⟨rfl, hb4⟩
  have HB4 := Lib.hid hb4
  clear hb4
  go_wp2_with fail
  go_ret
  exact ⟨rfl, _, _, T2.out.below HB4.out, (Step.of_below HB1.out).trans (S2.out.trans (Step.of_below HB4.out))⟩

set_option maxHeartbeats 800000 in
theorem act_2 (h : Two w b q c F G K K) {key : ByteArray} (hk : key.size ≤ 40) :
    Calls Tryz.prog 13 #[.pointer (some ⟨b, 0, none⟩), .pointer (some ⟨q, 0, none⟩), .agg #[.int .i64 2, .string key]] w (ActPost b q c F G (Eg.load c K key).2 w) := by
  have hb1 : Below w.heap.size w (w.alloc (.cells #[.int .i64 2, .string key] 30)) := (Below.refl _ _).alloc (Nat.le_refl _) _
  have h1 := h.below hb1
  have EA := Lib.hid (Eg.eng_load (h1.drewN 1).eng hk)
  have RA := Lib.hid (fun F w2 (hr : Ref w2 q F c K) => Rf.ref_load hr hk)
  have HD := Lib.hid (h1.drewN 1)
  have H0 := Lib.hid h
  have H1 := Lib.hid h1
  have HB1 := Lib.hid hb1
  have HF : Hid (¬ Both F G w.heap.size) := Lib.hid (fun hh => by have := h.lt _ hh; omega)
  have hblk := block_new w (.cells #[.int .i64 2, .string key] 30)
  have k1 := cell_of hblk 1
  have k0 := cell_of hblk 0
  clear h h1 hb1 hblk
  generalize Eg.load c K key = r at *
  obtain ⟨hit, K'⟩ := r
  go_enter Tryz.func13, Tryz.ntmps13
  go_wp2_with fail
  go_region_held3 (fun w' => w'.cell? ⟨w.heap.size, 1, none⟩ = some (.string key))
    (first | (go_keep; done) | assumption)
    (first | (go_at_call 42; refine (RA.out _ _ T1.out.ref).mono ?_; rintro e w3 ⟨rfl, G3, hr3, hs3⟩; have hh := T1.out.right hr3 hs3; have p1 := cell_upd hh.2.upd NF.out q1; have T2 := Lib.hid hh.1; have S2 := Lib.hid (S1.out.trans hh.2); clear hr3 hs3 hh) | (go_at_call 23; refine EA.out.mono ?_; rintro e w2 ⟨rfl, F2, he2, hs2⟩; have hh := HD.out.left he2 hs2; have q1 := cell_upd (w := (w.alloc (.cells #[.int .i64 2, .string key] 30)).drew) hh.2.upd HF.out k1; have T1 := Lib.hid hh.1; have S1 := Lib.hid (Step.of_drewN hh.2); have NF := Lib.hid (far_step HF.out (by show w.heap.size < (w.alloc _).heap.size; simp) hh.2); clear he2 hs2 hh))
  go_wp2_with fail
  go_ret
  exact ⟨rfl, _, _, T2.out, (Step.of_below HB1.out).trans S2.out⟩

set_option maxHeartbeats 800000 in
theorem act_3 (h : Two w b q c F G K K) {key : ByteArray} (hk : key.size ≤ 40) :
    Calls Tryz.prog 13 #[.pointer (some ⟨b, 0, none⟩), .pointer (some ⟨q, 0, none⟩), .agg #[.int .i64 3, .string key]] w (ActPost b q c F G (remove K key).2 w) := by
  have hb1 : Below w.heap.size w (w.alloc (.cells #[.int .i64 3, .string key] 30)) := (Below.refl _ _).alloc (Nat.le_refl _) _
  have h1 := h.below hb1
  have EA := Lib.hid (Eg.eng_remove (h1.drewN 1).eng hk)
  have RA := Lib.hid (fun F w2 (hr : Ref w2 q F c K) => Rf.ref_remove hr (key := key))
  have HD := Lib.hid (h1.drewN 1)
  have H0 := Lib.hid h
  have H1 := Lib.hid h1
  have HB1 := Lib.hid hb1
  have HF : Hid (¬ Both F G w.heap.size) := Lib.hid (fun hh => by have := h.lt _ hh; omega)
  have hblk := block_new w (.cells #[.int .i64 3, .string key] 30)
  have k1 := cell_of hblk 1
  have k0 := cell_of hblk 0
  clear h h1 hb1 hblk
  generalize remove K key = r at *
  obtain ⟨hit, K'⟩ := r
  go_enter Tryz.func13, Tryz.ntmps13
  go_wp2_with fail
  go_region_held3 (fun w' => w'.cell? ⟨w.heap.size, 1, none⟩ = some (.string key))
    (first | (go_keep; done) | assumption)
    (first | (go_at_call 43; refine (RA.out _ _ T1.out.ref).mono ?_; rintro e w3 ⟨rfl, G3, hr3, hs3⟩; have hh := T1.out.right hr3 hs3; have p1 := cell_upd hh.2.upd NF.out q1; have T2 := Lib.hid hh.1; have S2 := Lib.hid (S1.out.trans hh.2); clear hr3 hs3 hh) | (go_at_call 25; refine EA.out.mono ?_; rintro e w2 ⟨rfl, F2, he2, hs2⟩; have hh := HD.out.left he2 hs2; have q1 := cell_upd (w := (w.alloc (.cells #[.int .i64 3, .string key] 30)).drew) hh.2.upd HF.out k1; have T1 := Lib.hid hh.1; have S1 := Lib.hid (Step.of_drewN hh.2); have NF := Lib.hid (far_step HF.out (by show w.heap.size < (w.alloc _).heap.size; simp) hh.2); clear he2 hs2 hh))
  go_wp2_with fail
  go_ret
  exact ⟨rfl, _, _, T2.out, (Step.of_below HB1.out).trans S2.out⟩

set_option maxHeartbeats 800000 in
theorem act_4 (h : Two w b q c F G K K) {key : ByteArray} :
    Calls Tryz.prog 13 #[.pointer (some ⟨b, 0, none⟩), .pointer (some ⟨q, 0, none⟩), .agg #[.int .i64 4, .string key]] w (ActPost b q c F G (evict c K).2.2 w) := by
  have hb1 : Below w.heap.size w (w.alloc (.cells #[.int .i64 4, .string key] 30)) := (Below.refl _ _).alloc (Nat.le_refl _) _
  have h1 := h.below hb1
  have EA := Lib.hid (Eg.eng_evict h1.eng)
  have RA := Lib.hid (fun F w2 (hr : Ref w2 q F c K) => Rf.ref_evict hr)
  have H0 := Lib.hid h
  have H1 := Lib.hid h1
  have HB1 := Lib.hid hb1
  have HF : Hid (¬ Both F G w.heap.size) := Lib.hid (fun hh => by have := h.lt _ hh; omega)
  have hblk := block_new w (.cells #[.int .i64 4, .string key] 30)
  have k1 := cell_of hblk 1
  have k0 := cell_of hblk 0
  clear h h1 hb1 hblk
  generalize evict c K = r at *
  obtain ⟨k, ok, K'⟩ := r
  go_enter Tryz.func13, Tryz.ntmps13
  go_wp2_with fail
  refine EA.out.mono ?_
  rintro e w2 ⟨rfl, F2, he2, hs2⟩
  have hh := H1.out.left he2 hs2
  have T1 := Lib.hid hh.1
  have S1 := Lib.hid hh.2
  clear he2 hs2 hh
  go_wp2_with fail
  refine (RA.out _ w2 T1.out.ref).mono ?_
  rintro e w3 ⟨rfl, G3, hr3, hs3⟩
  have hh := T1.out.right hr3 hs3
  have T2 := Lib.hid hh.1
  have S2 := Lib.hid (S1.out.trans hh.2)
  clear hr3 hs3 hh
  go_wp2_with fail
  go_ret
  exact ⟨rfl, _, _, T2.out, (Step.of_below HB1.out).trans S2.out⟩

set_option maxHeartbeats 800000 in
theorem act_5 (h : Two w b q c F G K K) {key : ByteArray} (hk : key.size ≤ 40) {kind : Int} (n1 : kind ≠ 1) (n2 : kind ≠ 2) (n3 : kind ≠ 3) (n4 : kind ≠ 4) :
    Calls Tryz.prog 13 #[.pointer (some ⟨b, 0, none⟩), .pointer (some ⟨q, 0, none⟩), .agg #[.int .i64 kind, .string key]] w (ActPost b q c F G K w) := by
  have hb1 : Below w.heap.size w (w.alloc (.cells #[.int .i64 kind, .string key] 30)) := (Below.refl _ _).alloc (Nat.le_refl _) _
  have h1 := h.below hb1
  have EA := Lib.hid (Eg.eng_has (h1.drewN 1).eng (key := key) (by omega))
  have RA := Lib.hid (fun w2 (hr : Ref w2 q G c K) => Rf.ref_has hr key)
  have HD := Lib.hid (h1.drewN 1)
  have H0 := Lib.hid h
  have H1 := Lib.hid h1
  have HB1 := Lib.hid hb1
  have HF : Hid (¬ Both F G w.heap.size) := Lib.hid (fun hh => by have := h.lt _ hh; omega)
  have hblk := block_new w (.cells #[.int .i64 kind, .string key] 30)
  have k1 := cell_of hblk 1
  have k0 := cell_of hblk 0
  clear h h1 hb1 hblk
  generalize has K key = hit at *
  have d1 : (kind == 1) = false := by simpa using n1
  have d2 : (kind == 2) = false := by simpa using n2
  have d3 : (kind == 3) = false := by simpa using n3
  have d4 : (kind == 4) = false := by simpa using n4
  go_enter Tryz.func13, Tryz.ntmps13
  go_wp2_with fail
  go_region_held3 (fun w' => w'.cell? ⟨w.heap.size, 1, none⟩ = some (.string key))
    (first | (go_keep; done) | assumption)
    (first | (go_at_call 17; refine (RA.out _ T1.out.ref).mono ?_; rintro e w3 ⟨rfl, rfl⟩) | (go_at_call 16; refine EA.out.mono ?_; rintro e w2 ⟨rfl, hb2⟩; have q1 := cell_below (w := (w.alloc (.cells #[.int .i64 kind, .string key] 30)).drew) hb2 k1; have T1 := Lib.hid (HD.out.below hb2); have S1 := Lib.hid (Step.of_below (F := Both F G) (w := (w.alloc (.cells #[.int .i64 kind, .string key] 30)).drewN 1) hb2).of_drewN; clear hb2))
  go_wp2_with fail
  go_ret
  exact ⟨rfl, _, _, T1.out, (Step.of_below HB1.out).trans S1.out⟩

theorem act_any (h : Two w b q c F G K K) (a : Act2) (hk : a.key.size ≤ 40) :
    Calls Tryz.prog 13 #[.pointer (some ⟨b, 0, none⟩), .pointer (some ⟨q, 0, none⟩), .agg #[.int .i64 a.kind, .string a.key]] w (ActPost b q c F G (next c K a) w) := by
  obtain ⟨kind, key⟩ := a
  unfold next
  dsimp only at hk ⊢
  split
  · rename_i e; subst e; exact act_1 h hk
  · split
    · rename_i e; subst e; exact act_2 h hk
    · split
      · rename_i e; subst e; exact act_3 h hk
      · split
        · rename_i e; subst e; exact act_4 h
        · exact act_5 h hk ‹_› ‹_› ‹_› ‹_›
end

end Go.Proofs.YtkeicfajlmhajaaGreat.Lw
