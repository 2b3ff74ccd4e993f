/- S3-FIFO's reference in memory: known, Access. -/
import Derived.Test.YtodiceafnkojiaaZa
import Derived.BigRegion
namespace Go.Proofs.Ytodiceafnkojiaa.Rf
open Go Go.RowKit Go.Proofs.Ytodiceafnkojiaa.K Go.Proofs.Ytodiceafnkojiaa.Sl Go.Proofs.Ytodiceafnkojiaa.Eg
open Go.Proofs.Ytodiceafnkojiaa.Li (more more_lt own_form' infoS)
open Go.Proofs.Ytodiceafnkojiaa.Rw (upd upd_same upd_other less less_same less_not cell_below cell_upd own_mono own_below)
open Go.Proofs.Ytodiceafnkojiaa.Sc (Cs fl RC)

section
variable {w0 w w' : World} {b c : Nat} {F : Nat → Prop} {v : Nat → Value} {Fs : Nat → Nat → Prop} {K : Ks} {X : X3}

/-- A cell of a slice's own memory is written. -/
theorem RM.poke (h : RM w0 b c F v Fs X w) {r : Nat} (hr : r < 3) {x' : Cs ⊕ List ByteArray} {p : Addr} (hg : Fs r p.block) {u : Value} (hs : Rx (w.setCell p u) (v r) (Fs r) x') : RM w0 b c F v Fs (Rw.upd X r x') (w.setCell p u) := by
  have hu : Upd (· = p.block) w (w.setCell p u) := (Upd.refl (· = p.block) w).setCell (p := p) (.inl rfl) u
  have hb : b ≠ p.block := fun e => h.nb r hr (e ▸ hg)
  refine ⟨block_other hb h.blk, fun q hq => ?_, h.sep, h.nb, fun q hq k hk => Nat.lt_of_lt_of_le (h.lt q hq k hk) hu.size, h.fb, h.flt, h.upd.setCell (h.grow r hr _ hg) u, h.grow⟩
  by_cases e : q = r
  · subst e; rw [upd_same]; exact hs
  · rw [upd_other _ _ e]
    exact (h.sl q hq).upd hu (fun k hk e2 => h.sep q r hq hr e k hk (e2 ▸ hg))

theorem without_lt {xs : List ByteArray} {key : ByteArray} : (without xs key).length < xs.length ↔ key ∈ xs := by
  unfold without
  constructor
  · intro h
    apply Classical.byContradiction
    intro hn
    have : xs.filter (fun k => decide (k ≠ key)) = xs := List.filter_eq_self.2 (fun a ha => decide_eq_true (by rintro rfl; exact hn ha))
    rw [this] at h
    omega
  · intro h
    exact List.length_filter_lt_length_iff_exists.2 ⟨key, h, by simp⟩

set_option maxHeartbeats 800000 in
theorem known_at (h : RM w0 b c F v Fs X w) {gs : List ByteArray} (hX : X 2 = .inr gs) (hg : gs.length ≤ 2000) (key : ByteArray) :
    Calls Try.prog 71 #[.pointer (some ⟨b, 0, none⟩), .string key] w (GPost w0 b c F (upd X 2 (.inr (without gs key))) (.bool (decide (key ∈ gs)))) := by
  obtain ⟨A, p, hs⟩ := h.rs
  have c2 : w.cell? ⟨b, 2, none⟩ = some (.slice (A 2) gs.length (p 2)) := by have := hs.c2; rw [hX] at this; exact this
  have s2 : Sl w (.slice (A 2) gs.length (p 2)) (Fs 2) gs := by have := hs.sl 2 (by omega); rw [hX] at this; exact this
  have H := Lib.hid (s2.rstr (by omega))
  have HM := Lib.hid h
  obtain ⟨i0, hi0, hz0, hz1, hz2⟩ := info_parts infoS
  have hdec : decide ((without gs key).length < gs.length) = decide (key ∈ gs) := by simp [without_lt]
  have HD := Lib.hid hdec
  obtain ⟨N, hN⟩ : ∃ N, N = gs.length := ⟨_, rfl⟩
  rw [← hN] at c2 hg HD
  have HN := Lib.hid hN
  clear h hs s2 hX hN hdec
  generalize A 2 = A2 at *
  generalize p 2 = p2 at *
  go_enter Try.func71, Try.ntmps71
  go_wp2_with fail
  go_loopg [5, 6] N (fun k v5 v6 wr => CutRel w gs key N k v5 v6 wr)
  case atStart => exact ⟨0, by omega, by omega, rfl, World.ownsRow_nil _ _ _ _, Below.refl _ _, fun _ => rfl⟩
  case round =>
    obtain ⟨j, hj, hgk, rfl, ho, hb, hnil⟩ := hrel
    obtain ⟨gA, gc, rfl⟩ := own_form' ho
    have HGK := Lib.hid hgk
    have HO := Lib.hid ho
    have HB := Lib.hid hb
    have HNIL := Lib.hid hnil
    have d2 := cell_below hb c2
    clear hgk ho hb hnil
    rcases Nat.eq_or_lt_of_le hj with rfl | hjl
    · have e : gs.take j = gs := by rw [HN.out, List.take_length]
      have h1 := HO.out
      rw [e] at h1 ⊢
      have HM2 := Lib.hid (HM.out.store (r := 2) (by omega) (xs := .inr (without gs key)) ((Upd.of_below (F := fun _ => False) HB.out (fun i h1 h2 => by omega)).mono (fun _ _ h => h.elim)) (Sl.of_own h1 (fun _ h => h)) (fun j hj => .inr (h1.lt j hj).1) (fun j hj => (h1.lt j hj).2))
      have fr := (HM.out.below HB.out).wr
      clear h1 e
      generalize (without gs key).length = L1 at *
      have hdd := HD.out
      generalize decide (key ∈ gs) = kn at *
      go_wp2_with fail
      go_ret
      exact ⟨rfl, _, _, HM2.out⟩
    · obtain ⟨s, hs⟩ : ∃ s, gs[j]? = some s := ⟨_, List.getElem?_eq_getElem (by rw [← HN.out]; exact hjl)⟩
      obtain ⟨g, o, rfl, hcell⟩ := (H.out.below HB.out).get j s hs
      have z0 : (0 : Int) ≤ (j : Int) := by omega
      have z1 : (j : Int) < (N : Int) := by omega
      have hw := without_take hs key
      have hle := without_le gs key j
      rw [← HN.out] at hle
      by_cases e : s = key
      · subst e
        rw [if_pos rfl] at hw
        have HW := Lib.hid hw
        clear hw hs
        go_wp2_with fail
        go_roundg (N - (j + 1))
        case measure => rw [HGK.out]; omega
        case rel => exact ⟨j + 1, hjl, rfl, rfl, by rw [HW.out]; exact HO.out, HB.out, by rw [HW.out]; exact HNIL.out⟩
      · have dS := ne_list e
        rw [if_neg e] at hw
        have HW := Lib.hid hw
        have HWS := Lib.hid HB.out.size
        clear hw hs
        generalize hP : without (gs.take j) key = P at *
        clear hP
        obtain ⟨q, hq⟩ : ∃ q, q = P.length := ⟨_, rfl⟩
        rw [← hq] at hle HO ⊢
        have HQ := Lib.hid hq
        clear hq
        go_wp2_with (at_builtin; refine wpList_append_lies _ rfl _ _ 22 rfl w.heap.size 9 i0 (.string ByteArray.empty) 1 16 Try.underlying22 hi0 hz0 hz1 hz2 rfl (by decide) (.slice gA q gc) q _ rfl (HO.out.alloc _) ⟨wr.heap.size, 0, none⟩ 1 1 [.string s] rfl rfl (World.news_of_block (cs := #[.string s]) (heap_alloc_new wr _)) (by simp [Value.oneCell']) (by omega) (by unfold maxLen; omega) (by omega) (by simp; have := HWS.out; omega) (wr.heap.size + 1) (by simp) ?_; intro f' cf' w3 hown hgr hat hlt3; have hb3 := HB.out.grown (Li.grown_al hgr) HWS.out (fun g hg => (HO.out.lt g hg).1); have HO3 := Lib.hid hown; have HB3 := Lib.hid hb3; clear hown hgr hat hlt3 hb3)
        go_roundg (N - (j + 1))
        case measure => rw [HGK.out]; omega
        case rel => exact ⟨j + 1, hjl, rfl, rfl, by rw [HW.out, List.length_append, ← HQ.out, List.map_append]; exact HO3.out, HB3.out, fun e => by rw [HW.out] at e; simp at e⟩

/-- An act's end, with texts that are their own. -/
def RGone (l : List ByteArray) (mk : Value → Value) (b : Nat) (F : Nat → Prop) (c : Nat) (K' : Ks) (w : World) (e : Ending) (w' : World) : Prop :=
  ∃ v F', e = .returned (mk v) ∧ Ref w' b F' c K' ∧ Step F w F' w' ∧ w'.ownsRow w.heap.size 9 1 v l.length (l.map .string) ∧ ∀ k, v.ownBlock = some k → ¬ F' k
def RAccPost (b : Nat) (F : Nat → Prop) (c : Nat) (K : Ks) (key : ByteArray) (w : World) (e : Ending) (w' : World) : Prop :=
  RGone (access c K key).2.1 (fun v => .tuple #[.bool (access c K key).1, v]) b F c (access c K key).2.2 w e w'
theorem RGone.mk {l : List ByteArray} {f : Value → Value} {K' : Ks} {w w' : World} {e : Ending} {v : Value} {F' : Nat → Prop} (he : e = .returned (f v)) (h1 : Ref w' b F' c K') (h2 : Step F w F' w') (h3 : w'.ownsRow w.heap.size 9 1 v l.length (l.map .string)) (h4 : ∀ k, v.ownBlock = some k → ¬ F' k) : RGone l f b F c K' w e w' :=
  ⟨v, F', he, h1, h2, h3, h4⟩

/-- The two rows of cells, written out. -/
structure RT (w : World) (b c : Nat) (Fs : Nat → Nat → Prop) (K : Ks) (A0 A1 : Option Addr) (p0 p1 : Nat) : Prop where
  c0 : w.cell? ⟨b, 0, none⟩ = some (.slice A0 (cl K 0).length p0)
  c1 : w.cell? ⟨b, 1, none⟩ = some (.slice A1 (cl K 1).length p1)
  c3 : w.cell? ⟨b, 3, none⟩ = some (.int .i64 (c : Int))
  s0 : Sc.Sc w (.slice A0 (cl K 0).length p0) (Fs 0) (cl K 0)
  s1 : Sc.Sc w (.slice A1 (cl K 1).length p1) (Fs 1) (cl K 1)
  l0 : (cl K 0).length ≤ p0
  l1 : (cl K 1).length ≤ p1
theorem RM.rt (h : RM w0 b c F v Fs (XK K) w) : ∃ A0 A1 p0 p1, RT w b c Fs K A0 A1 p0 p1 ∧ v 0 = .slice A0 (cl K 0).length p0 ∧ v 1 = .slice A1 (cl K 1).length p1 := by
  obtain ⟨A, p, hs⟩ := h.rs
  exact ⟨A 0, A 1, p 0, p 1, ⟨hs.c0, hs.c1, hs.c3, hs.sl 0 (by omega), hs.sl 1 (by omega), hs.p_ 0 (by omega), hs.p_ 1 (by omega)⟩, hs.v_ 0 (by omega), hs.v_ 1 (by omega)⟩

theorem min3 (n : Nat) (h : n ≤ 3) : n = 0 ∨ n = 1 ∨ n = 2 ∨ n = 3 := by omega

theorem sc_drew {A : Option Addr} {n p : Nat} {F1 : Nat → Prop} {xs : Cs} (h : Sc.Sc w (.slice A n p) F1 xs) (q : Nat) : RC (w.drewN q) A xs := h.rc

set_option maxHeartbeats 1600000 in
theorem racc_hit0 (h : Ref w b F c K) {key : ByteArray} (h0 : key ∈ K.r 0) (h1 : key ∉ K.r 1) : Calls Try.prog 49 #[.pointer (some ⟨b, 0, none⟩), .string key] w (RAccPost b F c K key w) := by
  have hi := h.inv
  have hh : has K key = true := by simp [has, h0]
  have e : access c K key = (true, [], hit K key) := by unfold access; rw [if_pos hh]; rfl
  have hk : key.size ≤ 40 := hi.small 0 (by omega) key h0
  have hi' := (access_facts hi hk).inv
  unfold RAccPost
  rw [e] at hi' ⊢
  obtain ⟨v, Fs, hm, -⟩ := h
  obtain ⟨A0, A1, p0, p1, ht, hv0, -⟩ := hm.rt
  have hl0 := lens hi 0 (by omega)
  have hl1 := lens hi 1 (by omega)
  obtain ⟨i, hgi, H0⟩ := at_yes (A := A0) ht.l0 hl0 h0
  have Q0 : Hid (∀ n, Calls Try.prog 70 #[.slice A0 (cl K 0).length p0, .string key] (w.drewN n) fun e w' => e = .returned (.int .i64 (i : Int)) ∧ w' = w.drewN n) := Lib.hid (fun n => (H0 (w.drewN n) (sc_drew ht.s0 n)).mono fun _ _ ⟨h1, h2⟩ => ⟨h1, h2.symm⟩)
  have Q1 : Hid (∀ n, Calls Try.prog 70 #[.slice A1 (cl K 1).length p1, .string key] (w.drewN n) fun e w' => e = .returned (.int .i64 (-1)) ∧ w' = w.drewN n) := Lib.hid (fun n => (at_no (A := A1) ht.l1 hl1 h1 (w.drewN n) (sc_drew ht.s1 n)).mono fun _ _ ⟨h1, h2⟩ => ⟨h1, h2.symm⟩)
  obtain ⟨g, o, hA0, kc0, kc1⟩ := ht.s0.rc i (key, K.n key) (cl_of hgi)
  dsimp only at kc0 kc1
  have hn3 := hi.cnt key
  have hil : i < (cl K 0).length := by rw [cl_length]; exact lt_of_getElem? hgi
  have HPK : Hid (∀ n, RM w b c F v Fs (XK (hit K key)) ((w.drewN n).setCell ⟨g, o + i * 2 + 1, none⟩ (.int .i64 ((min 3 (K.n key + 1) : Nat) : Int)))) := Lib.hid (fun n => by
    obtain ⟨g2, o2, e1, e2, e3, e4⟩ := Sc.Sc.recount (w := w.drewN n) (m := min 3 (K.n key + 1)) (ht.s0.below (below_drewN (Below.refl _ _) n)) (cl_of hgi)
    rw [hA0] at e1
    cases e1
    exact ((hm.drewN n).poke (r := 0) (by omega) (x' := .inl ((cl K 0).set i (key, min 3 (K.n key + 1)))) (p := ⟨g, o + i * 2 + 1, none⟩) e2 (by rw [hv0]; rw [hA0] at e4 ⊢; exact e4)).same (xk_hit hi (by omega) hgi))
  have hfr : w.frozen? ⟨g, o + i * 2 + 1, none⟩ = false := by
    obtain ⟨g2, o2, e1, e2, e3, e4⟩ := Sc.Sc.recount (m := 0) ht.s0 (cl_of hgi)
    rw [hA0] at e1
    cases e1
    exact e3
  have c0 := ht.c0
  have c1 := ht.c1
  have HI := Lib.hid hi'
  have l0 := ht.l0
  rw [hA0] at c0 Q0
  generalize (cl K 0).length = N at *
  generalize (cl K 1).length = N1 at *
  have z0 : (0 : Int) ≤ (i : Int) := by omega
  have z1 : (i : Int) < (N : Int) := by omega
  clear hm ht hv0 hi hi' hh e H0 hA0 h0 h1 hgi hl0 hl1
  generalize hit K key = K' at *
  generalize K.n key = n at *
  rcases min3 n hn3 with rfl | rfl | rfl | rfl
  all_goals
    go_enter Try.func49, Try.ntmps49
    go_wp2_with fail
    go_quiet (first | (go_at_call 70; with_reducible exact Calls.quiet_of_same (Q0.out _)) | (go_at_call 70; with_reducible exact Calls.quiet_of_same (Q1.out _)))
    go_wp2_with fail
    go_region
    go_wp2_with fail
    go_ret2
    obtain ⟨r1, r2⟩ := (HPK.out (nq + 1)).done HI.out
    exact RGone.mk (v := .slice none 0 0) rfl r1 r2 (World.ownsRow_nil _ _ _ _) (fun k hk => by simp [Value.ownBlock] at hk)

set_option maxHeartbeats 1600000 in
theorem racc_hit1 (h : Ref w b F c K) {key : ByteArray} (h0 : key ∉ K.r 0) (h1 : key ∈ K.r 1) : Calls Try.prog 49 #[.pointer (some ⟨b, 0, none⟩), .string key] w (RAccPost b F c K key w) := by
  have hi := h.inv
  have hh : has K key = true := by simp [has, h1]
  have e : access c K key = (true, [], hit K key) := by unfold access; rw [if_pos hh]; rfl
  have hk : key.size ≤ 40 := hi.small 1 (by omega) key h1
  have hi' := (access_facts hi hk).inv
  unfold RAccPost
  rw [e] at hi' ⊢
  obtain ⟨v, Fs, hm, -⟩ := h
  obtain ⟨A0, A1, p0, p1, ht, -, hv1⟩ := hm.rt
  have hl0 := lens hi 0 (by omega)
  have hl1 := lens hi 1 (by omega)
  obtain ⟨i, hgi, H1⟩ := at_yes (A := A1) ht.l1 hl1 h1
  have Q1 : Hid (∀ n, Calls Try.prog 70 #[.slice A1 (cl K 1).length p1, .string key] (w.drewN n) fun e w' => e = .returned (.int .i64 (i : Int)) ∧ w' = w.drewN n) := Lib.hid (fun n => (H1 (w.drewN n) (sc_drew ht.s1 n)).mono fun _ _ ⟨h1, h2⟩ => ⟨h1, h2.symm⟩)
  have Q0 : Hid (∀ n, Calls Try.prog 70 #[.slice A0 (cl K 0).length p0, .string key] (w.drewN n) fun e w' => e = .returned (.int .i64 (-1)) ∧ w' = w.drewN n) := Lib.hid (fun n => (at_no (A := A0) ht.l0 hl0 h0 (w.drewN n) (sc_drew ht.s0 n)).mono fun _ _ ⟨h1, h2⟩ => ⟨h1, h2.symm⟩)
  obtain ⟨g, o, hA1, kc0, kc1⟩ := ht.s1.rc i (key, K.n key) (cl_of hgi)
  dsimp only at kc0 kc1
  have hn3 := hi.cnt key
  have hil : i < (cl K 1).length := by rw [cl_length]; exact lt_of_getElem? hgi
  have HPK : Hid (∀ n, RM w b c F v Fs (XK (hit K key)) ((w.drewN n).setCell ⟨g, o + i * 2 + 1, none⟩ (.int .i64 ((min 3 (K.n key + 1) : Nat) : Int)))) := Lib.hid (fun n => by
    obtain ⟨g2, o2, e1, e2, e3, e4⟩ := Sc.Sc.recount (w := w.drewN n) (m := min 3 (K.n key + 1)) (ht.s1.below (below_drewN (Below.refl _ _) n)) (cl_of hgi)
    rw [hA1] at e1
    cases e1
    exact ((hm.drewN n).poke (r := 1) (by omega) (x' := .inl ((cl K 1).set i (key, min 3 (K.n key + 1)))) (p := ⟨g, o + i * 2 + 1, none⟩) e2 (by rw [hv1]; rw [hA1] at e4 ⊢; exact e4)).same (xk_hit hi (by omega) hgi))
  have hfr : w.frozen? ⟨g, o + i * 2 + 1, none⟩ = false := by
    obtain ⟨g2, o2, e1, e2, e3, e4⟩ := Sc.Sc.recount (m := 0) ht.s1 (cl_of hgi)
    rw [hA1] at e1
    cases e1
    exact e3
  have c0 := ht.c0
  have c1 := ht.c1
  have HI := Lib.hid hi'
  have l1 := ht.l1
  rw [hA1] at c1 Q1
  generalize (cl K 0).length = N0 at *
  generalize (cl K 1).length = N at *
  have z0 : (0 : Int) ≤ (i : Int) := by omega
  have z1 : (i : Int) < (N : Int) := by omega
  clear hm ht hv1 hi hi' hh e H1 hA1 h0 h1 hgi hl0 hl1
  generalize hit K key = K' at *
  generalize K.n key = n at *
  rcases min3 n hn3 with rfl | rfl | rfl | rfl
  all_goals
    go_enter Try.func49, Try.ntmps49
    go_wp2_with fail
    go_quiet (first | (go_at_call 70; with_reducible exact Calls.quiet_of_same (Q0.out _)) | (go_at_call 70; with_reducible exact Calls.quiet_of_same (Q1.out _)))
    go_wp2_with fail
    go_region
    go_wp2_with fail
    go_ret2
    obtain ⟨r1, r2⟩ := (HPK.out (nq + 1)).done HI.out
    exact RGone.mk (v := .slice none 0 0) rfl r1 r2 (World.ownsRow_nil _ _ _ _) (fun k hk => by simp [Value.ownBlock] at hk)

/-- The loop that makes room. -/
def RARel (w : World) (b c : Nat) (F : Nat → Prop) (K : Ks) (kk : Nat) (v8 : Value) (wr : World) : Prop :=
  ∃ K1 F1, Ref wr b F1 c K1 ∧ Step F w F1 wr ∧ ((kk = 1 ∧ v8 = .slice none 0 0 ∧ K1 = K ∧ len K = c) ∨
    (kk = 0 ∧ K1 = (recl c K).2 ∧ len K1 < c ∧ wr.ownsRow w.heap.size 9 1 v8 (recl c K).1.length ((recl c K).1.map .string) ∧ ∀ k, v8.ownBlock = some k → ¬ F1 k))

theorem rarel_start (h : Ref w b F c K) {w1 : World} (hb : Below w.heap.size w w1) : ∃ kk, RARel w b c F K kk (.slice none 0 0) w1 := by
  by_cases hl : len K < c
  · refine ⟨0, K, F, h.below hb, Step.of_below hb, .inr ⟨rfl, ?_, hl, ?_, fun k hk => by simp [Value.ownBlock] at hk⟩⟩
    · unfold recl; rw [if_pos hl]
    · unfold recl; rw [if_pos hl]; exact World.ownsRow_nil _ _ _ _
  · exact ⟨1, K, F, h.below hb, Step.of_below hb, .inl ⟨rfl, rfl, rfl, by have := h.inv.room; omega⟩⟩

/-- The end of an Access that made room and lays the key. -/
theorem rgone_end {F1 : Nat → Prop} {K2 : Ks} {X2 : X3} {l : List ByteArray} {u : Value} {w1 w2 : World}
    (hs : Step F w F1 w1) (ho : w1.ownsRow w.heap.size 9 1 u l.length (l.map .string)) (hn : ∀ k, u.ownBlock = some k → ¬ F1 k)
    (hm : RM w1 b c F1 v Fs X2 w2) (hX : ∀ r, r < 3 → X2 r = XK K2 r) (hi : Inv c K2) (f : Value → Value) : RGone l f b F c K2 w (.returned (f u)) w2 := by
  obtain ⟨h1, h2⟩ := (hm.same hX).done hi
  refine RGone.mk (v := u) rfl h1 (hs.trans h2) (own_upd ho h2.upd hn) ?_
  rintro k hk (hf | hf)
  · exact hn k hk hf
  · have := (ho.lt k hk).2
    have := hf.1
    omega

set_option maxHeartbeats 3200000 in
theorem racc_miss (h : Ref w b F c K) {key : ByteArray} (hk : key.size ≤ 40) (h0 : key ∉ K.r 0) (h1 : key ∉ K.r 1) : Calls Try.prog 49 #[.pointer (some ⟨b, 0, none⟩), .string key] w (RAccPost b F c K key w) := by
  have hh : has K key = false := by simp [has, h0, h1]
  have hi' := (access_facts h.inv hk).inv
  have e : access c K key = (false, (recl c K).1, comes (recl c K).2 (if key ∈ (recl c K).2.r 2 then 1 else 0) key 0) := by unfold access; rw [if_neg (by rw [hh]; simp)]
  unfold RAccPost
  rw [e] at hi' ⊢
  have hno : key ∉ res K := by rw [mem_res]; rintro (a | a); exact h0 a; exact h1 a
  have hno1 := recl_no h.inv hno
  obtain ⟨l, hL⟩ : ∃ l, (recl c K).1 = l := ⟨_, rfl⟩
  obtain ⟨K2, hK2⟩ : ∃ L, (recl c K).2 = L := ⟨_, rfl⟩
  rw [hL, hK2]
  rw [hK2] at hi' hno1
  obtain ⟨q, hq⟩ : ∃ q, (if key ∈ K2.r 2 then 1 else 0) = q := ⟨_, rfl⟩
  rw [hq] at hi' ⊢
  have HQ := Lib.hid hq
  clear hq
  have HLL := Lib.hid hL
  have HK2 := Lib.hid hK2
  clear hL hK2
  have HNO := Lib.hid hno1
  have HE := Lib.hid h
  have HI := Lib.hid hi'
  have hc2 := h.inv.c2
  have hc1 := h.inv.c1
  have hinv := h.inv
  obtain ⟨v, Fs, hm, -⟩ := h
  obtain ⟨A0, A1, p0, p1, ht, -, -⟩ := hm.rt
  have hl0 := lens hinv 0 (by omega)
  have hl1 := lens hinv 1 (by omega)
  have Q0 : Hid (∀ n, Calls Try.prog 70 #[.slice A0 (cl K 0).length p0, .string key] (w.drewN n) fun e w' => e = .returned (.int .i64 (-1)) ∧ w' = w.drewN n) := Lib.hid (fun n => (at_no (A := A0) ht.l0 hl0 h0 (w.drewN n) (sc_drew ht.s0 n)).mono fun _ _ ⟨h1, h2⟩ => ⟨h1, h2.symm⟩)
  have Q1 : Hid (∀ n, Calls Try.prog 70 #[.slice A1 (cl K 1).length p1, .string key] (w.drewN n) fun e w' => e = .returned (.int .i64 (-1)) ∧ w' = w.drewN n) := Lib.hid (fun n => (at_no (A := A1) ht.l1 hl1 h1 (w.drewN n) (sc_drew ht.s1 n)).mono fun _ _ ⟨h1, h2⟩ => ⟨h1, h2.symm⟩)
  have c0 := ht.c0
  have c1 := ht.c1
  obtain ⟨i0, hi0, hz0, hz1, hz2⟩ := info_parts infoS
  clear hi' e hh hno hno1 hm ht hinv hl0 hl1 h0 h1
  generalize (cl K 0).length = N0 at *
  generalize (cl K 1).length = N1 at *
  go_enter Try.func49, Try.ntmps49
  go_wp2_with fail
  go_quiet (first | (go_at_call 70; with_reducible exact Calls.quiet_of_same (Q0.out _)) | (go_at_call 70; with_reducible exact Calls.quiet_of_same (Q1.out _)))
  obtain ⟨kk, hkk⟩ := rarel_start HE.out (below_drewN (Below.refl _ w) nq)
  have HKK := Lib.hid hkk
  clear hkk c0 c1
  go_wp2_with fail
  go_loopg [8] kk (fun kk v8 wr => RARel w b c F K kk v8 wr)
  case atStart => exact HKK.out
  case round =>
    clear HKK
    obtain ⟨K1, F1, he, hs, hq⟩ := hrel
    have L1 := Lib.hid (ref_len (he.drewN 1))
    have HE1 := Lib.hid he
    have HS1 := Lib.hid hs
    have hl1 := he.inv.len1
    have hcell : wr.cell? ⟨b, 3, none⟩ = some (.int .i64 (c : Int)) := by
      obtain ⟨v, Fs, hm, -⟩ := he
      exact hm.cells.2.2.2
    clear he hs
    rcases hq with ⟨rfl, rfl, rfl, hl⟩ | ⟨rfl, hK1, hl, ho, hn⟩
    · have hrc : recl c K1 = ([(evict c K1).1], (evict c K1).2.2) := by unfold recl; rw [if_neg (by omega)]
      have HRC := Lib.hid hrc
      have hev : len (evict c K1).2.2 < c := by
        obtain ⟨k, K', e1, -, -, e2, -⟩ := evict_facts HE1.out.inv (by omega)
        rw [e1]
        show len K' < c
        omega
      have HEV := Lib.hid hev
      rw [hl] at L1
      have dL : decide (c ≤ c) = true := by simp
      have EV := Lib.hid (fun F1 w1 (h : Ref w1 b F1 c K1) => ref_evict h)
      clear hrc hev hl hl1
      go_wp2_with fail
      go_region_held3 (fun w' => w'.cell? ⟨b, 3, none⟩ = some (.int .i64 (c : Int)))
        (first | (go_keep; done) | assumption)
        (first | (go_at_call 36; refine L1.out.mono ?_; rintro e w2 ⟨rfl, hb2⟩; have q2 := cell_below (w := wr.drew) hb2 hcell; have HB2 := Lib.hid hb2; clear hb2))
      go_wp2_with fail
      have hb : Below wr.heap.size wr w2 := (below_drewN (Below.refl _ _) 1).trans HB2.out
      have HB := Lib.hid hb
      have h1 := HE1.out.below hb
      clear hb
      refine (EV.out _ w2 h1).mono ?_
      rintro e w3 ⟨rfl, F3, h3, hs3⟩
      have H3 := Lib.hid h3
      have HS3 := Lib.hid (HS1.out.trans ((Step.of_below HB.out).trans hs3))
      have HZ3 : Hid (w.heap.size ≤ w3.heap.size) := Lib.hid (HS3.out.upd.size)
      clear h1 h3 hs3
      generalize (evict c K1).1 = k at *
      generalize (evict c K1).2.1 = ok at *
      generalize (evict c K1).2.2 = K3 at *
      go_wp2_with (at_builtin; refine wpList_append_lies _ rfl _ _ 22 rfl w.heap.size 9 i0 (.string ByteArray.empty) 1 16 Try.underlying22 hi0 hz0 hz1 hz2 rfl (by decide) (.slice none 0 0) 0 [] rfl (World.ownsRow_nil _ _ _ _) ⟨w3.heap.size, 0, none⟩ 1 1 [.string k] rfl rfl (World.news_of_block (cs := #[.string k]) (heap_alloc_new w3 _)) (by simp [Value.oneCell']) (by omega) (by unfold maxLen; omega) (by omega) (by simp; have := HZ3.out; omega) (w3.heap.size + 1) (by simp) ?_; intro f' cf' w4 hown hgr hat hlt4; have hu4 : Upd (fun k => (Value.slice none 0 0).ownBlock = some k) w3 w4 := ((Upd.refl _ w3).alloc _).trans (Upd.of_grown hgr); have HU4 := Lib.hid hu4; have HO4 := Lib.hid hown; have HA4 : Hid (f' = w3.heap.size + 1) := Lib.hid (by rcases hat with h | h; simp [Value.ownBlock] at h; exact h); clear hu4 hown hgr hat hlt4)
      go_roundg 0
      case measure => omega
      case rel =>
        have hb4 : Below w3.heap.size w3 w4 := HU4.out.below (Nat.le_refl _) (fun i h => by simp [Value.ownBlock] at h)
        refine ⟨K3, F3, H3.out.below hb4, HS3.out.trans (Step.of_below hb4), .inr ⟨rfl, by rw [HRC.out], HEV.out, ?_, ?_⟩⟩
        · rw [HRC.out]; exact HO4.out
        · intro j hj hf
          have h1 : f' = j := by simpa [Value.ownBlock] using hj
          have h2 := H3.out.lt j hf
          have h3 := HA4.out
          omega
    · rw [HK2.out] at hK1
      subst hK1
      rw [HLL.out] at ho
      obtain ⟨gA, gc, rfl⟩ := own_form' ho
      have HO := Lib.hid ho
      have HN := Lib.hid hn
      obtain ⟨n, hn⟩ : ∃ n, n = len K1 := ⟨_, rfl⟩
      rw [← hn] at L1 hl
      have dL : decide (c ≤ n) = false := by simp; omega
      clear ho hn
      go_wp2_with fail
      go_region_held3 (fun w' => w'.cell? ⟨b, 3, none⟩ = some (.int .i64 (c : Int)))
        (first | (go_keep; done) | assumption)
        (first | (go_at_call 36; refine L1.out.mono ?_; rintro e w2 ⟨rfl, hb2⟩; have q2 := cell_below (w := wr.drew) hb2 hcell; have HB2 := Lib.hid hb2; clear hb2))
      have hb : Below wr.heap.size wr w2 := (below_drewN (Below.refl _ _) 1).trans HB2.out
      have HS2 := Lib.hid (HS1.out.trans (Step.of_below (F := F1) hb))
      have HO2 := Lib.hid (own_below HO.out hb)
      have he2 := HE1.out.below hb
      have hinv := he2.inv
      obtain ⟨v, Fs, hm, -⟩ := he2
      have KN := Lib.hid (known_at hm (gs := K1.r 2) rfl (by have := hinv.len1; omega) key)
      have HLE0 : Hid ((cl K1 0).length ≤ 1000000) := Lib.hid (by rw [cl_length]; have := lens hinv 0 (by omega); omega)
      have HLE1 : Hid ((cl K1 1).length ≤ 1000000) := Lib.hid (by rw [cl_length]; have := lens hinv 1 (by omega); omega)
      have HXC := Lib.hid (fun q (hq : q < 2) => xk_comes (K := K1) hq HNO.out)
      clear hb hm hcell hinv
      by_cases hg : key ∈ K1.r 2
      · have hq1 : q = 1 := by rw [← HQ.out, if_pos hg]
        subst hq1
        have dg : decide (key ∈ K1.r 2) = true := by simpa using hg
        rw [dg] at KN
        go_wp2_with fail
        refine KN.out.mono ?_
        rintro e w3 ⟨rfl, v3, Fs3, hm3⟩
        have HM3 := Lib.hid hm3
        obtain ⟨A, p, hs⟩ := hm3.rs
        have d1 : w3.cell? ⟨b, 1, none⟩ = some (.slice (A 1) (cl K1 1).length (p 1)) := by have := hs.c1; rw [upd_other _ _ (by omega)] at this; exact this
        have SL : Hid (Sc.Sc w3 (.slice (A 1) (cl K1 1).length (p 1)) (Fs3 1) (cl K1 1)) := Lib.hid (by have := hs.sl 1 (by omega); rw [upd_other _ _ (by omega)] at this; exact this)
        have LT := Lib.hid (hm3.lt 1 (by omega))
        have NB := Lib.hid (hm3.nb 1 (by omega))
        clear hm3 hs
        generalize A 1 = A1' at *
        generalize p 1 = p1' at *
        go_wp2_with (at_builtin; refine Sc.wpList_push rfl _ _ rfl SL.out HLE1.out LT.out key 0 0 rfl 1 _ rfl rfl rfl ?_; intro v' w5 hp; obtain ⟨A'', c'', hv, -⟩ := hp.sl.form; generalize (cl K1 1 ++ [(key, 0)]).length = L5 at hv; subst hv; have HP := Lib.hid hp; have HB5 := Lib.hid (hp.upd.get HM3.out.blk NB.out); have q1 := cell_of HB5.out 1; have qf := free_of HB5.out; clear hp)
        go_ret2
        exact rgone_end (l := l) HS2.out HO2.out HN.out (HM3.out.pushed (r := 1) (by omega) HP.out) (HXC.out 1 (by omega)) HI.out (fun v => .tuple #[.bool false, v])
      · have hq1 : q = 0 := by rw [← HQ.out, if_neg hg]
        subst hq1
        have dg : decide (key ∈ K1.r 2) = false := by simpa using hg
        rw [dg] at KN
        go_wp2_with fail
        refine KN.out.mono ?_
        rintro e w3 ⟨rfl, v3, Fs3, hm3⟩
        have HM3 := Lib.hid hm3
        obtain ⟨A, p, hs⟩ := hm3.rs
        have d1 : w3.cell? ⟨b, 0, none⟩ = some (.slice (A 0) (cl K1 0).length (p 0)) := by have := hs.c0; rw [upd_other _ _ (by omega)] at this; exact this
        have SL : Hid (Sc.Sc w3 (.slice (A 0) (cl K1 0).length (p 0)) (Fs3 0) (cl K1 0)) := Lib.hid (by have := hs.sl 0 (by omega); rw [upd_other _ _ (by omega)] at this; exact this)
        have LT := Lib.hid (hm3.lt 0 (by omega))
        have NB := Lib.hid (hm3.nb 0 (by omega))
        clear hm3 hs
        generalize A 0 = A1' at *
        generalize p 0 = p1' at *
        go_wp2_with (at_builtin; refine Sc.wpList_push rfl _ _ rfl SL.out HLE0.out LT.out key 0 0 rfl 1 _ rfl rfl rfl ?_; intro v' w5 hp; obtain ⟨A'', c'', hv, -⟩ := hp.sl.form; generalize (cl K1 0 ++ [(key, 0)]).length = L5 at hv; subst hv; have HP := Lib.hid hp; have HB5 := Lib.hid (hp.upd.get HM3.out.blk NB.out); have q1 := cell_of HB5.out 0; have qf := free_of HB5.out; clear hp)
        go_ret2
        exact rgone_end (l := l) HS2.out HO2.out HN.out (HM3.out.pushed (r := 0) (by omega) HP.out) (HXC.out 0 (by omega)) HI.out (fun v => .tuple #[.bool false, v])

theorem ref_access (h : Ref w b F c K) {key : ByteArray} (hk : key.size ≤ 40) : Calls Try.prog 49 #[.pointer (some ⟨b, 0, none⟩), .string key] w (RAccPost b F c K key w) := by
  have hi := h.inv
  by_cases h0 : key ∈ K.r 0
  · exact racc_hit0 h h0 (fun a => by have := hi.once 0 1 (by omega) (by omega) key h0 a; omega)
  · by_cases h1 : key ∈ K.r 1
    · exact racc_hit1 h h0 h1
    · exact racc_miss h hk h0 h1
end

end Go.Proofs.Ytodiceafnkojiaa.Rf
