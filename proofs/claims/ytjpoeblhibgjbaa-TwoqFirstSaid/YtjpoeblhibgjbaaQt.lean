/- 2Q's reference in memory: reclaim, Access. -/
import Derived.Test.YtjpoeblhibgjbaaQs
namespace Go.Proofs.Ytjpoeblhibgjbaa.Rf
open Go Go.RowKit Go.Proofs.Ytjpoeblhibgjbaa.K Go.Proofs.Ytjpoeblhibgjbaa.Sl Go.Proofs.Ytjpoeblhibgjbaa.Eg
open Go.Proofs.Ytjpoeblhibgjbaa.Li (more more_lt own_form')
open Go.Proofs.Ytjpoeblhibgjbaa.Rw (upd upd_same upd_other less less_same cell_below cell_upd own_mono own_below)

section
variable {w0 w w' : World} {b c : Nat} {F : Nat → Prop} {v : Nat → Value} {Fs : Nat → Nat → Prop} {K : Ks}

/-- An act's end, with texts that are their own. -/
def RGone (l : List ByteArray) (mk : Value → Value) (b : Nat) (F : Nat → Prop) (c : Nat) (K' : Ks) (w : World) (e : Ending) (w' : World) : Prop :=
  ∃ v F', e = .returned (mk v) ∧ Ref w' b F' c K' ∧ Step F w F' w' ∧ w'.ownsRow w.heap.size 9 1 v l.length (l.map .string) ∧ ∀ k, v.ownBlock = some k → ¬ F' k

theorem ref_recl (h : Ref w b F c K) : Calls Try.prog 67 #[.pointer (some ⟨b, 0, none⟩)] w (RGone (recl c K).1 id b F c (recl c K).2 w) := by
  have L := Lib.hid (ref_len (h.drewN 1))
  have hm1 := h.inv.room
  have c3 : w.cell? ⟨b, 3, none⟩ = some (.int .i64 (c : Int)) := by obtain ⟨v, Fs, hm, -⟩ := h; exact hm.cells.2.2.2
  have HE := Lib.hid h
  have EV := Lib.hid (fun w1 (h : Ref w1 b F c K) => ref_evict h)
  have hl1 := h.inv.len1
  have hc := h.inv.c2
  clear h
  unfold recl
  by_cases hl : len K < c
  · rw [if_pos hl]
    have dL : decide (len K < c) = true := by simpa using hl
    generalize len K = n at *
    go_enter Try.func67, Try.ntmps67
    go_wp2_with fail
    go_region_held3 (fun w' => w'.cell? ⟨b, 3, none⟩ = some (.int .i64 (c : Int)))
      (first | (go_keep; done) | assumption)
      (first | (go_at_call 36; refine L.out.mono ?_; rintro e w1 ⟨rfl, hb1⟩; have q2 := cell_below (w := w.drew) hb1 c3; have HB1 := Lib.hid hb1; clear hb1))
    go_wp2_with fail
    go_ret
    have hb : Below w.heap.size w w1 := (below_drewN (Below.refl _ _) 1).trans HB1.out
    exact ⟨.slice none 0 0, F, rfl, HE.out.below hb, Step.of_below hb, World.ownsRow_nil _ _ _ _, fun k hk => by simp [Value.ownBlock] at hk⟩
  · rw [if_neg hl]
    have dL : decide (len K < c) = false := by simpa using hl
    generalize len K = n at *
    go_enter Try.func67, Try.ntmps67
    go_wp2_with fail
    go_region_held3 (fun w' => w'.cell? ⟨b, 3, none⟩ = some (.int .i64 (c : Int)))
      (first | (go_keep; done) | assumption)
      (first | (go_at_call 36; refine L.out.mono ?_; rintro e w1 ⟨rfl, hb1⟩; have q2 := cell_below (w := w.drew) hb1 c3; have HB1 := Lib.hid hb1; clear hb1))
    go_wp2_with fail
    have hb : Below w.heap.size w w1 := (below_drewN (Below.refl _ _) 1).trans HB1.out
    have HB := Lib.hid hb
    have h1 := HE.out.below hb
    clear hb
    refine (EV.out w1 h1).mono ?_
    rintro e w2 ⟨rfl, F2, h2, hs2⟩
    have H2 := Lib.hid h2
    have HS2 := Lib.hid hs2
    clear h1 h2 hs2
    generalize (evict c K).1 = k at *
    generalize (evict c K).2.1 = ok at *
    go_wp2_with fail
    go_ret
    have hb2 : Below w2.heap.size w2 (w2.alloc (.cells #[.string k] 9)) := (Below.refl _ _).alloc (Nat.le_refl _) _
    have hs := (Step.of_below (F := F) HB.out).trans (HS2.out.trans (Step.of_below (F := F2) hb2))
    refine ⟨.slice (some ⟨w2.heap.size, 0, none⟩) 1 1, F2, rfl, H2.out.below hb2, hs, own_mono (World.ownsRow_lit w2 #[.string k] 1 (Nat.le_refl _) (by unfold maxLen; omega) rfl) ?_, ?_⟩
    · exact Nat.le_trans HB.out.size HS2.out.upd.size
    · intro j hj hf
      have : w2.heap.size = j := by simpa [Value.ownBlock] using hj
      have := H2.out.lt j hf
      omega

def RAccPost (b : Nat) (F : Nat → Prop) (c : Nat) (K : Ks) (key : ByteArray) (w : World) (e : Ending) (w' : World) : Prop :=
  RGone (access c K key).2.1 (fun v => .tuple #[.bool (access c K key).1, v]) b F c (access c K key).2.2 w e w'

theorem RGone.mk {l : List ByteArray} {f : Value → Value} {K' : Ks} {w w' : World} {e : Ending} {v : Value} {F' : Nat → Prop} (he : e = .returned (f v)) (h1 : Ref w' b F' c K') (h2 : Step F w F' w') (h3 : w'.ownsRow w.heap.size 9 1 v l.length (l.map .string)) (h4 : ∀ k, v.ownBlock = some k → ¬ F' k) : RGone l f b F c K' w e w' :=
  ⟨v, F', he, h1, h2, h3, h4⟩

/-- A row was cut, got one more key and was stored. -/
theorem RM.cutpush {v1 v2 : Value} {w1 w2 : World} {n : Nat} (h : RM w0 b c F v Fs K w) {r : Nat} (hr : r < 3) {key : ByteArray} (hb : Below w.heap.size w w1) (ho : w1.ownsRow w.heap.size 9 1 v1 n ((without (K r) key).map .string))
    (hp : Pushed w1 (fun j => v1.ownBlock = some j) (without (K r) key) key v2 w2) :
    RM w0 b c F (Rw.upd v r v2) (Rw.upd Fs r (fun j => v2.ownBlock = some j)) (Rw.upd K r (without (K r) key ++ [key])) (w2.setCell ⟨b, r, none⟩ v2) := by
  have h1 : ∀ j, v1.ownBlock = some j → w.heap.size ≤ j := fun j hj => (ho.lt j hj).1
  refine h.store hr ?_ hp.sl (fun j hj => ?_) hp.lt
  · exact ((Upd.of_below (F := fun _ => False) hb (fun i h1 h2 => by omega)).mono (fun _ _ h => h.elim)).then hp.upd (fun i hi hj => by have := h1 i hj; omega)
  · rcases hp.new j hj with h2 | h2
    · exact .inr (h1 j h2)
    · exact .inr (Nat.le_trans hb.size h2)

/-- The end of an Access that made room and pushes the key. -/
theorem rgone_end {F1 : Nat → Prop} {K1 K2 : Ks} {l : List ByteArray} {u : Value} {w1 w2 : World}
    (hs : Step F w F1 w1) (ho : w1.ownsRow w.heap.size 9 1 u l.length (l.map .string)) (hn : ∀ k, u.ownBlock = some k → ¬ F1 k)
    (hm : RM w1 b c F1 v Fs K1 w2) (hK : ∀ r, r < 3 → K1 r = K2 r) (hi : Inv c K2) (f : Value → Value) : RGone l f b F c K2 w (.returned (f u)) w2 := by
  obtain ⟨h1, h2⟩ := (hm.same hK).done hi
  refine RGone.mk (v := u) rfl h1 (hs.trans h2) (own_upd ho h2.upd hn) ?_
  rintro k hk (hf | hf)
  · exact hn k hk hf
  · have := (ho.lt k hk).2
    have := hf.1
    omega

theorem trim_sub {c : Nat} {P : Ks} {q : Nat} {x : ByteArray} (h : x ∈ trim c P q) : x ∈ P q := by
  unfold trim at h
  split at h
  · exact (mem_less.1 h).1
  · exact h
/-- Who is nowhere is nowhere behind it, too. -/
theorem recl_no (hi : Inv c K) {key : ByteArray} (hno : ∀ q, q < 3 → key ∉ K q) : ∀ q, q < 3 → key ∉ (recl c K).2 q := by
  intro q hq
  unfold recl
  split
  · exact hno q hq
  · show key ∉ (evict c K).2.2 q
    rcases evict_cases hi with ⟨-, he⟩ | ⟨-, k, t, -, h2, he, -⟩ | ⟨-, -, k, t, h2, he, -⟩
    · rw [he]; exact hno q hq
    · rw [he]; exact fun hh => hno q hq (mem_less.1 hh).1
    · rw [he]
      intro hh
      rcases mem_push.1 (trim_sub hh) with ⟨h3, -⟩ | ⟨-, h3⟩
      · exact hno q hq h3
      · exact hno 0 (by omega) (by rw [h2, h3]; exact List.mem_cons_self ..)

theorem upd_push_new {r : Nat} {key : ByteArray} (hno : ∀ q, q < 3 → key ∉ K q) : ∀ q, q < 3 → upd K r (K r ++ [key]) q = push K r key q := by
  intro q hq
  by_cases e : q = r
  · subst e; rw [upd_same, push_at, less_same (hno q hq)]
  · rw [upd_other _ _ e, push_ne _ _ e, less_same (hno q hq)]
theorem upd_push_cut (h : Sep K) {r : Nat} (hr : r < 3) {key : ByteArray} (hk : key ∈ K r) : ∀ q, q < 3 → upd K r (without (K r) key ++ [key]) q = push K r key q := by
  intro q hq
  by_cases e : q = r
  · subst e; rw [upd_same, push_at]; rfl
  · rw [upd_other _ _ e, push_ne _ _ e, h.apart hr hk hq e]

set_option maxHeartbeats 1600000 in
theorem racc_am (h : Ref w b F c K) {key : ByteArray} (hk : key.size ≤ 40) (h2 : key ∈ K 2) : Calls Try.prog 47 #[.pointer (some ⟨b, 0, none⟩), .string key] w (RAccPost b F c K key w) := by
  have hi' := (access_facts h.inv hk).inv
  have hi := h.inv
  have e : access c K key = (true, [], push K 2 key) := by unfold access; rw [if_pos h2]
  unfold RAccPost
  rw [e] at hi' ⊢
  obtain ⟨v, Fs, hm, -⟩ := h
  obtain ⟨A, p, hs⟩ := hm.rs
  have c2 := hs.c2
  have HQ := Lib.hid (qhas_yes hi hs (r := 2) (by omega) h2)
  have CUT := Lib.hid (rcut hi hs (r := 2) (by omega) key)
  have HM := Lib.hid hm
  have HU := Lib.hid (upd_push_cut hi.sep (r := 2) (by omega) h2)
  have HI := Lib.hid hi'
  have LN : Hid ((without (K 2) key).length ≤ 1000000) := Lib.hid (by have := lens (hi.less key) 2 (by omega); exact Nat.le_trans this (by omega))
  clear hm hi hi' e hs h2
  go_enter Try.func47, Try.ntmps47
  go_wp2_with fail
  refine HQ.out.mono ?_
  rintro e w1 ⟨⟨i, rfl, -⟩, rfl⟩
  go_wp2_with fail
  refine CUT.out.mono ?_
  rintro e w3 ⟨v', rfl, ho, hb3, -⟩
  obtain ⟨A', c', rfl⟩ := own_form' ho
  have HO := Lib.hid ho
  have HB3 := Lib.hid hb3
  have SL := Lib.hid (Sl.of_own ho (fun _ h => h))
  have LT := Lib.hid (fun j hj => (ho.lt j hj).2)
  have HX := Lib.hid (hb3.block b (lt_of_block HM.out.blk))
  have HNB : Hid (¬ (fun j => (Value.slice A' (without (K 2) key).length c').ownBlock = some j) b) := Lib.hid (fun hj => by have := (ho.lt b hj).1; have := lt_of_block HM.out.blk; omega)
  clear ho hb3
  go_wp2_with (at_builtin; refine wpList_push rfl _ _ rfl SL.out LN.out LT.out key 1 _ rfl rfl rfl ?_; intro v' w5 hp; obtain ⟨A'', c'', hv, -⟩ := hp.sl.form; subst hv; have HP := Lib.hid hp; have HB5 := Lib.hid (hp.upd.get (HX.out.trans HM.out.blk) HNB.out); have q1 := cell_of HB5.out 2; have qf := free_of HB5.out; clear hp)
  go_ret2
  obtain ⟨h1, h2⟩ := ((HM.out.cutpush (by omega) HB3.out HO.out HP.out).same HU.out).done HI.out
  rw [List.length_append, List.length_singleton] at h1 h2
  exact RGone.mk (v := .slice none 0 0) rfl h1 h2 (World.ownsRow_nil _ _ _ _) (fun k hk => by simp [Value.ownBlock] at hk)

set_option maxHeartbeats 800000 in
theorem racc_in (h : Ref w b F c K) {key : ByteArray} (h0 : key ∈ K 0) : Calls Try.prog 47 #[.pointer (some ⟨b, 0, none⟩), .string key] w (RAccPost b F c K key w) := by
  have hi := h.inv
  have h2 : key ∉ K 2 := fun a => by have := hi.once 0 2 (by omega) (by omega) key h0 a; omega
  have e : access c K key = (true, [], K) := by unfold access; rw [if_neg h2, if_pos h0]
  unfold RAccPost
  rw [e]
  have HE := Lib.hid h
  obtain ⟨v, Fs, hm, -⟩ := h
  obtain ⟨A, p, hs⟩ := hm.rs
  have c0 := hs.c0
  have c2 := hs.c2
  have HQ2 := Lib.hid (qhas_no hi hs (r := 2) (by omega) h2)
  have HQ0 := Lib.hid (qhas_yes hi hs (r := 0) (by omega) h0)
  clear hm hi e hs h2 h0
  go_enter Try.func47, Try.ntmps47
  go_wp2_with fail
  refine HQ2.out.mono ?_
  rintro e w1 ⟨rfl, rfl⟩
  go_wp2_with fail
  refine HQ0.out.mono ?_
  rintro e w1 ⟨⟨i, rfl, -⟩, rfl⟩
  go_wp2_with fail
  go_ret2
  exact RGone.mk (v := .slice none 0 0) rfl HE.out (Step.refl _ _) (World.ownsRow_nil _ _ _ _) (fun k hk => by simp [Value.ownBlock] at hk)

set_option maxHeartbeats 1600000 in
theorem racc_new (h : Ref w b F c K) {key : ByteArray} (hk : key.size ≤ 40) (h0 : key ∉ K 0) (h1 : key ∉ K 1) (h2 : key ∉ K 2) : Calls Try.prog 47 #[.pointer (some ⟨b, 0, none⟩), .string key] w (RAccPost b F c K key w) := by
  have hi' := (access_facts h.inv hk).inv
  have hi := h.inv
  have e : access c K key = (false, (recl c K).1, push (recl c K).2 0 key) := by unfold access; rw [if_neg h2, if_neg h0, if_neg h1]
  unfold RAccPost
  rw [e] at hi' ⊢
  have hnew : Hid (∀ q, q < 3 → key ∉ (recl c K).2 q) := Lib.hid (recl_no hi (by
    intro q hq
    match q, hq with
    | 0, _ => exact h0
    | 1, _ => exact h1
    | 2, _ => exact h2))
  have RC := Lib.hid (ref_recl h)
  obtain ⟨v, Fs, hm, -⟩ := h
  obtain ⟨A, p, hs⟩ := hm.rs
  have c0 := hs.c0
  have c1 := hs.c1
  have c2 := hs.c2
  have HQ2 := Lib.hid (qhas_no hi hs (r := 2) (by omega) h2)
  have HQ0 := Lib.hid (qhas_no hi hs (r := 0) (by omega) h0)
  have HQ1 := Lib.hid (qhas_no hi hs (r := 1) (by omega) h1)
  have HI := Lib.hid hi'
  clear hm hi hi' e hs h0 h1 h2
  generalize (recl c K).1 = l at *
  generalize (recl c K).2 = K1 at *
  go_enter Try.func47, Try.ntmps47
  go_wp2_with fail
  refine HQ2.out.mono ?_
  rintro e w1 ⟨rfl, rfl⟩
  go_wp2_with fail
  refine HQ0.out.mono ?_
  rintro e w1 ⟨rfl, rfl⟩
  go_wp2_with fail
  refine HQ1.out.mono ?_
  rintro e w1 ⟨rfl, rfl⟩
  go_wp2_with fail
  refine RC.out.mono ?_
  rintro e w2 ⟨u, F1, rfl, hr, hst, ho, hn⟩
  have HS := Lib.hid hst
  have HO := Lib.hid ho
  have HN := Lib.hid hn
  have HL := Lib.hid (lens hr.inv)
  clear hst ho hn
  obtain ⟨v, Fs, hm, -⟩ := hr
  obtain ⟨A, p, hs⟩ := hm.rs
  have d0 := hs.c0
  have HM := Lib.hid hm
  have SL := Lib.hid (hs.sl 0 (by omega))
  have LT := Lib.hid (hm.lt 0 (by omega))
  have LN : Hid ((K1 0).length ≤ 1000000) := Lib.hid (by have := HL.out 0 (by omega); omega)
  have HNB := Lib.hid (hm.nb 0 (by omega))
  clear hm hs
  simp only [id]
  go_wp2_with (at_builtin; refine wpList_push rfl _ _ rfl SL.out LN.out LT.out key 1 _ rfl rfl rfl ?_; intro v' w5 hp; obtain ⟨A'', c'', hv, -⟩ := hp.sl.form; subst hv; have HP := Lib.hid hp; have HB5 := Lib.hid (hp.upd.get HM.out.blk HNB.out); have q1 := cell_of HB5.out 0; have qf := free_of HB5.out; clear hp)
  go_ret2
  have hz := rgone_end (l := l) HS.out HO.out HN.out (HM.out.pushed (by omega) HP.out) (upd_push_new hnew.out) HI.out (fun v => .tuple #[.bool false, v])
  rw [List.length_append, List.length_singleton] at hz
  exact hz

set_option maxHeartbeats 1600000 in
theorem racc_out (h : Ref w b F c K) {key : ByteArray} (hk : key.size ≤ 40) (h0 : key ∉ K 0) (h1 : key ∈ K 1) (h2 : key ∉ K 2) : Calls Try.prog 47 #[.pointer (some ⟨b, 0, none⟩), .string key] w (RAccPost b F c K key w) := by
  have hi' := (access_facts h.inv hk).inv
  have hi := h.inv
  have e : access c K key = (false, (recl c (less K key)).1, push (recl c (less K key)).2 2 key) := by unfold access; rw [if_neg h2, if_neg h0, if_pos h1]
  unfold RAccPost
  rw [e] at hi' ⊢
  have hnew : Hid (∀ q, q < 3 → key ∉ (recl c (less K key)).2 q) := Lib.hid (recl_no (hi.less key) (fun q _ => Rw.less_not K key q))
  have RC := Lib.hid (fun F1 w1 (h : Ref w1 b F1 c (less K key)) => ref_recl h)
  obtain ⟨v, Fs, hm, -⟩ := h
  obtain ⟨A, p, hs⟩ := hm.rs
  have c0 := hs.c0
  have c1 := hs.c1
  have c2 := hs.c2
  have HQ2 := Lib.hid (qhas_no hi hs (r := 2) (by omega) h2)
  have HQ0 := Lib.hid (qhas_no hi hs (r := 0) (by omega) h0)
  have HQ1 := Lib.hid (qhas_yes hi hs (r := 1) (by omega) h1)
  have CUT := Lib.hid (rcut hi hs (r := 1) (by omega) key)
  have HM0 := Lib.hid hm
  have HU := Lib.hid (upd_less hi.sep (r := 1) (by omega) h1)
  have HIL := Lib.hid (hi.less key)
  have HI := Lib.hid hi'
  clear hm hi hi' e hs h0 h1 h2
  generalize (recl c (less K key)).1 = l at *
  generalize (recl c (less K key)).2 = K1 at *
  go_enter Try.func47, Try.ntmps47
  go_wp2_with fail
  refine HQ2.out.mono ?_
  rintro e w1 ⟨rfl, rfl⟩
  go_wp2_with fail
  refine HQ0.out.mono ?_
  rintro e w1 ⟨rfl, rfl⟩
  go_wp2_with fail
  refine HQ1.out.mono ?_
  rintro e w1 ⟨⟨i, rfl, -⟩, rfl⟩
  go_wp2_with fail
  refine CUT.out.mono ?_
  rintro e w3 ⟨v', rfl, ho, hb3, -⟩
  obtain ⟨A', c', rfl⟩ := own_form' ho
  have HM3 := Lib.hid (HM0.out.below hb3)
  obtain ⟨he, hu⟩ := ((HM0.out.cutted (by omega) hb3 ho).same HU.out).done HIL.out
  have HE := Lib.hid he
  have HS0 := Lib.hid hu
  have d1 := (HM3.out.cells).2.1
  have df := HM3.out.wr
  clear ho hb3 he hu
  go_wp2_with fail
  refine (RC.out _ _ HE.out).mono ?_
  rintro e w2 ⟨u, F1, rfl, hr, hst, ho, hn⟩
  have HS := Lib.hid (HS0.out.trans hst)
  have HO := Lib.hid (own_mono ho HS0.out.upd.size)
  have HN := Lib.hid hn
  have HL := Lib.hid (lens hr.inv)
  clear hst ho hn d1 df
  obtain ⟨v, Fs, hm, -⟩ := hr
  obtain ⟨A, p, hs⟩ := hm.rs
  have d2 := hs.c2
  have HM := Lib.hid hm
  have SL := Lib.hid (hs.sl 2 (by omega))
  have LT := Lib.hid (hm.lt 2 (by omega))
  have LN : Hid ((K1 2).length ≤ 1000000) := Lib.hid (by have := HL.out 2 (by omega); omega)
  have HNB := Lib.hid (hm.nb 2 (by omega))
  clear hm hs
  simp only [id]
  go_wp2_with (at_builtin; refine wpList_push rfl _ _ rfl SL.out LN.out LT.out key 1 _ rfl rfl rfl ?_; intro v' w5 hp; obtain ⟨A'', c'', hv, -⟩ := hp.sl.form; subst hv; have HP := Lib.hid hp; have HB5 := Lib.hid (hp.upd.get HM.out.blk HNB.out); have q1 := cell_of HB5.out 2; have qf := free_of HB5.out; clear hp)
  go_ret2
  have hz := rgone_end (l := l) HS.out HO.out HN.out (HM.out.pushed (by omega) HP.out) (upd_push_new hnew.out) HI.out (fun v => .tuple #[.bool false, v])
  rw [List.length_append, List.length_singleton] at hz
  exact hz

theorem ref_access (h : Ref w b F c K) {key : ByteArray} (hk : key.size ≤ 40) : Calls Try.prog 47 #[.pointer (some ⟨b, 0, none⟩), .string key] w (RAccPost b F c K key w) := by
  by_cases h2 : key ∈ K 2
  · exact racc_am h hk h2
  · by_cases h0 : key ∈ K 0
    · exact racc_in h h0
    · by_cases h1 : key ∈ K 1
      · exact racc_out h hk h0 h1 h2
      · exact racc_new h hk h0 h1 h2
end

end Go.Proofs.Ytjpoeblhibgjbaa.Rf
