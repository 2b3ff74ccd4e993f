/- TinyLFU's reference in memory: Access of a key that is there. -/
import Derived.Test.YtkeicfajlmhajaaGreatQt
import Derived.Test.YtkeicfajlmhajaaGreatQu
namespace Go.Proofs.YtkeicfajlmhajaaGreat.Rf
open Go Go.RowKit Go.Proofs.YtkeicfajlmhajaaGreat.K Go.Proofs.YtkeicfajlmhajaaGreat.Sl Go.Proofs.YtkeicfajlmhajaaGreat.Eg
open Go.Proofs.YtkeicfajlmhajaaGreat.Li (more more_lt own_form' infoS)
open Go.Proofs.YtkeicfajlmhajaaGreat.Rw (upd upd_same upd_other less less_same cell_below cell_upd own_mono own_below)

section
variable {w0 w w' : World} {b c : Nat} {F : Nat → Prop} {v : Nat → Value} {Fs : Nat → Nat → Prop} {K : Rs} {kb db : Nat} {H : Nat → Prop} {N : Nt}

theorem small_rows {K : Ks} (hi : Inv c K) : ∀ q, q < 3 → (K.r q).length ≤ 1000 := fun q hq => by
  have a := hi.r0
  have e := hi.r12
  have d := hi.c2
  have hw : win c ≤ 128 := by unfold win; omega
  have hm : mainr c ≤ 900 := by unfold mainr win; omega
  match q, hq with
  | 0, _ => omega
  | 1, _ => omega
  | 2, _ => omega

/-- An act's end. -/
def Did (v : Value) (b : Nat) (F : Nat → Prop) (c : Nat) (K' : Ks) (w : World) (e : Ending) (w' : World) : Prop :=
  e = .returned v ∧ ∃ F', Ref w' b F' c K' ∧ Step F w F' w'
/-- An act's end, with texts that are their own. -/
def RGone (l : List ByteArray) (mk : Value → Value) (b : Nat) (F : Nat → Prop) (c : Nat) (K' : Ks) (w : World) (e : Ending) (w' : World) : Prop :=
  ∃ v F', e = .returned (mk v) ∧ Ref w' b F' c K' ∧ Step F w F' w' ∧ w'.ownsRow w.heap.size 9 1 v l.length (l.map .string) ∧ ∀ k, v.ownBlock = some k → ¬ F' k
def RAccPost (b : Nat) (F : Nat → Prop) (c : Nat) (K : Ks) (key : ByteArray) (w : World) (e : Ending) (w' : World) : Prop :=
  RGone (access c K key).2.1 (fun v => .tuple #[.bool (access c K key).1, v]) b F c (access c K key).2.2 w e w'
theorem RGone.mk {l : List ByteArray} {f : Value → Value} {K' : Ks} {w w' : World} {e : Ending} {v : Value} {F' : Nat → Prop} (he : e = .returned (f v)) (h1 : Ref w' b F' c K') (h2 : Step F w F' w') (h3 : w'.ownsRow w.heap.size 9 1 v l.length (l.map .string)) (h4 : ∀ k, v.ownBlock = some k → ¬ F' k) : RGone l f b F c K' w e w' :=
  ⟨v, F', he, h1, h2, h3, h4⟩

/-- A row was cut, got one more key and was stored. -/
theorem RM.cutpush {v1 v2 : Value} {w1 w2 : World} {n : Nat} (h : RM w0 b c F v Fs K kb db H N w) {r : Nat} (hr : r < 3) {key : ByteArray} (hb : Below w.heap.size w w1) (ho : w1.ownsRow w.heap.size 9 1 v1 n ((without (K r) key).map .string))
    (hp : Pushed w1 (fun j => v1.ownBlock = some j) (without (K r) key) key v2 w2) :
    RM w0 b c F (Rw.upd v r v2) (Rw.upd Fs r (fun j => v2.ownBlock = some j)) (Rw.upd K r (without (K r) key ++ [key])) kb db H N (w2.setCell ⟨b, r, none⟩ v2) := by
  have h1 : ∀ j, v1.ownBlock = some j → w.heap.size ≤ j := fun j hj => (ho.lt j hj).1
  refine h.store hr ?_ hp.sl (fun j hj => ?_) hp.lt
  · exact ((Upd.of_below (F := fun _ => False) hb (fun i h1 h2 => by omega)).mono (fun _ _ h => h.elim)).then hp.upd (fun i hi hj => by have := h1 i hj; omega)
  · rcases hp.new j hj with h2 | h2
    · exact .inr (h1 j h2)
    · exact .inr (Nat.le_trans hb.size h2)
theorem upd_push_new {r : Nat} {key : ByteArray} (hno : ∀ q, q < 3 → key ∉ K q) : ∀ q, q < 3 → upd K r (K r ++ [key]) q = push K r key q := by
  intro q hq
  by_cases e : q = r
  · subst e; rw [upd_same, push_at, less_same (hno q hq)]
  · rw [upd_other _ _ e, push_ne _ _ e, less_same (hno q hq)]
theorem upd_push_cut (h : Sep K) {r : Nat} (hr : r < 3) {key : ByteArray} (hk : key ∈ K r) : ∀ q, q < 3 → upd K r (without (K r) key ++ [key]) q = push K r key q := by
  intro q hq
  by_cases e : q = r
  · subst e; rw [upd_same, push_at]; rfl
  · rw [upd_other _ _ e, push_ne _ _ e, h.apart hr hk hq e]
theorem rhit_end {w1 : World} {R' : Rs} {l : List ByteArray} (h : RM w b c F v Fs R' kb db H (nts c l) w1) (hi : Inv c ⟨R', l⟩) : RGone [] (fun v => .tuple #[.bool true, v]) b F c ⟨R', l⟩ w (.returned (.tuple #[.bool true, .slice none 0 0])) w1 := by
  obtain ⟨h1, h2⟩ := RM.done (K := ⟨R', l⟩) h hi
  exact RGone.mk (v := .slice none 0 0) rfl h1 h2 (World.ownsRow_nil _ _ _ _) (fun k hk => by simp [Value.ownBlock] at hk)

set_option maxRecDepth 100000 in
set_option maxHeartbeats 1600000 in
theorem racc_win {K : Ks} (h : Ref w b F c K) {key : ByteArray} (hk : key.size ≤ 40) (h0 : key ∈ K.r 0) : Calls Tryz.prog 41 #[.pointer (some ⟨b, 0, none⟩), .string key] w (RAccPost b F c K key w) := by
  have hi' := (access_facts h.inv hk).inv
  have hi := h.inv
  have e : access c K key = (true, [], ⟨push K.r 0 key, K.h ++ [key]⟩) := by unfold access; rw [if_pos h0]
  unfold RAccPost
  rw [e] at hi' ⊢
  obtain ⟨v, Fs, kb, db, H, hm, -⟩ := h
  have NT := Lib.hid (rnoted_at hm hk)
  have HLS := Lib.hid (lens hi)
  have H0 := Lib.hid h0
  have HU := Lib.hid (upd_push_cut hi.sep (r := 0) (by omega) h0)
  have HI := Lib.hid hi'
  have LN : Hid ((without (K.r 0) key).length ≤ 1000000) := Lib.hid (by have := lens hi 0 (by omega); exact Nat.le_trans (List.length_filter_le _ _) (by omega))
  clear hm hi hi' e h0
  go_enter Tryz.func41, Tryz.ntmps41
  go_wp2_with fail
  refine NT.out.mono ?_
  rintro e w1 ⟨rfl, H1, hm1⟩
  have HM := Lib.hid hm1
  obtain ⟨A, p, hs⟩ := hm1.rs
  have c0 := hs.c0
  have HQ := Lib.hid (qhas_yes HLS.out hs (r := 0) (by omega) H0.out)
  have CUT := Lib.hid (rcut HLS.out hs (r := 0) (by omega) key)
  have cf := hm1.wr
  clear hm1 hs
  generalize A 0 = A0 at *
  generalize p 0 = p0 at *
  generalize (K.r 0).length = n0 at *
  go_wp2_with fail
  refine HQ.out.mono ?_
  rintro e w2 ⟨⟨i, rfl, -⟩, rfl⟩
  go_wp2_with fail
  refine CUT.out.mono ?_
  rintro e w3 ⟨v', rfl, ho, hb3, -⟩
  obtain ⟨A', c', rfl⟩ := own_form' ho
  have HO := Lib.hid ho
  have HB3 := Lib.hid hb3
  have SL := Lib.hid (Sl.of_own ho (fun _ h => h))
  have LT := Lib.hid (fun j hj => (ho.lt j hj).2)
  have HX := Lib.hid (hb3.block b (lt_of_block HM.out.blk))
  have HNB : Hid (¬ (fun j => (Value.slice A' (without (K.r 0) key).length c').ownBlock = some j) b) := Lib.hid (fun hj => by have := (ho.lt b hj).1; have := lt_of_block HM.out.blk; omega)
  clear ho hb3
  go_wp2_with (at_builtin; refine wpList_push rfl _ _ rfl SL.out LN.out LT.out key 1 _ rfl rfl rfl ?_; intro v' w5 hp; obtain ⟨A'', c'', hv, -⟩ := hp.sl.form; subst hv; have HP := Lib.hid hp; have HB5 := Lib.hid (hp.upd.get (HX.out.trans HM.out.blk) HNB.out); have q1 := cell_of HB5.out 0; have qf := free_of HB5.out; clear hp)
  go_ret2
  have h9 := (HM.out.cutpush (by omega) HB3.out HO.out HP.out).same HU.out
  first | exact rhit_end h9 HI.out | (rw [List.length_append, List.length_singleton] at h9; exact rhit_end h9 HI.out)

set_option maxRecDepth 100000 in
set_option maxHeartbeats 1600000 in
theorem racc_prot {K : Ks} (h : Ref w b F c K) {key : ByteArray} (hk : key.size ≤ 40) (h2 : key ∈ K.r 2) : Calls Tryz.prog 41 #[.pointer (some ⟨b, 0, none⟩), .string key] w (RAccPost b F c K key w) := by
  have hi' := (access_facts h.inv hk).inv
  have hi := h.inv
  have h0 : key ∉ K.r 0 := fun a => by have := hi.once 0 2 (by omega) (by omega) key a h2; omega
  have hd : demote c (push K.r 2 key) = push K.r 2 key := by
    unfold demote
    rw [if_neg]
    obtain ⟨l0, l1, l2⟩ := hi.sep.lens (q := 2) (r := 2) (by omega) h2
    have := hi.r2
    simp at l2
    omega
  have e : access c K key = (true, [], ⟨push K.r 2 key, K.h ++ [key]⟩) := by unfold access; rw [if_neg h0, if_pos (.inr h2), hd]
  unfold RAccPost
  rw [e] at hi' ⊢
  obtain ⟨v, Fs, kb, db, H, hm, -⟩ := h
  have NT := Lib.hid (rnoted_at hm hk)
  have HLS := Lib.hid (lens hi)
  have H0 := Lib.hid h0
  have H2 := Lib.hid h2
  have HU := Lib.hid (upd_push_cut hi.sep (r := 2) (by omega) h2)
  have HI := Lib.hid hi'
  have LN : Hid ((without (K.r 2) key).length ≤ 1000000) := Lib.hid (by have := lens hi 2 (by omega); exact Nat.le_trans (List.length_filter_le _ _) (by omega))
  clear hm hi hi' e h0 h2 hd
  go_enter Tryz.func41, Tryz.ntmps41
  go_wp2_with fail
  refine NT.out.mono ?_
  rintro e w1 ⟨rfl, H1, hm1⟩
  have HM := Lib.hid hm1
  obtain ⟨A, p, hs⟩ := hm1.rs
  have c0 := hs.c0
  have c2 := hs.c2
  have HQ0 := Lib.hid (qhas_no HLS.out hs (r := 0) (by omega) H0.out)
  have HQ := Lib.hid (qhas_yes HLS.out hs (r := 2) (by omega) H2.out)
  have CUT := Lib.hid (rcut HLS.out hs (r := 2) (by omega) key)
  have cf := hm1.wr
  clear hm1 hs
  generalize A 0 = A0 at *
  generalize p 0 = p0 at *
  generalize A 2 = A2 at *
  generalize p 2 = p2 at *
  generalize (K.r 0).length = n0 at *
  generalize (K.r 2).length = n2 at *
  go_wp2_with fail
  refine HQ0.out.mono ?_
  rintro e w2 ⟨rfl, rfl⟩
  go_wp2_with fail
  refine HQ.out.mono ?_
  rintro e w2 ⟨⟨i, rfl, -⟩, rfl⟩
  go_wp2_with fail
  refine CUT.out.mono ?_
  rintro e w3 ⟨v', rfl, ho, hb3, -⟩
  obtain ⟨A', c', rfl⟩ := own_form' ho
  have HO := Lib.hid ho
  have HB3 := Lib.hid hb3
  have SL := Lib.hid (Sl.of_own ho (fun _ h => h))
  have LT := Lib.hid (fun j hj => (ho.lt j hj).2)
  have HX := Lib.hid (hb3.block b (lt_of_block HM.out.blk))
  have HNB : Hid (¬ (fun j => (Value.slice A' (without (K.r 2) key).length c').ownBlock = some j) b) := Lib.hid (fun hj => by have := (ho.lt b hj).1; have := lt_of_block HM.out.blk; omega)
  clear ho hb3
  go_wp2_with (at_builtin; refine wpList_push rfl _ _ rfl SL.out LN.out LT.out key 1 _ rfl rfl rfl ?_; intro v' w5 hp; obtain ⟨A'', c'', hv, -⟩ := hp.sl.form; subst hv; have HP := Lib.hid hp; have HB5 := Lib.hid (hp.upd.get (HX.out.trans HM.out.blk) HNB.out); have q1 := cell_of HB5.out 2; have qf := free_of HB5.out; clear hp)
  go_ret2
  have h9 := (HM.out.cutpush (by omega) HB3.out HO.out HP.out).same HU.out
  first | exact rhit_end h9 HI.out | (rw [List.length_append, List.length_singleton] at h9; exact rhit_end h9 HI.out)

set_option maxRecDepth 100000 in
set_option maxHeartbeats 1600000 in
theorem racc_prob {K : Ks} (h : Ref w b F c K) {key : ByteArray} (hk : key.size ≤ 40) (h1 : key ∈ K.r 1) : Calls Tryz.prog 41 #[.pointer (some ⟨b, 0, none⟩), .string key] w (RAccPost b F c K key w) := by
  have hi' := (access_facts h.inv hk).inv
  have hi := h.inv
  have h0 : key ∉ K.r 0 := fun a => by have := hi.once 0 1 (by omega) (by omega) key a h1; omega
  have h2 : key ∉ K.r 2 := fun a => by have := hi.once 1 2 (by omega) (by omega) key h1 a; omega
  have e : access c K key = (true, [], ⟨demote c (push K.r 2 key), K.h ++ [key]⟩) := by unfold access; rw [if_neg h0, if_pos (.inl h1)]
  unfold RAccPost
  rw [e] at hi' ⊢
  obtain ⟨v, Fs, kb, db, H, hm, -⟩ := h
  have NT := Lib.hid (rnoted_at hm hk)
  have HLS := Lib.hid (lens hi)
  have H0 := Lib.hid h0
  have H1' := Lib.hid h1
  have H2 := Lib.hid h2
  have HI := Lib.hid hi'
  have PR := Lib.hid (fun (w1 : World) (H1 : Nat → Prop) (hm : RM w b c F v Fs K.r kb db H1 (nts c (K.h ++ [key])) w1) => rpromote_at hi.sep (small_rows hi) hi.c1 hi.c2 hm hk h1 hi'.r2)
  clear hm hi hi' e h0 h1 h2
  go_enter Tryz.func41, Tryz.ntmps41
  go_wp2_with fail
  refine NT.out.mono ?_
  rintro e w1 ⟨rfl, H1, hm1⟩
  have HM := Lib.hid hm1
  obtain ⟨A, p, hs⟩ := hm1.rs
  have c0 := hs.c0
  have c1 := hs.c1
  have c2 := hs.c2
  have HQ0 := Lib.hid (qhas_no HLS.out hs (r := 0) (by omega) H0.out)
  have HQ2 := Lib.hid (qhas_no HLS.out hs (r := 2) (by omega) H2.out)
  have HQ := Lib.hid (qhas_yes HLS.out hs (r := 1) (by omega) H1'.out)
  have PRM := Lib.hid (PR.out _ _ hm1)
  clear hm1 hs
  go_wp2_with fail
  refine HQ0.out.mono ?_
  rintro e w2 ⟨rfl, rfl⟩
  go_wp2_with fail
  refine HQ2.out.mono ?_
  rintro e w2 ⟨rfl, rfl⟩
  go_wp2_with fail
  refine HQ.out.mono ?_
  rintro e w2 ⟨⟨i, rfl, -⟩, rfl⟩
  go_wp2_with fail
  refine PRM.out.mono ?_
  rintro e w3 ⟨rfl, v3, Fs3, hm3⟩
  have HM3 := Lib.hid hm3
  clear hm3
  go_wp2_with fail
  go_ret2
  exact rhit_end HM3.out HI.out
end

end Go.Proofs.YtkeicfajlmhajaaGreat.Rf

/- TinyLFU's reference in memory: Access. -/
namespace Go.Proofs.YtkeicfajlmhajaaGreat.Rf
open Go Go.RowKit Go.Proofs.YtkeicfajlmhajaaGreat.K Go.Proofs.YtkeicfajlmhajaaGreat.Sl Go.Proofs.YtkeicfajlmhajaaGreat.Eg
open Go.Proofs.YtkeicfajlmhajaaGreat.Li (more more_lt own_form' infoS)
open Go.Proofs.YtkeicfajlmhajaaGreat.Rw (upd upd_same upd_other less less_same cell_below cell_upd own_mono own_below)

section
variable {w0 w w' : World} {b c : Nat} {F : Nat → Prop} {v : Nat → Value} {Fs : Nat → Nat → Prop} {kb db : Nat} {H : Nat → Prop} {N : Nt}

/-- The loop that makes room in the window. -/
def ARel (w : World) (b c : Nat) (F : Nat → Prop) (P : Ks) (kk : Nat) (v6 : Value) (wr : World) : Prop :=
  (kk = 1 ∧ v6 = .slice none 0 0 ∧ win c < (P.r 0).length ∧ ∃ v Fs kb db H, RM w b c F v Fs P.r kb db H (nts c P.h) wr) ∨
  (kk = 0 ∧ ∃ F1, Ref wr b F1 c (made c P).2 ∧ Step F w F1 wr ∧ wr.ownsRow w.heap.size 9 1 v6 (made c P).1.length ((made c P).1.map .string) ∧ ∀ k, v6.ownBlock = some k → ¬ F1 k)

theorem arel_start {P : Ks} {w1 : World} (h : RM w b c F v Fs P.r kb db H (nts c P.h) w1) (hi : Inv c (made c P).2) : ∃ kk, ARel w b c F P kk (.slice none 0 0) w1 := by
  by_cases e : win c < (P.r 0).length
  · exact ⟨1, .inl ⟨rfl, rfl, e, v, Fs, kb, db, H, h⟩⟩
  · have hm : made c P = ([], P) := by unfold made; rw [if_neg e]
    rw [hm] at hi
    obtain ⟨h1, h2⟩ := h.done hi
    exact ⟨0, .inr ⟨rfl, _, by rw [hm]; exact h1, h2, by rw [hm]; exact World.ownsRow_nil _ _ _ _, fun k hk => by simp [Value.ownBlock] at hk⟩⟩
theorem rwin_q {K : Rs} (h : RM w0 b c F v Fs K kb db H N w) (hc : c ≤ 1024) : ∀ a, Calls Tryz.prog 65 #[.pointer (some ⟨b, 0, none⟩)] (w.drewN a) fun e w' => e = .returned (.int .i64 (win c : Int)) ∧ ∃ m, w' = (w.drewN a).drewN m :=
  fun a => (rwin_any (w := w.drewN a) hc h.cells.2.2.2.2.2).mono fun _ _ ⟨he, hw⟩ => ⟨he, 0, hw.symm⟩

set_option maxRecDepth 100000 in
set_option maxHeartbeats 1600000 in
theorem racc_miss {K : Ks} (h : Ref w b F c K) {key : ByteArray} (hk : key.size ≤ 40) (h0 : key ∉ K.r 0) (h1 : key ∉ K.r 1) (h2 : key ∉ K.r 2) : Calls Tryz.prog 41 #[.pointer (some ⟨b, 0, none⟩), .string key] w (RAccPost b F c K key w) := by
  have hi' := (access_facts h.inv hk).inv
  have hi := h.inv
  have e : access c K key = (false, (made c ⟨push K.r 0 key, K.h ++ [key]⟩).1, (made c ⟨push K.r 0 key, K.h ++ [key]⟩).2) := by
    unfold access made
    rw [if_neg h0, if_neg (by rintro (a | a); exact h1 a; exact h2 a)]
    dsimp only
    split <;> rfl
  unfold RAccPost
  rw [e] at hi' ⊢
  have hno : ∀ q, q < 3 → key ∉ K.r q := fun q hq => by
    match q, hq with
    | 0, _ => exact h0
    | 1, _ => exact h1
    | 2, _ => exact h2
  have hlp : ∀ q, q < 3 → (push K.r 0 key q).length ≤ 2000 := fun q hq => by
    have h1 := push_length K.r 0 key q
    have h2 := Rw.less_length K.r key q
    have h3 := small_rows hi q hq
    split at h1 <;> omega
  have hsp : Sep (push K.r 0 key) := hi.sep.push hk
  have hc1 := hi.c1
  have hc2 := hi.c2
  have hpc : win c ≤ 1024 := by unfold win; omega
  have hw1 := win_main hi.c1
  obtain ⟨v, Fs, kb, db, H, hm, -⟩ := h
  have NT := Lib.hid (rnoted_at hm hk)
  have HLS := Lib.hid (lens hi)
  have HNO := Lib.hid hno
  have HUN := Lib.hid (upd_push_new (r := 0) hno)
  have LN : Hid ((K.r 0).length ≤ 1000000) := Lib.hid (by have := lens hi 0 (by omega); omega)
  have HLP' : Hid (∀ q, q < 3 → ((⟨push K.r 0 key, K.h ++ [key]⟩ : Ks).r q).length ≤ 2000) := Lib.hid hlp
  have HSP' : Hid (Sep (⟨push K.r 0 key, K.h ++ [key]⟩ : Ks).r) := Lib.hid hsp
  have HPP : Hid (push K.r 0 key = (⟨push K.r 0 key, K.h ++ [key]⟩ : Ks).r ∧ K.h ++ [key] = (⟨push K.r 0 key, K.h ++ [key]⟩ : Ks).h) := Lib.hid ⟨rfl, rfl⟩
  clear hm hi e h0 h1 h2 hlp hsp hno
  generalize (⟨push K.r 0 key, K.h ++ [key]⟩ : Ks) = P at *
  obtain ⟨M, hM⟩ : ∃ M, made c P = M := ⟨_, rfl⟩
  have HI := Lib.hid hi'
  rw [hM] at hi' ⊢
  have HMM := Lib.hid hM
  have HIM := Lib.hid hi'
  clear hM hi'
  obtain ⟨i0, hi0, hz0, hz1, hz2⟩ := info_parts infoS
  go_enter Tryz.func41, Tryz.ntmps41
  go_wp2_with fail
  refine NT.out.mono ?_
  rintro e w1 ⟨rfl, H1, hm1⟩
  have HM := Lib.hid hm1
  obtain ⟨A, p, hs⟩ := hm1.rs
  have c0 := hs.c0
  have c1 := hs.c1
  have c2 := hs.c2
  have HQ0 := Lib.hid (qhas_no HLS.out hs (r := 0) (by omega) (HNO.out 0 (by omega)))
  have HQ1 := Lib.hid (qhas_no HLS.out hs (r := 1) (by omega) (HNO.out 1 (by omega)))
  have HQ2 := Lib.hid (qhas_no HLS.out hs (r := 2) (by omega) (HNO.out 2 (by omega)))
  have sl := hm1.sl 0 (by omega)
  rw [hs.v_ 0 (by omega)] at sl
  have SL := Lib.hid sl
  have LT := Lib.hid (hm1.lt 0 (by omega))
  have cf := hm1.wr
  clear hm1 hs sl
  generalize A 0 = A0 at *
  generalize p 0 = p0 at *
  generalize A 1 = A1 at *
  generalize p 1 = p1 at *
  generalize A 2 = A2 at *
  generalize p 2 = p2 at *
  generalize (K.r 1).length = n1 at *
  generalize (K.r 2).length = n2 at *
  go_wp2_with fail
  refine HQ0.out.mono ?_
  rintro e w2 ⟨rfl, rfl⟩
  go_wp2_with fail
  refine HQ2.out.mono ?_
  rintro e w2 ⟨rfl, rfl⟩
  go_wp2_with fail
  refine HQ1.out.mono ?_
  rintro e w2 ⟨rfl, rfl⟩
  go_wp2_with (at_builtin; refine wpList_push rfl _ _ rfl SL.out LN.out LT.out key 1 _ rfl rfl rfl ?_; intro v' w5 hp; obtain ⟨A'', c'', hv, -⟩ := hp.sl.form; subst hv; have HP := Lib.hid hp; have HB5 := Lib.hid (hp.upd.get HM.out.blk (HM.out.nb 0 (by omega))); have q1 := cell_of HB5.out 0; have qf := free_of HB5.out; clear hp)
  have h9 := (HM.out.pushed (r := 0) (by omega) HP.out).same HUN.out
  rw [HPP.out.1, HPP.out.2] at h9
  obtain ⟨kk, hkk⟩ := arel_start h9 HI.out
  have HKK := Lib.hid hkk
  clear h9 hkk
  go_loopg [6] kk (fun kk v6 wr => ARel w b c F P kk v6 wr)
  case atStart =>
    have := HKK.out
    first | exact this | (rw [List.length_append, List.length_singleton] at this; exact this)
  case round =>
    clear HKK
    rcases hrel with ⟨rfl, rfl, hl, vq, Fq, kq, dq, Hq, hm⟩ | ⟨rfl, F5, he, hs, ho, hn⟩
    · have hMA : made c P = admit c P := by unfold made; rw [if_pos hl]
      have AD := Lib.hid (fun a => radmit_at (K := P.r) (l := P.h) HSP'.out HLP'.out (by omega) hc1 hc2 (hm.drewN a))
      have hAP : admit c ⟨P.r, P.h⟩ = M := hMA.symm.trans HMM.out
      rw [hAP] at AD
      have HM5 := Lib.hid hm
      have WN := Lib.hid (rwin_q hm hc2)
      obtain ⟨A, p, hs⟩ := hm.rs
      have e0 := hs.c0
      clear hm hs hMA hAP
      generalize A 0 = a0 at *
      generalize p 0 = b0 at *
      have hl2 := HLP'.out 0 (by omega)
      have dp : decide (win c < (P.r 0).length) = true := by simpa using hl
      obtain ⟨n0, hn0⟩ : ∃ n, (P.r 0).length = n := ⟨_, rfl⟩
      rw [hn0] at e0 dp hl hl2
      clear hn0
      go_wp2_with fail
      go_quiet ((go_at_call 65; exact Do.quiet_any (WN.out _)))
      go_wp2_with fail
      refine (AD.out _).mono ?_
      rintro e w7 ⟨z, v7, Fs7, rfl, hm7, hlit, hsz⟩
      obtain ⟨h7, hs7⟩ := RM.done hm7 HIM.out
      have H7 := Lib.hid h7
      have HS7 := Lib.hid hs7
      have HZ7 : Hid (w.heap.size ≤ w7.heap.size) := Lib.hid hs7.upd.size
      clear hm7 h7 hs7
      rcases hlit with ⟨hl0, rfl⟩ | ⟨g, k, hl0, rfl, hblk⟩
      · have HL0 := Lib.hid hl0
        clear hl0
        go_wp2_with (at_builtin; refine wpList_append_own_none rfl _ _ 22 rfl w.heap.size 9 i0 1 Tryz.underlying22 hi0 (.slice none 0 0) 0 [] rfl (World.ownsRow_nil _ _ _ _) rfl ?_)
        go_roundg 0
        case measure => omega
        case rel => exact .inr ⟨rfl, _, by rw [HMM.out]; exact H7.out, HS7.out, by rw [HMM.out, HL0.out]; exact World.ownsRow_nil _ _ _ _, fun k hk => by simp [Value.ownBlock] at hk⟩
      · have HL0 := Lib.hid hl0
        have HBL := Lib.hid hblk
        clear hl0 hblk
        go_wp2_with (at_builtin; refine wpList_append_lies _ rfl _ _ 22 rfl w.heap.size 9 i0 (.string ByteArray.empty) 1 16 Tryz.underlying22 hi0 hz0 hz1 hz2 rfl (by decide) (.slice none 0 0) 0 [] rfl (World.ownsRow_nil _ _ _ _) ⟨g, 0, none⟩ 1 1 [.string k] rfl rfl (World.news_of_block (cs := #[.string k]) HBL.out) (by simp [Value.oneCell']) (by omega) (by unfold maxLen; omega) (by omega) (HZ7.out) (w7.heap.size) rfl ?_; intro f' cf' w8 hown hgr hat hlt8; have hu8 : Upd (fun k => (Value.slice none 0 0).ownBlock = some k) w7 w8 := Upd.of_grown hgr; have HU8 := Lib.hid hu8; have HO8 := Lib.hid hown; have HA8 : Hid (f' = w7.heap.size) := Lib.hid (by rcases hat with h | h; simp [Value.ownBlock] at h; exact h); clear hu8 hown hgr hat hlt8)
        go_roundg 0
        case measure => omega
        case rel =>
          have hb8 : Below w7.heap.size w7 w8 := HU8.out.below (Nat.le_refl _) (fun i h => by simp [Value.ownBlock] at h)
          refine .inr ⟨rfl, _, by rw [HMM.out]; exact H7.out.below hb8, HS7.out.trans (Step.of_below hb8), by rw [HMM.out, HL0.out]; exact HO8.out, fun j hj hf => ?_⟩
          have h1 : f' = j := by simpa [Value.ownBlock] using hj
          have h2 := H7.out.lt j hf
          have h3 := HA8.out
          omega
    · rw [HMM.out] at he ho
      have hw := he.inv.r0
      have HE := Lib.hid he
      obtain ⟨v5, Fs5, kb5, db5, H5, hm, -⟩ := he
      have WN := Lib.hid (rwin_q hm hc2)
      obtain ⟨A, p, hr⟩ := hm.rs
      have e0 := hr.c0
      have HS := Lib.hid hs
      have HO := Lib.hid ho
      have HN := Lib.hid hn
      obtain ⟨gA, gc, rfl⟩ := own_form' ho
      have dp : decide (win c < (M.2.r 0).length) = false := by simp; omega
      obtain ⟨n0, hn0⟩ : ∃ n, (M.2.r 0).length = n := ⟨_, rfl⟩
      rw [hn0] at e0 dp hw
      clear hn0 hm hs ho hn hr
      generalize A 0 = a0 at *
      generalize p 0 = b0 at *
      go_wp2_with fail
      go_quiet ((go_at_call 65; exact Do.quiet_any (WN.out _)))
      go_wp2_with fail
      go_ret2
      have hb : Below wr.heap.size wr (wr.drewN nq) := below_drewN (Below.refl _ _) nq
      exact RGone.mk (f := fun v => .tuple #[.bool false, v]) rfl (HE.out.below hb) (HS.out.trans (Step.of_below hb)) (own_below HO.out hb) HN.out

theorem ref_access {K : Ks} (h : Ref w b F c K) {key : ByteArray} (hk : key.size ≤ 40) : Calls Tryz.prog 41 #[.pointer (some ⟨b, 0, none⟩), .string key] w (RAccPost b F c K key w) := by
  by_cases h0 : key ∈ K.r 0
  · exact racc_win h hk h0
  · by_cases h2 : key ∈ K.r 2
    · exact racc_prot h hk h2
    · by_cases h1 : key ∈ K.r 1
      · exact racc_prob h hk h1
      · exact racc_miss h hk h0 h1 h2
end

end Go.Proofs.YtkeicfajlmhajaaGreat.Rf

/- TinyLFU's reference in memory: Load. -/
namespace Go.Proofs.YtkeicfajlmhajaaGreat.Rf
open Go Go.RowKit Go.Proofs.YtkeicfajlmhajaaGreat.K Go.Proofs.YtkeicfajlmhajaaGreat.Sl Go.Proofs.YtkeicfajlmhajaaGreat.Eg
open Go.Proofs.YtkeicfajlmhajaaGreat.Li (more more_lt own_form' infoS)
open Go.Proofs.YtkeicfajlmhajaaGreat.Rw (upd upd_same upd_other less less_same cell_below cell_upd own_mono own_below)

section
variable {w w' : World} {b c : Nat} {F : Nat → Prop} {K : Ks}

set_option maxHeartbeats 800000 in
theorem rload_has (h : Ref w b F c K) {key : ByteArray} (hh : has K key = true) :
    Calls Tryz.prog 42 #[.pointer (some ⟨b, 0, none⟩), .string key] w fun e w' => e = .returned (.bool false) ∧ Below w.heap.size w w' := by
  have L := Lib.hid (ref_has (h.drewN 1) key)
  rw [hh] at L
  obtain ⟨v, Fs, kb, db, H, hm, -⟩ := h
  have c5 := hm.cells.2.2.2.2.2
  clear hm hh
  go_enter Tryz.func42, Tryz.ntmps42
  go_wp2_with fail
  refine wp_region_held_drew (S := fun w' => w'.cell? ⟨b, 5, none⟩ = some (.int .i64 (c : Int))) (by kernel_rfl) ?_ (fun hHeld => ?_)
  · exact c5
  refine wpAnyH_take (i := 0) (v := ?_) rfl (by kernel_rfl) (by kernel_rfl) (by kernel_rfl) (fun _ _ _ h => h) (Or.inl ⟨by rfl, ?_⟩) (by assumption) ?_
  rotate_left
  · (intro w hSw; (try dsimp only at hSw); go_simp; first | done | with_reducible rfl)
  simp only [Act.put, List.getElem_toArray, List.getElem_cons_zero, List.setIfInBounds_toArray, List.set_cons_zero, List.set_cons_succ]
  refine wpAnyH_take (i := 1) (v := ?_) rfl (by kernel_rfl) (by kernel_rfl) (by kernel_rfl) (fun _ _ _ h => h) (Or.inl ⟨by rfl, ?_⟩) (by assumption) ?_
  rotate_left
  · (intro w hSw; (try dsimp only at hSw); go_simp; first | done | with_reducible rfl)
  simp only [Act.put, List.getElem_toArray, List.getElem_cons_zero, List.getElem_cons_succ, List.setIfInBounds_toArray, List.set_cons_zero, List.set_cons_succ]
  refine wpAnyH_ready (rs := [2]) (by kernel_rfl) (by simp) ?_
  refine AllReadyH.cons rfl (fun K hK => ?_) ?_
  rotate_left
  · exact AllReadyH.nil
  go_simp
  refine L.out.mono ?_; rintro e w1 ⟨rfl, rfl⟩; go_simp
  refine hK.out _ _ ?_ (fun hHeld => ?_)
  · exact c5
  clear hK K
  try simp only [Act.put, List.getElem_toArray, List.getElem_cons_zero, List.getElem_cons_succ, List.setIfInBounds_toArray, List.set_cons_zero, List.set_cons_succ]
  refine wpAnyH_take (i := 3) (v := ?_) rfl (by kernel_rfl) (by kernel_rfl) (by kernel_rfl) (fun _ _ _ h => h) (Or.inl ⟨by rfl, ?_⟩) (by assumption) ?_
  rotate_left
  · (intro w hSw; (try dsimp only at hSw); go_simp; first | done | with_reducible rfl)
  simp only [Act.put, List.getElem_toArray, List.getElem_cons_zero, List.getElem_cons_succ, List.setIfInBounds_toArray, List.set_cons_zero, List.set_cons_succ]
  refine wpAnyH_take (i := 4) (v := undef) rfl (by kernel_rfl) (by kernel_rfl) (by kernel_rfl) (fun _ _ _ h => h) (Or.inr ⟨by rfl, rfl⟩) (by assumption) ?_
  simp only [Act.put, List.getElem_toArray, List.getElem_cons_zero, List.getElem_cons_succ, List.setIfInBounds_toArray, List.set_cons_zero, List.set_cons_succ]
  refine wpAnyH_take (i := 5) (v := undef) rfl (by kernel_rfl) (by kernel_rfl) (by kernel_rfl) (fun _ _ _ h => h) (Or.inr ⟨by rfl, rfl⟩) (by assumption) ?_
  simp only [Act.put, List.getElem_toArray, List.getElem_cons_zero, List.getElem_cons_succ, List.setIfInBounds_toArray, List.set_cons_zero, List.set_cons_succ]
  refine wpAnyH_take (i := 6) (v := undef) rfl (by kernel_rfl) (by kernel_rfl) (by kernel_rfl) (fun _ _ _ h => h) (Or.inr ⟨by rfl, rfl⟩) (by assumption) ?_
  simp only [Act.put, List.getElem_toArray, List.getElem_cons_zero, List.getElem_cons_succ, List.setIfInBounds_toArray, List.set_cons_zero, List.set_cons_succ]
  refine wpAnyH_take (i := 7) (v := undef) rfl (by kernel_rfl) (by kernel_rfl) (by kernel_rfl) (fun _ _ _ h => h) (Or.inr ⟨by rfl, rfl⟩) (by assumption) ?_
  simp only [Act.put, List.getElem_toArray, List.getElem_cons_zero, List.getElem_cons_succ, List.setIfInBounds_toArray, List.set_cons_zero, List.set_cons_succ]
  refine wpAnyH_take (i := 8) (v := undef) rfl (by kernel_rfl) (by kernel_rfl) (by kernel_rfl) (fun _ _ _ h => h) (Or.inr ⟨by rfl, rfl⟩) (by assumption) ?_
  simp only [Act.put, List.getElem_toArray, List.getElem_cons_zero, List.getElem_cons_succ, List.setIfInBounds_toArray, List.set_cons_zero, List.set_cons_succ]
  refine wpAnyH_take (i := 9) (v := undef) rfl (by kernel_rfl) (by kernel_rfl) (by kernel_rfl) (fun _ _ _ h => h) (Or.inr ⟨by rfl, rfl⟩) (by assumption) ?_
  simp only [Act.put, List.getElem_toArray, List.getElem_cons_zero, List.getElem_cons_succ, List.setIfInBounds_toArray, List.set_cons_zero, List.set_cons_succ]
  refine wpAnyH_take (i := 10) (v := undef) rfl (by kernel_rfl) (by kernel_rfl) (by kernel_rfl) (fun _ _ _ h => h) (Or.inr ⟨by rfl, rfl⟩) (by assumption) ?_
  simp only [Act.put, List.getElem_toArray, List.getElem_cons_zero, List.getElem_cons_succ, List.setIfInBounds_toArray, List.set_cons_zero, List.set_cons_succ]
  refine wpAnyH_take (i := 11) (v := ?_) rfl (by kernel_rfl) (by kernel_rfl) (by kernel_rfl) (fun _ _ _ h => h) (Or.inl ⟨by rfl, ?_⟩) (by assumption) ?_
  rotate_left
  · (intro w hSw; (try dsimp only at hSw); go_simp; first | done | with_reducible rfl)
  simp only [Act.put, List.getElem_toArray, List.getElem_cons_zero, List.getElem_cons_succ, List.setIfInBounds_toArray, List.set_cons_zero, List.set_cons_succ]
  refine wpAnyH_done (by kernel_rfl) ?_ _
  go_wp2_with fail
  go_ret
  exact ⟨rfl, below_drewN (Below.refl _ _) 1⟩

set_option maxHeartbeats 800000 in
theorem rload_full (h : Ref w b F c K) {key : ByteArray} (hh : has K key = false) (hl : len K = c) :
    Calls Tryz.prog 42 #[.pointer (some ⟨b, 0, none⟩), .string key] w fun e w' => e = .returned (.bool false) ∧ Below w.heap.size w w' := by
  have L := Lib.hid (ref_has (h.drewN 1) key)
  have LN := Lib.hid (ref_len (h.drewN 1))
  rw [hh] at L
  rw [hl] at LN
  obtain ⟨v, Fs, kb, db, H, hm, -⟩ := h
  have c5 := hm.cells.2.2.2.2.2
  clear hm hh hl
  have dN : decide (c ≤ c) = true := by simp
  go_enter Tryz.func42, Tryz.ntmps42
  go_wp2_with fail
  refine wp_region_held_drew (S := fun w' => w'.cell? ⟨b, 5, none⟩ = some (.int .i64 (c : Int))) (by kernel_rfl) ?_ (fun hHeld => ?_)
  · exact c5
  refine wpAnyH_take (i := 0) (v := ?_) rfl (by kernel_rfl) (by kernel_rfl) (by kernel_rfl) (fun _ _ _ h => h) (Or.inl ⟨by rfl, ?_⟩) (by assumption) ?_
  rotate_left
  · (intro w hSw; (try dsimp only at hSw); go_simp; first | done | with_reducible rfl)
  simp only [Act.put, List.getElem_toArray, List.getElem_cons_zero, List.setIfInBounds_toArray, List.set_cons_zero, List.set_cons_succ]
  refine wpAnyH_take (i := 1) (v := ?_) rfl (by kernel_rfl) (by kernel_rfl) (by kernel_rfl) (fun _ _ _ h => h) (Or.inl ⟨by rfl, ?_⟩) (by assumption) ?_
  rotate_left
  · (intro w hSw; (try dsimp only at hSw); go_simp; first | done | with_reducible rfl)
  simp only [Act.put, List.getElem_toArray, List.getElem_cons_zero, List.getElem_cons_succ, List.setIfInBounds_toArray, List.set_cons_zero, List.set_cons_succ]
  refine wpAnyH_ready (rs := [2]) (by kernel_rfl) (by simp) ?_
  refine AllReadyH.cons rfl (fun K hK => ?_) ?_
  rotate_left
  · exact AllReadyH.nil
  go_simp
  refine L.out.mono ?_; rintro e w1 ⟨rfl, rfl⟩; go_simp
  refine hK.out _ _ ?_ (fun hHeld => ?_)
  · exact c5
  clear hK K
  try simp only [Act.put, List.getElem_toArray, List.getElem_cons_zero, List.getElem_cons_succ, List.setIfInBounds_toArray, List.set_cons_zero, List.set_cons_succ]
  refine wpAnyH_take (i := 3) (v := ?_) rfl (by kernel_rfl) (by kernel_rfl) (by kernel_rfl) (fun _ _ _ h => h) (Or.inl ⟨by rfl, ?_⟩) (by assumption) ?_
  rotate_left
  · (intro w hSw; (try dsimp only at hSw); go_simp; first | done | with_reducible rfl)
  simp only [Act.put, List.getElem_toArray, List.getElem_cons_zero, List.getElem_cons_succ, List.setIfInBounds_toArray, List.set_cons_zero, List.set_cons_succ]
  refine wpAnyH_take (i := 4) (v := ?_) rfl (by kernel_rfl) (by kernel_rfl) (by kernel_rfl) (fun _ _ _ h => h) (Or.inl ⟨by rfl, ?_⟩) (by assumption) ?_
  rotate_left
  · (intro w hSw; (try dsimp only at hSw); go_simp; first | done | with_reducible rfl)
  simp only [Act.put, List.getElem_toArray, List.getElem_cons_zero, List.getElem_cons_succ, List.setIfInBounds_toArray, List.set_cons_zero, List.set_cons_succ]
  refine wpAnyH_take (i := 6) (v := ?_) rfl (by kernel_rfl) (by kernel_rfl) (by kernel_rfl) (fun _ _ _ h => h) (Or.inl ⟨by rfl, ?_⟩) (by assumption) ?_
  rotate_left
  · (intro w hSw; (try dsimp only at hSw); go_simp; first | done | with_reducible rfl)
  simp only [Act.put, List.getElem_toArray, List.getElem_cons_zero, List.getElem_cons_succ, List.setIfInBounds_toArray, List.set_cons_zero, List.set_cons_succ]
  refine wpAnyH_take (i := 7) (v := ?_) rfl (by kernel_rfl) (by kernel_rfl) (by kernel_rfl) (fun _ _ _ h => h) (Or.inl ⟨by rfl, ?_⟩) (by assumption) ?_
  rotate_left
  · (intro w hSw; (try dsimp only at hSw); go_simp; first | done | with_reducible rfl)
  simp only [Act.put, List.getElem_toArray, List.getElem_cons_zero, List.getElem_cons_succ, List.setIfInBounds_toArray, List.set_cons_zero, List.set_cons_succ]
  refine wpAnyH_take (i := 8) (v := ?_) rfl (by kernel_rfl) (by kernel_rfl) (by kernel_rfl) (fun _ _ _ h => h) (Or.inl ⟨by rfl, ?_⟩) (by assumption) ?_
  rotate_left
  · (intro w hSw; (try dsimp only at hSw); go_simp; first | done | with_reducible rfl)
  simp only [Act.put, List.getElem_toArray, List.getElem_cons_zero, List.getElem_cons_succ, List.setIfInBounds_toArray, List.set_cons_zero, List.set_cons_succ]
  refine wpAnyH_take (i := 9) (v := ?_) rfl (by kernel_rfl) (by kernel_rfl) (by kernel_rfl) (fun _ _ _ h => h) (Or.inl ⟨by rfl, ?_⟩) (by assumption) ?_
  rotate_left
  · (intro w hSw; (try dsimp only at hSw); go_simp; first | done | with_reducible rfl)
  simp only [Act.put, List.getElem_toArray, List.getElem_cons_zero, List.getElem_cons_succ, List.setIfInBounds_toArray, List.set_cons_zero, List.set_cons_succ]
  refine wpAnyH_ready (rs := [5]) (by kernel_rfl) (by simp) ?_
  refine AllReadyH.cons rfl (fun K hK => ?_) ?_
  rotate_left
  · exact AllReadyH.nil
  go_simp
  refine LN.out.mono ?_; rintro e w2 ⟨rfl, hb2⟩; have p2 := cell_below (w := w.drew) hb2 c5; have HB2 := Lib.hid (below_on (w := w) (w1 := w) (Below.refl _ _) hb2); clear hb2; go_simp
  refine hK.out _ _ ?_ (fun hHeld => ?_)
  · exact p2
  clear hK K
  try simp only [Act.put, List.getElem_toArray, List.getElem_cons_zero, List.getElem_cons_succ, List.setIfInBounds_toArray, List.set_cons_zero, List.set_cons_succ]
  refine wpAnyH_take (i := 10) (v := ?_) rfl (by kernel_rfl) (by kernel_rfl) (by kernel_rfl) (fun _ _ _ h => h) (Or.inl ⟨by rfl, ?_⟩) (by assumption) ?_
  rotate_left
  · (intro w hSw; (try dsimp only at hSw); go_simp; first | done | with_reducible rfl)
  simp only [Act.put, List.getElem_toArray, List.getElem_cons_zero, List.getElem_cons_succ, List.setIfInBounds_toArray, List.set_cons_zero, List.set_cons_succ]
  refine wpAnyH_take (i := 11) (v := ?_) rfl (by kernel_rfl) (by kernel_rfl) (by kernel_rfl) (fun _ _ _ h => h) (Or.inl ⟨by rfl, ?_⟩) (by assumption) ?_
  rotate_left
  · (intro w hSw; (try dsimp only at hSw); go_simp; first | done | with_reducible rfl)
  simp only [Act.put, List.getElem_toArray, List.getElem_cons_zero, List.getElem_cons_succ, List.setIfInBounds_toArray, List.set_cons_zero, List.set_cons_succ]
  refine wpAnyH_done (by kernel_rfl) ?_ _
  go_wp2_with fail
  go_ret
  exact ⟨rfl, HB2.out⟩

set_option maxRecDepth 100000 in
set_option maxHeartbeats 1600000 in
theorem rload_new (h : Ref w b F c K) {key : ByteArray} (hk : key.size ≤ 40) (hh : has K key = false) (hl : len K ≠ c) :
    Calls Tryz.prog 42 #[.pointer (some ⟨b, 0, none⟩), .string key] w (Did (.bool true) b F c ⟨push K.r (if (K.r 1).length + (K.r 2).length < mainr c then 1 else 0) key, K.h⟩ w) := by
  have L := Lib.hid (ref_has (h.drewN 1) key)
  have LN := Lib.hid (ref_len (h.drewN 1))
  rw [hh] at L
  have hno : key ∉ res K := fun e => by rw [← has_iff, hh] at e; cases e
  rw [mem_res] at hno
  have hno' : ∀ q, q < 3 → key ∉ K.r q := fun q hq => by
    match q, hq with
    | 0, _ => exact fun a => hno (.inl a)
    | 1, _ => exact fun a => hno (.inr (.inl a))
    | 2, _ => exact fun a => hno (.inr (.inr a))
  have hi : Inv c ⟨push K.r (if (K.r 1).length + (K.r 2).length < mainr c then 1 else 0) key, K.h⟩ := by
    have := (load_facts h.inv hk).1
    unfold Eg.load at this
    rw [if_neg (by rw [hh]; rintro (e | e); cases e; exact hl e)] at this
    exact this
  have HU1 := Lib.hid (upd_push_new (r := 1) hno')
  have HU0 := Lib.hid (upd_push_new (r := 0) hno')
  have hrm := h.inv.room
  have hc1 := h.inv.c1
  have hc2 := h.inv.c2
  have HI := Lib.hid hi
  have hsm := small_rows h.inv
  have hm1 := hsm 1 (by omega)
  have hm2 := hsm 2 (by omega)
  have hm0 := hsm 0 (by omega)
  have hmr : mainr c ≤ 1024 := by unfold mainr; omega
  obtain ⟨v, Fs, kb, db, H, hm, -⟩ := h
  have c5 := hm.cells.2.2.2.2.2
  have HM := Lib.hid hm
  clear hm hh hi hno hno' hsm
  generalize len K = n at *
  have dN : decide (c ≤ n) = false := by simp; omega
  have LN0 : Hid ((K.r 0).length ≤ 1000000) := Lib.hid (by omega)
  have LN1 : Hid ((K.r 1).length ≤ 1000000) := Lib.hid (by omega)
  by_cases hlt : (K.r 1).length + (K.r 2).length < mainr c
  · rw [if_pos hlt] at HI ⊢
    go_enter Tryz.func42, Tryz.ntmps42
    go_wp2_with fail
    refine wp_region_held_drew (S := fun w' => w'.cell? ⟨b, 5, none⟩ = some (.int .i64 (c : Int))) (by kernel_rfl) ?_ (fun hHeld => ?_)
    · exact c5
    refine wpAnyH_take (i := 0) (v := ?_) rfl (by kernel_rfl) (by kernel_rfl) (by kernel_rfl) (fun _ _ _ h => h) (Or.inl ⟨by rfl, ?_⟩) (by assumption) ?_
    rotate_left
    · (intro w hSw; (try dsimp only at hSw); go_simp; first | done | with_reducible rfl)
    simp only [Act.put, List.getElem_toArray, List.getElem_cons_zero, List.setIfInBounds_toArray, List.set_cons_zero, List.set_cons_succ]
    refine wpAnyH_take (i := 1) (v := ?_) rfl (by kernel_rfl) (by kernel_rfl) (by kernel_rfl) (fun _ _ _ h => h) (Or.inl ⟨by rfl, ?_⟩) (by assumption) ?_
    rotate_left
    · (intro w hSw; (try dsimp only at hSw); go_simp; first | done | with_reducible rfl)
    simp only [Act.put, List.getElem_toArray, List.getElem_cons_zero, List.getElem_cons_succ, List.setIfInBounds_toArray, List.set_cons_zero, List.set_cons_succ]
    refine wpAnyH_ready (rs := [2]) (by kernel_rfl) (by simp) ?_
    refine AllReadyH.cons rfl (fun K hK => ?_) ?_
    rotate_left
    · exact AllReadyH.nil
    go_simp
    refine L.out.mono ?_; rintro e w1 ⟨rfl, rfl⟩; go_simp
    refine hK.out _ _ ?_ (fun hHeld => ?_)
    · exact c5
    clear hK K
    try simp only [Act.put, List.getElem_toArray, List.getElem_cons_zero, List.getElem_cons_succ, List.setIfInBounds_toArray, List.set_cons_zero, List.set_cons_succ]
    refine wpAnyH_take (i := 3) (v := ?_) rfl (by kernel_rfl) (by kernel_rfl) (by kernel_rfl) (fun _ _ _ h => h) (Or.inl ⟨by rfl, ?_⟩) (by assumption) ?_
    rotate_left
    · (intro w hSw; (try dsimp only at hSw); go_simp; first | done | with_reducible rfl)
    simp only [Act.put, List.getElem_toArray, List.getElem_cons_zero, List.getElem_cons_succ, List.setIfInBounds_toArray, List.set_cons_zero, List.set_cons_succ]
    refine wpAnyH_take (i := 4) (v := ?_) rfl (by kernel_rfl) (by kernel_rfl) (by kernel_rfl) (fun _ _ _ h => h) (Or.inl ⟨by rfl, ?_⟩) (by assumption) ?_
    rotate_left
    · (intro w hSw; (try dsimp only at hSw); go_simp; first | done | with_reducible rfl)
    simp only [Act.put, List.getElem_toArray, List.getElem_cons_zero, List.getElem_cons_succ, List.setIfInBounds_toArray, List.set_cons_zero, List.set_cons_succ]
    refine wpAnyH_take (i := 6) (v := ?_) rfl (by kernel_rfl) (by kernel_rfl) (by kernel_rfl) (fun _ _ _ h => h) (Or.inl ⟨by rfl, ?_⟩) (by assumption) ?_
    rotate_left
    · (intro w hSw; (try dsimp only at hSw); go_simp; first | done | with_reducible rfl)
    simp only [Act.put, List.getElem_toArray, List.getElem_cons_zero, List.getElem_cons_succ, List.setIfInBounds_toArray, List.set_cons_zero, List.set_cons_succ]
    refine wpAnyH_take (i := 7) (v := ?_) rfl (by kernel_rfl) (by kernel_rfl) (by kernel_rfl) (fun _ _ _ h => h) (Or.inl ⟨by rfl, ?_⟩) (by assumption) ?_
    rotate_left
    · (intro w hSw; (try dsimp only at hSw); go_simp; first | done | with_reducible rfl)
    simp only [Act.put, List.getElem_toArray, List.getElem_cons_zero, List.getElem_cons_succ, List.setIfInBounds_toArray, List.set_cons_zero, List.set_cons_succ]
    refine wpAnyH_take (i := 8) (v := ?_) rfl (by kernel_rfl) (by kernel_rfl) (by kernel_rfl) (fun _ _ _ h => h) (Or.inl ⟨by rfl, ?_⟩) (by assumption) ?_
    rotate_left
    · (intro w hSw; (try dsimp only at hSw); go_simp; first | done | with_reducible rfl)
    simp only [Act.put, List.getElem_toArray, List.getElem_cons_zero, List.getElem_cons_succ, List.setIfInBounds_toArray, List.set_cons_zero, List.set_cons_succ]
    refine wpAnyH_take (i := 9) (v := ?_) rfl (by kernel_rfl) (by kernel_rfl) (by kernel_rfl) (fun _ _ _ h => h) (Or.inl ⟨by rfl, ?_⟩) (by assumption) ?_
    rotate_left
    · (intro w hSw; (try dsimp only at hSw); go_simp; first | done | with_reducible rfl)
    simp only [Act.put, List.getElem_toArray, List.getElem_cons_zero, List.getElem_cons_succ, List.setIfInBounds_toArray, List.set_cons_zero, List.set_cons_succ]
    refine wpAnyH_ready (rs := [5]) (by kernel_rfl) (by simp) ?_
    refine AllReadyH.cons rfl (fun K hK => ?_) ?_
    rotate_left
    · exact AllReadyH.nil
    go_simp
    refine LN.out.mono ?_; rintro e w2 ⟨rfl, hb2⟩; have p2 := cell_below (w := w.drew) hb2 c5; have HB2 := Lib.hid (below_on (w := w) (w1 := w) (Below.refl _ _) hb2); clear hb2; go_simp
    refine hK.out _ _ ?_ (fun hHeld => ?_)
    · exact p2
    clear hK K
    try simp only [Act.put, List.getElem_toArray, List.getElem_cons_zero, List.getElem_cons_succ, List.setIfInBounds_toArray, List.set_cons_zero, List.set_cons_succ]
    refine wpAnyH_take (i := 10) (v := ?_) rfl (by kernel_rfl) (by kernel_rfl) (by kernel_rfl) (fun _ _ _ h => h) (Or.inl ⟨by rfl, ?_⟩) (by assumption) ?_
    rotate_left
    · (intro w hSw; (try dsimp only at hSw); go_simp; first | done | with_reducible rfl)
    simp only [Act.put, List.getElem_toArray, List.getElem_cons_zero, List.getElem_cons_succ, List.setIfInBounds_toArray, List.set_cons_zero, List.set_cons_succ]
    refine wpAnyH_take (i := 11) (v := ?_) rfl (by kernel_rfl) (by kernel_rfl) (by kernel_rfl) (fun _ _ _ h => h) (Or.inl ⟨by rfl, ?_⟩) (by assumption) ?_
    rotate_left
    · (intro w hSw; (try dsimp only at hSw); go_simp; first | done | with_reducible rfl)
    simp only [Act.put, List.getElem_toArray, List.getElem_cons_zero, List.getElem_cons_succ, List.setIfInBounds_toArray, List.set_cons_zero, List.set_cons_succ]
    refine wpAnyH_done (by kernel_rfl) ?_ _
    have HM2 := Lib.hid (HM.out.below HB2.out)
    have MN := Lib.hid (rmain_q HM2.out hc1 hc2)
    obtain ⟨A, p, hs⟩ := HM2.out.rs
    have d1 := hs.c1
    have d2 := hs.c2
    have hv1 := hs.v_ 1 (by omega)
    clear hs
    generalize A 1 = A1 at *
    generalize p 1 = p1 at *
    generalize A 2 = A2 at *
    generalize p 2 = p2' at *
    have HV1 := Lib.hid hv1
    clear hv1
    obtain ⟨n1, hn1⟩ : ∃ n, (K.r 1).length = n := ⟨_, rfl⟩
    obtain ⟨n2, hn2⟩ : ∃ n, (K.r 2).length = n := ⟨_, rfl⟩
    rw [hn1] at d1 HV1 hlt hm1
    rw [hn2] at d2 hlt hm2
    clear hn1 hn2
    generalize mainr c = mr at *
    have w12 : IntKind.i64.wrap ((n1 : Int) + (n2 : Int)) = (n1 : Int) + (n2 : Int) := IntWalk.i64_in _ (by omega)
    have v12 : wrap64 ((n1 : Int) + (n2 : Int)) = (n1 : Int) + (n2 : Int) := by unfold wrap64; omega
    have d12 : (n1 : Int) + (n2 : Int) < (mr : Int) := by omega
    go_wp2_with fail
    go_quiet ((go_at_call 67; exact Do.quiet_any (MN.out _)))
    have HM3 := Lib.hid (HM2.out.drewN nq)
    have sl := HM3.out.sl 1 (by omega)
    rw [HV1.out] at sl
    have SL := Lib.hid sl
    have LT := Lib.hid (HM3.out.lt 1 (by omega))
    have cf := HM3.out.wr
    clear sl
    go_wp2_with (at_builtin; refine wpList_push rfl _ _ rfl SL.out LN1.out LT.out key 1 _ rfl rfl rfl ?_; intro v' w5 hp; obtain ⟨A'', c'', hv, -⟩ := hp.sl.form; subst hv; have HP := Lib.hid hp; have HB5 := Lib.hid (hp.upd.get HM3.out.blk (HM3.out.nb 1 (by omega))); have q1 := cell_of HB5.out 1; have qf := free_of HB5.out; clear hp)
    go_ret
    have h9 := (HM3.out.pushed (r := 1) (by omega) HP.out).same HU1.out
    first
      | exact ⟨rfl, _, RM.done (K := ⟨push K.r 1 key, K.h⟩) h9 HI.out⟩
      | (rw [List.length_append, List.length_singleton] at h9; exact ⟨rfl, _, RM.done (K := ⟨push K.r 1 key, K.h⟩) h9 HI.out⟩)
  · rw [if_neg hlt] at HI ⊢
    go_enter Tryz.func42, Tryz.ntmps42
    go_wp2_with fail
    refine wp_region_held_drew (S := fun w' => w'.cell? ⟨b, 5, none⟩ = some (.int .i64 (c : Int))) (by kernel_rfl) ?_ (fun hHeld => ?_)
    · exact c5
    refine wpAnyH_take (i := 0) (v := ?_) rfl (by kernel_rfl) (by kernel_rfl) (by kernel_rfl) (fun _ _ _ h => h) (Or.inl ⟨by rfl, ?_⟩) (by assumption) ?_
    rotate_left
    · (intro w hSw; (try dsimp only at hSw); go_simp; first | done | with_reducible rfl)
    simp only [Act.put, List.getElem_toArray, List.getElem_cons_zero, List.setIfInBounds_toArray, List.set_cons_zero, List.set_cons_succ]
    refine wpAnyH_take (i := 1) (v := ?_) rfl (by kernel_rfl) (by kernel_rfl) (by kernel_rfl) (fun _ _ _ h => h) (Or.inl ⟨by rfl, ?_⟩) (by assumption) ?_
    rotate_left
    · (intro w hSw; (try dsimp only at hSw); go_simp; first | done | with_reducible rfl)
    simp only [Act.put, List.getElem_toArray, List.getElem_cons_zero, List.getElem_cons_succ, List.setIfInBounds_toArray, List.set_cons_zero, List.set_cons_succ]
    refine wpAnyH_ready (rs := [2]) (by kernel_rfl) (by simp) ?_
    refine AllReadyH.cons rfl (fun K hK => ?_) ?_
    rotate_left
    · exact AllReadyH.nil
    go_simp
    refine L.out.mono ?_; rintro e w1 ⟨rfl, rfl⟩; go_simp
    refine hK.out _ _ ?_ (fun hHeld => ?_)
    · exact c5
    clear hK K
    try simp only [Act.put, List.getElem_toArray, List.getElem_cons_zero, List.getElem_cons_succ, List.setIfInBounds_toArray, List.set_cons_zero, List.set_cons_succ]
    refine wpAnyH_take (i := 3) (v := ?_) rfl (by kernel_rfl) (by kernel_rfl) (by kernel_rfl) (fun _ _ _ h => h) (Or.inl ⟨by rfl, ?_⟩) (by assumption) ?_
    rotate_left
    · (intro w hSw; (try dsimp only at hSw); go_simp; first | done | with_reducible rfl)
    simp only [Act.put, List.getElem_toArray, List.getElem_cons_zero, List.getElem_cons_succ, List.setIfInBounds_toArray, List.set_cons_zero, List.set_cons_succ]
    refine wpAnyH_take (i := 4) (v := ?_) rfl (by kernel_rfl) (by kernel_rfl) (by kernel_rfl) (fun _ _ _ h => h) (Or.inl ⟨by rfl, ?_⟩) (by assumption) ?_
    rotate_left
    · (intro w hSw; (try dsimp only at hSw); go_simp; first | done | with_reducible rfl)
    simp only [Act.put, List.getElem_toArray, List.getElem_cons_zero, List.getElem_cons_succ, List.setIfInBounds_toArray, List.set_cons_zero, List.set_cons_succ]
    refine wpAnyH_take (i := 6) (v := ?_) rfl (by kernel_rfl) (by kernel_rfl) (by kernel_rfl) (fun _ _ _ h => h) (Or.inl ⟨by rfl, ?_⟩) (by assumption) ?_
    rotate_left
    · (intro w hSw; (try dsimp only at hSw); go_simp; first | done | with_reducible rfl)
    simp only [Act.put, List.getElem_toArray, List.getElem_cons_zero, List.getElem_cons_succ, List.setIfInBounds_toArray, List.set_cons_zero, List.set_cons_succ]
    refine wpAnyH_take (i := 7) (v := ?_) rfl (by kernel_rfl) (by kernel_rfl) (by kernel_rfl) (fun _ _ _ h => h) (Or.inl ⟨by rfl, ?_⟩) (by assumption) ?_
    rotate_left
    · (intro w hSw; (try dsimp only at hSw); go_simp; first | done | with_reducible rfl)
    simp only [Act.put, List.getElem_toArray, List.getElem_cons_zero, List.getElem_cons_succ, List.setIfInBounds_toArray, List.set_cons_zero, List.set_cons_succ]
    refine wpAnyH_take (i := 8) (v := ?_) rfl (by kernel_rfl) (by kernel_rfl) (by kernel_rfl) (fun _ _ _ h => h) (Or.inl ⟨by rfl, ?_⟩) (by assumption) ?_
    rotate_left
    · (intro w hSw; (try dsimp only at hSw); go_simp; first | done | with_reducible rfl)
    simp only [Act.put, List.getElem_toArray, List.getElem_cons_zero, List.getElem_cons_succ, List.setIfInBounds_toArray, List.set_cons_zero, List.set_cons_succ]
    refine wpAnyH_take (i := 9) (v := ?_) rfl (by kernel_rfl) (by kernel_rfl) (by kernel_rfl) (fun _ _ _ h => h) (Or.inl ⟨by rfl, ?_⟩) (by assumption) ?_
    rotate_left
    · (intro w hSw; (try dsimp only at hSw); go_simp; first | done | with_reducible rfl)
    simp only [Act.put, List.getElem_toArray, List.getElem_cons_zero, List.getElem_cons_succ, List.setIfInBounds_toArray, List.set_cons_zero, List.set_cons_succ]
    refine wpAnyH_ready (rs := [5]) (by kernel_rfl) (by simp) ?_
    refine AllReadyH.cons rfl (fun K hK => ?_) ?_
    rotate_left
    · exact AllReadyH.nil
    go_simp
    refine LN.out.mono ?_; rintro e w2 ⟨rfl, hb2⟩; have p2 := cell_below (w := w.drew) hb2 c5; have HB2 := Lib.hid (below_on (w := w) (w1 := w) (Below.refl _ _) hb2); clear hb2; go_simp
    refine hK.out _ _ ?_ (fun hHeld => ?_)
    · exact p2
    clear hK K
    try simp only [Act.put, List.getElem_toArray, List.getElem_cons_zero, List.getElem_cons_succ, List.setIfInBounds_toArray, List.set_cons_zero, List.set_cons_succ]
    refine wpAnyH_take (i := 10) (v := ?_) rfl (by kernel_rfl) (by kernel_rfl) (by kernel_rfl) (fun _ _ _ h => h) (Or.inl ⟨by rfl, ?_⟩) (by assumption) ?_
    rotate_left
    · (intro w hSw; (try dsimp only at hSw); go_simp; first | done | with_reducible rfl)
    simp only [Act.put, List.getElem_toArray, List.getElem_cons_zero, List.getElem_cons_succ, List.setIfInBounds_toArray, List.set_cons_zero, List.set_cons_succ]
    refine wpAnyH_take (i := 11) (v := ?_) rfl (by kernel_rfl) (by kernel_rfl) (by kernel_rfl) (fun _ _ _ h => h) (Or.inl ⟨by rfl, ?_⟩) (by assumption) ?_
    rotate_left
    · (intro w hSw; (try dsimp only at hSw); go_simp; first | done | with_reducible rfl)
    simp only [Act.put, List.getElem_toArray, List.getElem_cons_zero, List.getElem_cons_succ, List.setIfInBounds_toArray, List.set_cons_zero, List.set_cons_succ]
    refine wpAnyH_done (by kernel_rfl) ?_ _
    have HM2 := Lib.hid (HM.out.below HB2.out)
    have MN := Lib.hid (rmain_q HM2.out hc1 hc2)
    obtain ⟨A, p, hs⟩ := HM2.out.rs
    have d0 := hs.c0
    have d1 := hs.c1
    have d2 := hs.c2
    have hv0 := hs.v_ 0 (by omega)
    clear hs
    generalize A 0 = A0 at *
    generalize p 0 = p0 at *
    generalize A 1 = A1 at *
    generalize p 1 = p1 at *
    generalize A 2 = A2 at *
    generalize p 2 = p2' at *
    have HV0 := Lib.hid hv0
    clear hv0
    obtain ⟨n1, hn1⟩ : ∃ n, (K.r 1).length = n := ⟨_, rfl⟩
    obtain ⟨n2, hn2⟩ : ∃ n, (K.r 2).length = n := ⟨_, rfl⟩
    rw [hn1] at d1 hlt hm1
    rw [hn2] at d2 hlt hm2
    clear hn1 hn2
    generalize mainr c = mr at *
    have w12 : IntKind.i64.wrap ((n1 : Int) + (n2 : Int)) = (n1 : Int) + (n2 : Int) := IntWalk.i64_in _ (by omega)
    have v12 : wrap64 ((n1 : Int) + (n2 : Int)) = (n1 : Int) + (n2 : Int) := by unfold wrap64; omega
    have d12 : ¬ (n1 : Int) + (n2 : Int) < (mr : Int) := by omega
    go_wp2_with fail
    go_quiet ((go_at_call 67; exact Do.quiet_any (MN.out _)))
    have HM3 := Lib.hid (HM2.out.drewN nq)
    have sl := HM3.out.sl 0 (by omega)
    rw [HV0.out] at sl
    have SL := Lib.hid sl
    have LT := Lib.hid (HM3.out.lt 0 (by omega))
    have cf := HM3.out.wr
    clear sl
    go_wp2_with (at_builtin; refine wpList_push rfl _ _ rfl SL.out LN0.out LT.out key 1 _ rfl rfl rfl ?_; intro v' w5 hp; obtain ⟨A'', c'', hv, -⟩ := hp.sl.form; subst hv; have HP := Lib.hid hp; have HB5 := Lib.hid (hp.upd.get HM3.out.blk (HM3.out.nb 0 (by omega))); have q1 := cell_of HB5.out 0; have qf := free_of HB5.out; clear hp)
    go_ret
    have h9 := (HM3.out.pushed (r := 0) (by omega) HP.out).same HU0.out
    first
      | exact ⟨rfl, _, RM.done (K := ⟨push K.r 0 key, K.h⟩) h9 HI.out⟩
      | (rw [List.length_append, List.length_singleton] at h9; exact ⟨rfl, _, RM.done (K := ⟨push K.r 0 key, K.h⟩) h9 HI.out⟩)

theorem ref_load (h : Ref w b F c K) {key : ByteArray} (hk : key.size ≤ 40) :
    Calls Tryz.prog 42 #[.pointer (some ⟨b, 0, none⟩), .string key] w (Did (.bool (Eg.load c K key).1) b F c (Eg.load c K key).2 w) := by
  unfold Eg.load
  cases hh : has K key with
  | true =>
    rw [if_pos (.inl rfl)]
    exact (rload_has h hh).mono fun _ _ ⟨h1, h2⟩ => ⟨h1, F, h.below h2, Step.of_below h2⟩
  | false =>
    by_cases hl : len K = c
    · rw [if_pos (.inr hl)]
      exact (rload_full h hh hl).mono fun _ _ ⟨h1, h2⟩ => ⟨h1, F, h.below h2, Step.of_below h2⟩
    · rw [if_neg (by rintro (e | e); cases e; exact hl e)]
      exact rload_new h hk hh hl
end

end Go.Proofs.YtkeicfajlmhajaaGreat.Rf
