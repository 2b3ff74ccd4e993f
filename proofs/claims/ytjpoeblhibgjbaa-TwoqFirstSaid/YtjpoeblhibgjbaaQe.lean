/- 2Q in memory: Evict in any case, reclaims, Access. -/
import Derived.Test.YtjpoeblhibgjbaaQd
import Derived.Test.YtjpoeblhibgjbaaQb
namespace Go.Proofs.Ytjpoeblhibgjbaa.Eg
open Go Go.RowKit Go.Proofs.Ytjpoeblhibgjbaa.K
open Go.Proofs.Ytjpoeblhibgjbaa.Li (more more_lt own_form')
open Go.Proofs.Ytjpoeblhibgjbaa.Rw

section
variable {w : World} {b c : Nat} {F : Nat → Prop} {K : Ks}

/-- An act's end: what it says, the engine as K', its memory where it was, or new. -/
def Did (v : Value) (b : Nat) (F : Nat → Prop) (c : Nat) (K' : Ks) (w : World) (e : Ending) (w' : World) : Prop :=
  e = .returned v ∧ ∃ F', Eng w' b F' c K' ∧ Step F w F' w'
theorem Act.did {v : Value} {K' : Ks} {e : Ending} {w' : World} (h : Act v b F c K' w e w') : Did v b F c K' w e w' :=
  ⟨h.1, _, h.2.1, more_eq h.2.2⟩
theorem Did.of_below {v : Value} {e : Ending} {w' : World} (h : Eng w b F c K) (he : e = .returned v) (hb : Below w.heap.size w w') : Did v b F c K w e w' :=
  ⟨he, F, h.below hb, Step.of_below hb⟩

theorem eng_evict (h : Eng w b F c K) :
    Calls Try.prog 28 #[.pointer (some ⟨b, 0, none⟩)] w (Did (.tuple #[.string (evict c K).1, .bool (evict c K).2.1]) b F c (evict c K).2.2 w) := by
  rcases evict_cases h.inv with ⟨h0, he⟩ | ⟨-, k, t, h1, h2, he, -⟩ | ⟨-, h1, k, t, h2, he, -⟩
  · rw [he]
    exact (evict_none h h0).mono fun _ _ ⟨h1, h2⟩ => Did.of_below h h1 h2
  · rw [he]
    exact (evict_am h h1 h2).mono fun _ _ h => h.did
  · rw [he]
    exact (evict_in h h1 h2).mono fun _ _ h => h.did

theorem eng_evict_nil (w : World) : Calls Try.prog 28 #[.pointer none] w fun e w' => e = .returned (.tuple #[.string ByteArray.empty, .bool false]) ∧ w = w' := by
  have L := Lib.hid (eng_len_nil w)
  go_enter Try.func28, Try.ntmps28
  go_wp2_with fail
  refine L.out.mono ?_
  rintro e w4 ⟨rfl, rfl⟩
  go_wp2_with fail
  go_ret2
  exact ⟨rfl, rfl⟩

/-- The same, and texts that are their own. -/
def Gone (l : List ByteArray) (mk : Value → Value) (b : Nat) (F : Nat → Prop) (c : Nat) (K' : Ks) (w : World) (e : Ending) (w' : World) : Prop :=
  ∃ v F', e = .returned (mk v) ∧ Eng w' b F' c K' ∧ Step F w F' w' ∧ w'.ownsRow w.heap.size 9 1 v l.length (l.map .string) ∧ ∀ k, v.ownBlock = some k → ¬ F' k

theorem eng_recl (h : Eng w b F c K) : Calls Try.prog 44 #[.pointer (some ⟨b, 0, none⟩)] w (Gone (recl c K).1 id b F c (recl c K).2 w) := by
  have L := Lib.hid (eng_len (h.drewN 1))
  have hm1 := h.inv.room
  obtain ⟨s, cap, bx, G, hm⟩ := h.mid
  obtain ⟨c0, c1, c2, c3, c4⟩ := hm.cells
  have HE := Lib.hid h
  have EV := Lib.hid (fun w1 (h : Eng w1 b F c K) => eng_evict h)
  have hl1 := h.inv.len1
  have hc := h.inv.c2
  clear hm h
  unfold recl
  by_cases hl : len K < c
  · rw [if_pos hl]
    have dL : decide (len K < c) = true := by simpa using hl
    generalize len K = n at *
    go_enter Try.func44, Try.ntmps44
    go_wp2_with fail
    go_region_held3 (fun w' => w'.cell? ⟨b, 2, none⟩ = some (.int .i64 (c : Int)))
      (first | (go_keep; done) | assumption)
      (first | (go_at_call 20; refine L.out.mono ?_; rintro e w1 ⟨rfl, hb1⟩; have q2 := cell_below (w := w.drew) hb1 c2; have HB1 := Lib.hid hb1; clear hb1))
    go_wp2_with fail
    go_ret
    have hb : Below w.heap.size w w1 := (below_drewN (Below.refl _ _) 1).trans HB1.out
    exact ⟨.slice none 0 0, F, rfl, HE.out.below hb, Step.of_below hb, World.ownsRow_nil _ _ _ _, fun k hk => by simp [Value.ownBlock] at hk⟩
  · rw [if_neg hl]
    have dL : decide (len K < c) = false := by simpa using hl
    generalize len K = n at *
    go_enter Try.func44, Try.ntmps44
    go_wp2_with fail
    go_region_held3 (fun w' => w'.cell? ⟨b, 2, none⟩ = some (.int .i64 (c : Int)))
      (first | (go_keep; done) | assumption)
      (first | (go_at_call 20; refine L.out.mono ?_; rintro e w1 ⟨rfl, hb1⟩; have q2 := cell_below (w := w.drew) hb1 c2; have HB1 := Lib.hid hb1; clear hb1))
    go_wp2_with fail
    have hb : Below w.heap.size w w1 := (below_drewN (Below.refl _ _) 1).trans HB1.out
    have HB := Lib.hid hb
    have h1 := HE.out.below hb
    clear hb
    refine (EV.out w1 h1).mono ?_
    rintro e w2 ⟨rfl, F2, h2, hs2⟩
    have H2 := Lib.hid h2
    have HS2 := Lib.hid hs2
    clear h1 h2 hs2
    generalize (evict c K).1 = k at *
    generalize (evict c K).2.1 = ok at *
    go_wp2_with fail
    go_ret
    have hb2 : Below w2.heap.size w2 (w2.alloc (.cells #[.string k] 9)) := (Below.refl _ _).alloc (Nat.le_refl _) _
    have hs := (Step.of_below (F := F) HB.out).trans (HS2.out.trans (Step.of_below (F := F2) hb2))
    refine ⟨.slice (some ⟨w2.heap.size, 0, none⟩) 1 1, F2, rfl, H2.out.below hb2, hs, own_mono (World.ownsRow_lit w2 #[.string k] 1 (Nat.le_refl _) (by unfold maxLen; omega) rfl) ?_, ?_⟩
    · exact Nat.le_trans HB.out.size HS2.out.upd.size
    · intro j hj hf
      have : w2.heap.size = j := by simpa [Value.ownBlock] using hj
      have := H2.out.lt j hf
      omega

theorem lens {c : Nat} {K : Ks} (h : Inv c K) : ∀ q, q < 3 → (K q).length ≤ 80000 := fun q hq => by
  have := h.len1
  match q, hq with
  | 0, _ => omega
  | 1, _ => omega
  | 2, _ => omega

/-- What Access says and leaves. -/
def AccPost (b : Nat) (F : Nat → Prop) (c : Nat) (K : Ks) (key : ByteArray) (w : World) (e : Ending) (w' : World) : Prop :=
  Gone (access c K key).2.1 (fun v => .tuple #[.bool (access c K key).1, v]) b F c (access c K key).2.2 w e w'

theorem Gone.mk {l : List ByteArray} {f : Value → Value} {K' : Ks} {w w' : World} {e : Ending} {v : Value} {F' : Nat → Prop} (he : e = .returned (f v)) (h1 : Eng w' b F' c K') (h2 : Step F w F' w') (h3 : w'.ownsRow w.heap.size 9 1 v l.length (l.map .string)) (h4 : ∀ k, v.ownBlock = some k → ¬ F' k) : Gone l f b F c K' w e w' :=
  ⟨v, F', he, h1, h2, h3, h4⟩

set_option maxHeartbeats 800000 in
theorem acc_am (h : Eng w b F c K) {key : ByteArray} (hk : key.size ≤ 40) (h2 : key ∈ K 2) : Calls Try.prog 19 #[.pointer (some ⟨b, 0, none⟩), .string key] w (AccPost b F c K key w) := by
  have hi' := (access_facts h.inv hk).inv
  have hi := h.inv
  have e : access c K key = (true, [], push K 2 key) := by unfold access; rw [if_pos h2]
  unfold AccPost
  rw [e] at hi' ⊢
  have hr : row K key = 2 := by
    unfold row
    rw [if_neg (fun a => by have := hi.once 0 2 (by omega) (by omega) key a h2; omega), if_neg (fun a => by have := hi.once 1 2 (by omega) (by omega) key a h2; omega), if_pos h2]
  obtain ⟨s, cap, bx, G, hm⟩ := h.mid
  obtain ⟨c0, c1, c2, c3, c4⟩ := hm.cells
  have W := Lib.hid (where_at hm.rows (Below.refl _ _) (key := key) (by omega))
  rw [hr] at W
  have HM := Lib.hid hm
  have HL := Lib.hid (lens hi)
  have HI := Lib.hid hi'
  clear hm hi hi' e hr h h2
  go_enter Try.func19, Try.ntmps19
  go_wp2_with fail
  refine W.out.mono ?_
  rintro e w1 ⟨rfl, hb1⟩
  have HM1 := Lib.hid (HM.out.below hb1)
  obtain ⟨d0, d1, d2, d3, d4⟩ := HM1.out.cells
  clear hb1
  go_wp2_with fail
  refine (push_at' HM1.out.rows hk 2 (by omega) (z := 2) rfl HL.out).mono ?_
  rintro e w2 ⟨rfl, H2, hr2, hs2⟩
  have HM2 := Lib.hid (HM1.out.next hr2 hs2)
  clear hr2 hs2
  go_wp2_with fail
  go_ret2
  obtain ⟨h1, h2⟩ := HM2.out.done HI.out
  exact Gone.mk (v := .slice none 0 0) rfl h1 (more_eq h2) (World.ownsRow_nil _ _ _ _) (fun k hk => by simp [Value.ownBlock] at hk)

theorem acc_in (h : Eng w b F c K) {key : ByteArray} (hk : key.size ≤ 40) (h0 : key ∈ K 0) : Calls Try.prog 19 #[.pointer (some ⟨b, 0, none⟩), .string key] w (AccPost b F c K key w) := by
  have hi := h.inv
  have e : access c K key = (true, [], K) := by
    unfold access
    rw [if_neg (fun a => by have := hi.once 0 2 (by omega) (by omega) key h0 a; omega), if_pos h0]
  unfold AccPost
  rw [e]
  have hr : row K key = 0 := by unfold row; rw [if_pos h0]
  have HE := Lib.hid h
  obtain ⟨s, cap, bx, G, hm⟩ := h.mid
  obtain ⟨c0, c1, c2, c3, c4⟩ := hm.cells
  have W := Lib.hid (where_at hm.rows (Below.refl _ _) (key := key) (by omega))
  rw [hr] at W
  clear hm hi e hr h h0
  go_enter Try.func19, Try.ntmps19
  go_wp2_with fail
  refine W.out.mono ?_
  rintro e w1 ⟨rfl, hb1⟩
  have HB1 := Lib.hid hb1
  clear hb1
  go_wp2_with fail
  go_ret2
  exact Gone.mk (v := .slice none 0 0) rfl (HE.out.below HB1.out) (Step.of_below HB1.out) (World.ownsRow_nil _ _ _ _) (fun k hk => by simp [Value.ownBlock] at hk)

/-- The end of an Access that made room and pushes the key. -/
theorem gone_push {s cap bx : Nat} {F1 G H2 : Nat → Prop} {K2 : Ks} {l : List ByteArray} {v : Value} {w1 w2 : World}
    (hs : Step F w F1 w1) (ho : w1.ownsRow w.heap.size 9 1 v l.length (l.map .string)) (hn : ∀ k, v.ownBlock = some k → ¬ F1 k)
    (hm : Mid w1 b s cap bx c F1 G H2 K2 w2) (hi : Inv c K2) (f : Value → Value) : Gone l f b F c K2 w (.returned (f v)) w2 := by
  obtain ⟨h1, h2⟩ := hm.done hi
  refine Gone.mk (v := v) rfl h1 (hs.trans (more_eq h2)) (own_upd ho h2 hn) ?_
  rintro k hk (hf | hf)
  · exact hn k hk hf
  · have := (ho.lt k hk).2
    have := hf.1
    omega

set_option maxHeartbeats 800000 in
theorem acc_new (h : Eng w b F c K) {key : ByteArray} (hk : key.size ≤ 40) (h0 : key ∉ K 0) (h1 : key ∉ K 1) (h2 : key ∉ K 2) : Calls Try.prog 19 #[.pointer (some ⟨b, 0, none⟩), .string key] w (AccPost b F c K key w) := by
  have hi' := (access_facts h.inv hk).inv
  have e : access c K key = (false, (recl c K).1, push (recl c K).2 0 key) := by unfold access; rw [if_neg h2, if_neg h0, if_neg h1]
  unfold AccPost
  rw [e] at hi' ⊢
  have hr : row K key = -1 := by unfold row; rw [if_neg h0, if_neg h1, if_neg h2]
  have HE := Lib.hid h
  have RC := Lib.hid (fun w1 (h : Eng w1 b F c K) => eng_recl h)
  obtain ⟨s, cap, bx, G, hm⟩ := h.mid
  obtain ⟨c0, c1, c2, c3, c4⟩ := hm.cells
  have W := Lib.hid (where_at hm.rows (Below.refl _ _) (key := key) (by omega))
  rw [hr] at W
  have HI := Lib.hid hi'
  clear hm hi' e hr h h0 h1 h2
  generalize (recl c K).1 = l at *
  generalize (recl c K).2 = K1 at *
  go_enter Try.func19, Try.ntmps19
  go_wp2_with fail
  refine W.out.mono ?_
  rintro e w1 ⟨rfl, hb1⟩
  have HB1 := Lib.hid hb1
  clear hb1
  go_wp2_with fail
  refine (RC.out w1 (HE.out.below HB1.out)).mono ?_
  rintro e w2 ⟨v, F1, rfl, he, hs, ho, hn⟩
  have HS := Lib.hid ((Step.of_below (F := F) HB1.out).trans hs)
  have HO := Lib.hid (own_mono ho HB1.out.size)
  have HN := Lib.hid hn
  have HL := Lib.hid (lens he.inv)
  obtain ⟨s, cap, bx, G, hm⟩ := he.mid
  obtain ⟨d0, d1, d2, d3, d4⟩ := hm.cells
  have HM := Lib.hid hm
  clear hs ho hn he hm
  simp only [id]
  go_wp2_with fail
  refine (push_at' HM.out.rows hk 0 (by omega) (z := 0) rfl HL.out).mono ?_
  rintro e w3 ⟨rfl, H3, hr3, hs3⟩
  have HM3 := Lib.hid (HM.out.next hr3 hs3)
  clear hr3 hs3
  go_wp2_with fail
  go_ret2
  exact gone_push HS.out HO.out HN.out HM3.out HI.out (fun v => .tuple #[.bool false, v])

set_option maxHeartbeats 800000 in
theorem acc_out (h : Eng w b F c K) {key : ByteArray} (hk : key.size ≤ 40) (h0 : key ∉ K 0) (h1 : key ∈ K 1) (h2 : key ∉ K 2) : Calls Try.prog 19 #[.pointer (some ⟨b, 0, none⟩), .string key] w (AccPost b F c K key w) := by
  have hi' := (access_facts h.inv hk).inv
  have hil := h.inv.less key
  have e : access c K key = (false, (recl c (less K key)).1, push (recl c (less K key)).2 2 key) := by unfold access; rw [if_neg h2, if_neg h0, if_pos h1]
  unfold AccPost
  rw [e] at hi' ⊢
  have hr : row K key = 1 := by unfold row; rw [if_neg h0, if_pos h1]
  have RC := Lib.hid (fun F1 w1 (h : Eng w1 b F1 c (less K key)) => eng_recl h)
  obtain ⟨s, cap, bx, G, hm⟩ := h.mid
  obtain ⟨c0, c1, c2, c3, c4⟩ := hm.cells
  have W := Lib.hid (where_at hm.rows (Below.refl _ _) (key := key) (by omega))
  rw [hr] at W
  have HI := Lib.hid hi'
  have HIL := Lib.hid hil
  have HM0 := Lib.hid hm
  clear hm hi' e hr h h0 h1 h2 hil
  generalize (recl c (less K key)).1 = l at *
  generalize (recl c (less K key)).2 = K1 at *
  go_enter Try.func19, Try.ntmps19
  go_wp2_with fail
  refine W.out.mono ?_
  rintro e w1 ⟨rfl, hb1⟩
  have HM1 := Lib.hid (HM0.out.below hb1)
  obtain ⟨e0, e1, e2, e3, e4⟩ := HM1.out.cells
  clear hb1
  go_wp2_with fail
  refine (drop_at HM1.out.rows hk).mono ?_
  rintro e w2 ⟨rfl, H2, hr2, hs2⟩
  obtain ⟨he2, hu2⟩ := (HM1.out.next hr2 hs2).done HIL.out
  have HE2 := Lib.hid he2
  have HS2 := Lib.hid (more_eq hu2)
  clear hr2 hs2 he2 hu2
  go_wp2_with fail
  refine (RC.out _ w2 HE2.out).mono ?_
  rintro e w3 ⟨v, F1, rfl, he, hs, ho, hn⟩
  have HS := Lib.hid (HS2.out.trans hs)
  have HO := Lib.hid (own_mono ho HS2.out.upd.size)
  have HN := Lib.hid hn
  have HL := Lib.hid (lens he.inv)
  obtain ⟨s, cap, bx, G, hm⟩ := he.mid
  obtain ⟨d0, d1, d2, d3, d4⟩ := hm.cells
  have HM := Lib.hid hm
  clear hs ho hn he hm
  simp only [id]
  go_wp2_with fail
  refine (push_at' HM.out.rows hk 2 (by omega) (z := 2) rfl HL.out).mono ?_
  rintro e w4 ⟨rfl, H3, hr3, hs3⟩
  have HM3 := Lib.hid (HM.out.next hr3 hs3)
  clear hr3 hs3
  go_wp2_with fail
  go_ret2
  exact gone_push HS.out HO.out HN.out HM3.out HI.out (fun v => .tuple #[.bool false, v])

theorem eng_access (h : Eng w b F c K) {key : ByteArray} (hk : key.size ≤ 40) : Calls Try.prog 19 #[.pointer (some ⟨b, 0, none⟩), .string key] w (AccPost b F c K key w) := by
  by_cases h2 : key ∈ K 2
  · exact acc_am h hk h2
  · by_cases h0 : key ∈ K 0
    · exact acc_in h hk h0
    · by_cases h1 : key ∈ K 1
      · exact acc_out h hk h0 h1 h2
      · exact acc_new h hk h0 h1 h2

theorem eng_access_nil (key : ByteArray) (w : World) : Calls Try.prog 19 #[.pointer none, .string key] w fun e w' => e = .returned (.tuple #[.bool false, .slice none 0 0]) ∧ w = w' := by
  go_enter Try.func19, Try.ntmps19
  go_wp2_with fail
  go_ret2
  exact ⟨rfl, rfl⟩
end

end Go.Proofs.Ytjpoeblhibgjbaa.Eg
