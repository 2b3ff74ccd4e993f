/- S3-FIFO in memory: Access. -/
import Derived.Test.YtodiceafnkojiaaQy
namespace Go.Proofs.Ytodiceafnkojiaa.Eg
open Go Go.RowKit Go.Proofs.Ytodiceafnkojiaa.K
open Go.Proofs.Ytodiceafnkojiaa.Li (more more_lt own_form' infoS)
open Go.Proofs.Ytodiceafnkojiaa.Rw

section
variable {w : World} {b c : Nat} {F : Nat → Prop} {K : Ks}

/-- The same, and texts that are their own. -/
def Gone (l : List ByteArray) (mk : Value → Value) (b : Nat) (F : Nat → Prop) (c : Nat) (K' : Ks) (w : World) (e : Ending) (w' : World) : Prop :=
  ∃ v F', e = .returned (mk v) ∧ Eng w' b F' c K' ∧ Step F w F' w' ∧ w'.ownsRow w.heap.size 9 1 v l.length (l.map .string) ∧ ∀ k, v.ownBlock = some k → ¬ F' k

/-- What Access says and leaves. -/
def AccPost (b : Nat) (F : Nat → Prop) (c : Nat) (K : Ks) (key : ByteArray) (w : World) (e : Ending) (w' : World) : Prop :=
  Gone (access c K key).2.1 (fun v => .tuple #[.bool (access c K key).1, v]) b F c (access c K key).2.2 w e w'

theorem Gone.mk {l : List ByteArray} {f : Value → Value} {K' : Ks} {w w' : World} {e : Ending} {v : Value} {F' : Nat → Prop} (he : e = .returned (f v)) (h1 : Eng w' b F' c K') (h2 : Step F w F' w') (h3 : w'.ownsRow w.heap.size 9 1 v l.length (l.map .string)) (h4 : ∀ k, v.ownBlock = some k → ¬ F' k) : Gone l f b F c K' w e w' :=
  ⟨v, F', he, h1, h2, h3, h4⟩

theorem inc_any (n : Nat) (hn : n ≤ 3) (w : World) : Calls Try.prog 44 #[.int .i64 (n : Int), .int .i64 3] w fun e w' => e = .returned (.int .i64 ((min 3 (n + 1) : Nat) : Int)) ∧ w = w' := by
  by_cases h : n = 3
  · subst h
    go_enter Try.func44, Try.ntmps44
    go_wp2_with fail
    go_ret
    exact ⟨rfl, rfl⟩
  · have e : min 3 (n + 1) = n + 1 := by omega
    rw [e]
    have h1 : ¬ (3 : Int) ≤ (n : Int) := by omega
    go_enter Try.func44, Try.ntmps44
    go_wp2_with fail
    go_ret
    exact ⟨rfl, rfl⟩

/-- A resident key that was used once more. -/
def hit (K : Ks) (key : ByteArray) : Ks := ⟨K.r, setn K.n key (min 3 (K.n key + 1))⟩
theorem cm_hit {key : ByteArray} (hm : key ∈ res K) (k : ByteArray) (v : Nat) : ((k = key ∧ v = min 3 (K.n key + 1)) ∨ (k ≠ key ∧ cm K k v)) ↔ cm (hit K key) k v := by
  unfold cm
  show _ ↔ k ∈ res K ∧ v = setn K.n key (min 3 (K.n key + 1)) k
  by_cases e : k = key
  · subst e; rw [setn_same]; simp [hm]
  · rw [setn_ne e]; simp [e]

set_option maxHeartbeats 800000 in
theorem acc_hit (h : Eng w b F c K) {key : ByteArray} (hk : key.size ≤ 40) (hh : has K key = true) : Calls Try.prog 18 #[.pointer (some ⟨b, 0, none⟩), .string key] w (AccPost b F c K key w) := by
  have hi' := (access_facts h.inv hk).inv
  have e : access c K key = (true, [], hit K key) := by unfold access; rw [if_pos hh]; rfl
  unfold AccPost
  rw [e] at hi' ⊢
  have hm := has_iff.1 hh
  have L := Lib.hid (eng_has_yes h (key := key) (by omega) hh)
  have hn3 := h.inv.cnt key
  obtain ⟨s, cap, bx, y, G, H, hmid⟩ := h.mid
  have HM := Lib.hid hmid
  have HI := Lib.hid hi'
  have GT := Lib.hid (fun w1 (h : MidK w b s cap bx y c F G H K w1) => get_at h hm)
  have HC := Lib.hid (cm_hit hm)
  have INC := Lib.hid (fun w1 => inc_any (K.n key) hn3 w1)
  have PT := Lib.hid (fun w1 (h : MidK w b s cap bx y c F G H K w1) => Yn.idx_put_old h.cnt (u := K.n key) (key := key) ⟨hm, rfl⟩ (min 3 (K.n key + 1)))
  clear hmid hi' e h hh hm
  go_enter Try.func18, Try.ntmps18
  go_wp2_with fail
  refine L.out.mono ?_
  rintro e w1 ⟨rfl, hb1⟩
  have HM1 := Lib.hid (HM.out.below hb1)
  obtain ⟨d0, d1, d2, d3, d4, d5⟩ := HM1.out.cells
  clear hb1
  go_wp2_with fail
  refine (GT.out _ HM1.out).mono ?_
  rintro e w2 ⟨rfl, q, rfl⟩
  go_wp2_with fail
  have HM2 := Lib.hid (HM1.out.drewN (q + 1))
  go_region_held3 (fun w' => w'.cell? ⟨b, 5, none⟩ = some (.pointer (some ⟨y, 0, none⟩)))
    (first | (go_keep; done) | assumption)
    (first | (go_at_call 44; refine (INC.out _).mono ?_; rintro e w3 ⟨rfl, rfl⟩) | (go_at_call 43; refine (PT.out _ HM2.out).mono ?_; rintro e w4 ⟨⟨r, rfl⟩, hx4, hu4⟩; have HM4 := Lib.hid (HM2.out.cntn hx4 (more_eq hu4)); have p5 := HM4.out.cells.2.2.2.2.2; clear hx4 hu4))
  go_wp2_with fail
  go_ret2
  have hz := Mid.done (K := hit K key) (HM4.out.same (fun _ _ => rfl) HC.out rfl) HI.out
  exact Gone.mk (v := .slice none 0 0) rfl hz.1 (more_eq hz.2) (World.ownsRow_nil _ _ _ _) (fun k hk => by simp [Value.ownBlock] at hk)

/-- The loop that makes room. -/
def ARel (w : World) (b c : Nat) (F : Nat → Prop) (K : Ks) (kk : Nat) (v8 : Value) (wr : World) : Prop :=
  ∃ K1 F1, Eng wr b F1 c K1 ∧ Step F w F1 wr ∧ ((kk = 1 ∧ v8 = .slice none 0 0 ∧ K1 = K ∧ len K = c) ∨
    (kk = 0 ∧ K1 = (recl c K).2 ∧ len K1 < c ∧ wr.ownsRow w.heap.size 9 1 v8 (recl c K).1.length ((recl c K).1.map .string) ∧ ∀ k, v8.ownBlock = some k → ¬ F1 k))

theorem arel_start (h : Eng w b F c K) {w1 : World} (hb : Below w.heap.size w w1) : ∃ kk, ARel w b c F K kk (.slice none 0 0) w1 := by
  by_cases hl : len K < c
  · refine ⟨0, K, F, h.below hb, Step.of_below hb, .inr ⟨rfl, ?_, hl, ?_, fun k hk => by simp [Value.ownBlock] at hk⟩⟩
    · unfold recl; rw [if_pos hl]
    · unfold recl; rw [if_pos hl]; exact World.ownsRow_nil _ _ _ _
  · exact ⟨1, K, F, h.below hb, Step.of_below hb, .inl ⟨rfl, rfl, rfl, by have := h.inv.room; omega⟩⟩

/-- The end of an Access that made room and lays the key. -/
theorem gone_comes {s cap bx y : Nat} {F1 G2 H2 : Nat → Prop} {K2 : Ks} {l : List ByteArray} {v : Value} {w1 w2 : World}
    (hs : Step F w F1 w1) (ho : w1.ownsRow w.heap.size 9 1 v l.length (l.map .string)) (hn : ∀ k, v.ownBlock = some k → ¬ F1 k)
    (hm : MidK w1 b s cap bx y c F1 G2 H2 K2 w2) (hi : Inv c K2) (f : Value → Value) : Gone l f b F c K2 w (.returned (f v)) w2 := by
  obtain ⟨h1, h2⟩ := hm.done hi
  refine Gone.mk (v := v) rfl h1 (hs.trans (more_eq h2)) (own_upd ho h2 hn) ?_
  rintro k hk (hf | hf)
  · exact hn k hk hf
  · have := (ho.lt k hk).2
    have := hf.1
    omega

theorem recl_no (hi : Inv c K) {key : ByteArray} (hno : key ∉ res K) : key ∉ res (recl c K).2 := by
  unfold recl
  split
  · exact hno
  · have h1 := hi.c1
    obtain ⟨k, K', he, -, -, -, hr, -⟩ := evict_facts hi (by have := hi.room; omega)
    show key ∉ res (evict c K).2.2
    rw [he]
    exact fun hh => hno ((hr key).1 hh).1
theorem row_no {R : Rs} {key : ByteArray} (h0 : key ∉ R 0) (h1 : key ∉ R 1) : row R key = if key ∈ R 2 then 2 else -1 := by
  unfold row; rw [if_neg h0, if_neg h1]

set_option maxHeartbeats 1600000 in
theorem acc_miss (h : Eng w b F c K) {key : ByteArray} (hk : key.size ≤ 40) (hh : has K key = false) : Calls Try.prog 18 #[.pointer (some ⟨b, 0, none⟩), .string key] w (AccPost b F c K key w) := by
  have hi' := (access_facts h.inv hk).inv
  have e : access c K key = (false, (recl c K).1, comes (recl c K).2 (if key ∈ (recl c K).2.r 2 then 1 else 0) key 0) := by unfold access; rw [if_neg (by rw [hh]; simp)]
  unfold AccPost
  rw [e] at hi' ⊢
  have hno : key ∉ res K := fun hm => by rw [has_iff.2 hm] at hh; cases hh
  have hno1 := recl_no h.inv hno
  rw [mem_res] at hno1
  have hrow : row (recl c K).2.r key = if key ∈ (recl c K).2.r 2 then 2 else -1 := row_no (fun a => hno1 (.inl a)) (fun a => hno1 (.inr a))
  obtain ⟨l, hL⟩ : ∃ l, (recl c K).1 = l := ⟨_, rfl⟩
  obtain ⟨K2, hK2⟩ : ∃ L, (recl c K).2 = L := ⟨_, rfl⟩
  rw [hL, hK2]
  rw [hK2] at hi' hrow
  obtain ⟨q, hq⟩ : ∃ q, (if key ∈ K2.r 2 then 1 else 0) = q := ⟨_, rfl⟩
  rw [hq] at hi' ⊢
  have HQ := Lib.hid hq
  clear hq
  have HLL := Lib.hid hL
  have HK2 := Lib.hid hK2
  clear hL hK2
  have HRW := Lib.hid hrow
  have HE := Lib.hid h
  have HI := Lib.hid hi'
  have HI0 := Lib.hid h.inv
  have L := Lib.hid (eng_has_no h (key := key) (by omega) hh)
  have hc2 := h.inv.c2
  have hc1 := h.inv.c1
  obtain ⟨i0, hi0, hz0, hz1, hz2⟩ := info_parts infoS
  clear hi' e h hh hno hno1 hrow
  go_enter Try.func18, Try.ntmps18
  go_wp2_with fail
  refine L.out.mono ?_
  rintro e w1 ⟨rfl, hb1⟩
  obtain ⟨kk, hkk⟩ := arel_start HE.out hb1
  have HKK := Lib.hid hkk
  clear hb1 hkk
  go_wp2_with fail
  go_loopg [8] kk (fun kk v8 wr => ARel w b c F K kk v8 wr)
  case atStart => exact HKK.out
  case round =>
    clear HKK
    obtain ⟨K1, F1, he, hs, hq⟩ := hrel
    have L1 := Lib.hid (eng_len (he.drewN 1))
    have HE1 := Lib.hid he
    have HS1 := Lib.hid hs
    have hl1 := he.inv.len1
    have hcell : wr.cell? ⟨b, 2, none⟩ = some (.int .i64 (c : Int)) := by
      obtain ⟨s, cap, bx, y, G, H, hm⟩ := he.mid
      exact hm.cells.2.2.1
    clear he hs
    rcases hq with ⟨rfl, rfl, rfl, hl⟩ | ⟨rfl, hK1, hl, ho, hn⟩
    · have hrc : recl c K1 = ([(evict c K1).1], (evict c K1).2.2) := by unfold recl; rw [if_neg (by omega)]
      have HRC := Lib.hid hrc
      have hev : len (evict c K1).2.2 < c := by
        obtain ⟨k, K', e1, -, -, e2, -⟩ := evict_facts HE1.out.inv (by omega)
        rw [e1]
        show len K' < c
        omega
      have HEV := Lib.hid hev
      rw [hl] at L1
      have dL : decide (c ≤ c) = true := by simp
      have EV := Lib.hid (fun F1 w1 (h : Eng w1 b F1 c K1) => eng_evict h)
      clear hrc hev hl hl1
      go_wp2_with fail
      go_region_held3 (fun w' => w'.cell? ⟨b, 2, none⟩ = some (.int .i64 (c : Int)))
        (first | (go_keep; done) | assumption)
        (first | (go_at_call 20; refine L1.out.mono ?_; rintro e w2 ⟨rfl, hb2⟩; have q2 := cell_below (w := wr.drew) hb2 hcell; have HB2 := Lib.hid hb2; clear hb2))
      go_wp2_with fail
      have hb : Below wr.heap.size wr w2 := (below_drewN (Below.refl _ _) 1).trans HB2.out
      have HB := Lib.hid hb
      have h1 := HE1.out.below hb
      clear hb
      refine (EV.out _ w2 h1).mono ?_
      rintro e w3 ⟨rfl, F3, h3, hs3⟩
      have H3 := Lib.hid h3
      have HS3 := Lib.hid (HS1.out.trans ((Step.of_below HB.out).trans hs3))
      have HZ3 : Hid (w.heap.size ≤ w3.heap.size) := Lib.hid (HS3.out.upd.size)
      clear h1 h3 hs3
      generalize (evict c K1).1 = k at *
      generalize (evict c K1).2.1 = ok at *
      generalize (evict c K1).2.2 = K2 at *
      go_wp2_with (at_builtin; refine wpList_append_lies _ rfl _ _ 22 rfl w.heap.size 9 i0 (.string ByteArray.empty) 1 16 Try.underlying22 hi0 hz0 hz1 hz2 rfl (by decide) (.slice none 0 0) 0 [] rfl (World.ownsRow_nil _ _ _ _) ⟨w3.heap.size, 0, none⟩ 1 1 [.string k] rfl rfl (World.news_of_block (cs := #[.string k]) (heap_alloc_new w3 _)) (by simp [Value.oneCell']) (by omega) (by unfold maxLen; omega) (by omega) (by simp; have := HZ3.out; omega) (w3.heap.size + 1) (by simp) ?_; intro f' cf' w4 hown hgr hat hlt4; have hu4 : Upd (fun k => (Value.slice none 0 0).ownBlock = some k) w3 w4 := ((Upd.refl _ w3).alloc _).trans (Upd.of_grown hgr); have HU4 := Lib.hid hu4; have HO4 := Lib.hid hown; have HA4 : Hid (f' = w3.heap.size + 1) := Lib.hid (by rcases hat with h | h; simp [Value.ownBlock] at h; exact h); clear hu4 hown hgr hat hlt4)
      go_roundg 0
      case measure => omega
      case rel =>
        have hb4 : Below w3.heap.size w3 w4 := HU4.out.below (Nat.le_refl _) (fun i h => by simp [Value.ownBlock] at h)
        refine ⟨K2, F3, H3.out.below hb4, HS3.out.trans (Step.of_below hb4), .inr ⟨rfl, by rw [HRC.out], HEV.out, ?_, ?_⟩⟩
        · rw [HRC.out]; exact HO4.out
        · intro j hj hf
          have h1 : f' = j := by simpa [Value.ownBlock] using hj
          have h2 := H3.out.lt j hf
          have h3 := HA4.out
          omega
    · rw [HK2.out] at hK1
      subst hK1
      rw [HLL.out] at ho
      obtain ⟨gA, gc, rfl⟩ := own_form' ho
      have HO := Lib.hid ho
      have HN := Lib.hid hn
      obtain ⟨n, hn⟩ : ∃ n, n = len K1 := ⟨_, rfl⟩
      rw [← hn] at L1 hl
      have dL : decide (c ≤ n) = false := by simp; omega
      clear ho hn
      go_wp2_with fail
      go_region_held3 (fun w' => w'.cell? ⟨b, 2, none⟩ = some (.int .i64 (c : Int)))
        (first | (go_keep; done) | assumption)
        (first | (go_at_call 20; refine L1.out.mono ?_; rintro e w2 ⟨rfl, hb2⟩; have q2 := cell_below (w := wr.drew) hb2 hcell; have HB2 := Lib.hid hb2; clear hb2))
      have hb : Below wr.heap.size wr w2 := (below_drewN (Below.refl _ _) 1).trans HB2.out
      have HS2 := Lib.hid (HS1.out.trans (Step.of_below (F := F1) hb))
      have HO2 := Lib.hid (own_below HO.out hb)
      have he2 := HE1.out.below hb
      have HI2 := Lib.hid he2.inv
      obtain ⟨s, cap, bx, y, G, H, hm⟩ := he2.mid
      obtain ⟨d0, d1, d2, d3, d4, d5⟩ := hm.cells
      have HM := Lib.hid hm
      have W := Lib.hid (where_at hm.rows (Below.refl _ _) (key := key) (by omega))
      rw [HRW.out] at W
      clear hb he2 hm hcell
      by_cases hg : key ∈ K1.r 2
      · rw [if_pos hg] at W
        have hq1 : q = 1 := by rw [← HQ.out, if_pos hg]
        have HQ1 : Hid ((1 : Int) = (q : Int) ∧ (q = 0 ∨ q = 1)) := Lib.hid (by rw [hq1]; simp)
        clear hq1
        go_wp2_with fail
        refine W.out.mono ?_
        rintro e w3 ⟨rfl, hb3⟩
        have HM3 := Lib.hid (HM.out.below hb3)
        obtain ⟨d0, d1, d2, d3, d4, d5⟩ := HM3.out.cells
        clear hb3
        go_wp2_with fail
        refine (comes_at HM3.out HI2.out hk q HQ1.out.2 (z := 1) HQ1.out.1 0 (zm := 0) rfl).mono ?_
        rintro e w4 ⟨rfl, G4, H4, hm4⟩
        have HM4 := Lib.hid hm4
        clear hm4
        go_wp2_with fail
        go_ret2
        exact gone_comes HS2.out HO2.out HN.out HM4.out HI.out (fun v => .tuple #[.bool false, v])
      · rw [if_neg hg] at W
        have hq1 : q = 0 := by rw [← HQ.out, if_neg hg]
        have HQ1 : Hid ((0 : Int) = (q : Int) ∧ (q = 0 ∨ q = 1)) := Lib.hid (by rw [hq1]; simp)
        clear hq1
        go_wp2_with fail
        refine W.out.mono ?_
        rintro e w3 ⟨rfl, hb3⟩
        have HM3 := Lib.hid (HM.out.below hb3)
        obtain ⟨d0, d1, d2, d3, d4, d5⟩ := HM3.out.cells
        clear hb3
        go_wp2_with fail
        refine (comes_at HM3.out HI2.out hk q HQ1.out.2 (z := 0) HQ1.out.1 0 (zm := 0) rfl).mono ?_
        rintro e w4 ⟨rfl, G4, H4, hm4⟩
        have HM4 := Lib.hid hm4
        clear hm4
        go_wp2_with fail
        go_ret2
        exact gone_comes HS2.out HO2.out HN.out HM4.out HI.out (fun v => .tuple #[.bool false, v])

theorem eng_access (h : Eng w b F c K) {key : ByteArray} (hk : key.size ≤ 40) : Calls Try.prog 18 #[.pointer (some ⟨b, 0, none⟩), .string key] w (AccPost b F c K key w) := by
  cases hh : has K key with
  | true => exact acc_hit h hk hh
  | false => exact acc_miss h hk hh

theorem eng_access_nil (key : ByteArray) (w : World) : Calls Try.prog 18 #[.pointer none, .string key] w fun e w' => e = .returned (.tuple #[.bool false, .slice none 0 0]) ∧ w = w' := by
  go_enter Try.func18, Try.ntmps18
  go_wp2_with fail
  go_ret2
  exact ⟨rfl, rfl⟩
end

end Go.Proofs.Ytodiceafnkojiaa.Eg
