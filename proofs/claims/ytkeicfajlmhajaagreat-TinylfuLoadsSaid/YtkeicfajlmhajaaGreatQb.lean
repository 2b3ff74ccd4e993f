/- TinyLFU in plain words: what each act does to those that are resident. -/
import Derived.Test.YtkeicfajlmhajaaGreatQa
namespace Go.Proofs.YtkeicfajlmhajaaGreat.Eg
open Go.Proofs.YtkeicfajlmhajaaGreat.Rw (upd upd_same upd_other less less_not less_same less_length)

theorem len_res (K : Ks) : (res K).length = len K := len_rs K.r
theorem mem_res {K : Ks} {x : ByteArray} : x ∈ res K ↔ x ∈ K.r 0 ∨ x ∈ K.r 1 ∨ x ∈ K.r 2 := mem_rs
theorem has_iff {K : Ks} {key : ByteArray} : has K key = true ↔ key ∈ res K := by rw [mem_res]; simp [has]
theorem res_nodup {c : Nat} {K : Ks} (h : Inv c K) : (res K).Nodup := by
  unfold res rs
  rw [List.nodup_append, List.nodup_append]
  refine ⟨h.nod 0 (by omega), ⟨h.nod 1 (by omega), h.nod 2 (by omega), ?_⟩, ?_⟩
  · rintro a ha b hb rfl
    have := h.once 1 2 (by omega) (by omega) a ha hb
    omega
  · rintro a ha b hb rfl
    rcases List.mem_append.1 hb with hb | hb
    · have := h.once 0 1 (by omega) (by omega) a ha hb; omega
    · have := h.once 0 2 (by omega) (by omega) a ha hb; omega
theorem gho_res {c : Nat} {K : Ks} (_h : Inv c K) {x : ByteArray} (hx : x ∈ gho K) : x ∉ res K := by simp [gho] at hx

/-- What Access says and leaves. -/
structure Acc (c : Nat) (K : Ks) (key : ByteArray) (hit : Bool) (gone : List ByteArray) (K' : Ks) : Prop where
  inv : Inv c K'
  hit_ : hit = has K key
  yes : key ∈ res K → gone = [] ∧ (∀ x, x ∈ res K' ↔ x ∈ res K) ∧ len K' = len K
  no : key ∉ res K → (len K < c ∧ gone = [] ∧ (∀ x, x ∈ res K' ↔ x = key ∨ x ∈ res K) ∧ len K' = len K + 1) ∨
    (len K = c ∧ ∃ k, gone = [k] ∧ k ∈ res K ∧ (∀ x, x ∈ res K' ↔ x = key ∨ (x ∈ res K ∧ x ≠ k)) ∧ len K' = len K)

/-- A push of a resident key leaves the same ones. -/
theorem push_same {R : Rs} (h : Sep R) {r : Nat} (hr : r < 3) {key : ByteArray} (hk : key ∈ rs R) : (∀ x, x ∈ rs (push R r key) ↔ x ∈ rs R) ∧ ln (push R r key) = ln R := by
  refine ⟨fun x => ?_, ?_⟩
  · rw [mem_rs_push hr]
    constructor
    · rintro (rfl | h)
      · exact hk
      · exact h
    · exact .inr
  · rw [ln_push R hr, h.ln_less hk]
theorem push_new {R : Rs} {r : Nat} (hr : r < 3) {key : ByteArray} (hk : key ∉ rs R) : (∀ x, x ∈ rs (push R r key) ↔ x = key ∨ x ∈ rs R) ∧ ln (push R r key) = ln R + 1 :=
  ⟨fun _ => mem_rs_push hr, by rw [ln_push R hr, ln_less_no hk]⟩

/-- Of a key in row q, pushed to row r: how long the rows are. -/
theorem Sep.lens {R : Rs} (h : Sep R) {q r : Nat} (hq : q < 3) {key : ByteArray} (hk : key ∈ R q) :
    (Eg.push R r key 0).length + (if 0 = q then 1 else 0) = (R 0).length + (if 0 = r then 1 else 0) ∧
    (Eg.push R r key 1).length + (if 1 = q then 1 else 0) = (R 1).length + (if 1 = r then 1 else 0) ∧
    (Eg.push R r key 2).length + (if 2 = q then 1 else 0) = (R 2).length + (if 2 = r then 1 else 0) := by
  have l0 := push_length R r key 0
  have l1 := push_length R r key 1
  have l2 := push_length R r key 2
  have m0 := h.less_len hq hk 0 (by omega)
  have m1 := h.less_len hq hk 1 (by omega)
  have m2 := h.less_len hq hk 2 (by omega)
  omega
theorem lens_new {R : Rs} {r : Nat} {key : ByteArray} (hk : key ∉ rs R) :
    (push R r key 0).length = (R 0).length + (if 0 = r then 1 else 0) ∧ (push R r key 1).length = (R 1).length + (if 1 = r then 1 else 0) ∧ (push R r key 2).length = (R 2).length + (if 2 = r then 1 else 0) := by
  have l0 := push_length R r key 0
  have l1 := push_length R r key 1
  have l2 := push_length R r key 2
  rw [mem_rs] at hk
  rw [less_len_no (fun h => hk (.inl h))] at l0
  rw [less_len_no (fun h => hk (.inr (.inl h)))] at l1
  rw [less_len_no (fun h => hk (.inr (.inr h)))] at l2
  exact ⟨l0, l1, l2⟩

theorem demote_facts {c : Nat} {R : Rs} (h : Sep R) (hp : (R 2).length ≤ prot c + 1) :
    Sep (demote c R) ∧ (∀ x, x ∈ rs (demote c R) ↔ x ∈ rs R) ∧ ln (demote c R) = ln R ∧ (demote c R 0).length = (R 0).length ∧ (demote c R 1).length + (demote c R 2).length = (R 1).length + (R 2).length ∧ (demote c R 2).length ≤ prot c := by
  unfold demote
  split
  · rename_i hl
    have hm : oldest (R 2) ∈ R 2 := oldest_mem (by omega)
    obtain ⟨a, b⟩ := push_same h (r := 1) (by omega) (row_in (q := 2) (by omega) hm)
    obtain ⟨l0, l1, l2⟩ := h.lens (q := 2) (r := 1) (by omega) hm
    simp at l0 l1 l2
    exact ⟨h.push (h.small 2 (by omega) _ hm), a, b, l0, by omega, by omega⟩
  · exact ⟨h, fun _ => Iff.rfl, rfl, rfl, rfl, by omega⟩

theorem admit_facts {c : Nat} {K : Ks} {R : Rs} {l : List ByteArray} (hi : Inv c K) {key : ByteArray} (hk : key.size ≤ 40) (hno : key ∉ res K) (hR : R = push K.r 0 key) (hw : win c < (R 0).length) :
    Inv c (admit c ⟨R, l⟩).2 ∧ ((len K < c ∧ (admit c ⟨R, l⟩).1 = [] ∧ (∀ x, x ∈ res (admit c ⟨R, l⟩).2 ↔ x = key ∨ x ∈ res K) ∧ len (admit c ⟨R, l⟩).2 = len K + 1) ∨
    (len K = c ∧ ∃ k, (admit c ⟨R, l⟩).1 = [k] ∧ k ∈ res K ∧ (∀ x, x ∈ res (admit c ⟨R, l⟩).2 ↔ x = key ∨ (x ∈ res K ∧ x ≠ k)) ∧ len (admit c ⟨R, l⟩).2 = len K)) := by
  have hs : Sep R := by rw [hR]; exact hi.sep.push hk
  obtain ⟨n0, n1, n2⟩ := lens_new (R := K.r) (r := 0) hno
  obtain ⟨pm, pl⟩ := push_new (R := K.r) (r := 0) (by omega) hno
  rw [← hR] at n0 n1 n2 pm pl
  simp at n0 n1 n2
  have r0 := hi.r0
  have r12 := hi.r12
  have r2 := hi.r2
  obtain ⟨wm, w1⟩ := win_main hi.c1
  have hm0 : oldest (R 0) ∈ R 0 := oldest_mem (by omega)
  have hold : oldest (R 0) ∈ K.r 0 := by
    have e0 : R 0 = K.r 0 ++ [key] := by rw [hR, push_at, less_same (fun h => hno (mem_res.2 (.inl h)))]
    rw [e0]
    cases hx : K.r 0 with
    | nil => rw [hx] at n0 r0; simp at n0; omega
    | cons y t => exact List.mem_cons_self ..
  have hlen : len K = (K.r 0).length + (K.r 1).length + (K.r 2).length := rfl
  unfold admit
  dsimp only
  split
  · rename_i h1
    obtain ⟨a, b⟩ := push_same hs (r := 1) (by omega) (row_in (q := 0) (by omega) hm0)
    obtain ⟨l0, l1, l2⟩ := hs.lens (q := 0) (r := 1) (by omega) hm0
    simp at l0 l1 l2
    refine ⟨Inv.of hi.c1 hi.c2 (hs.push (hs.small 0 (by omega) _ hm0)) ?_ ?_ ?_, .inl ⟨by omega, rfl, fun x => (a x).trans (pm x), by show ln _ = ln _ + 1; rw [b, pl]⟩⟩
    · show (push R 1 _ 0).length ≤ _; omega
    · show (push R 1 _ 1).length + (push R 1 _ 2).length ≤ _; omega
    · show (push R 1 _ 2).length ≤ _; omega
  · rename_i h1
    have hfull : len K = c := by omega
    have hne : ∀ v, v ∈ res K → v ≠ key := fun v hv e => hno (e ▸ hv)
    split
    · rename_i h2
      have l0 := hs.less_len (q := 0) (by omega) hm0 0 (by omega)
      have l1 := hs.less_len (q := 0) (by omega) hm0 1 (by omega)
      have l2 := hs.less_len (q := 0) (by omega) hm0 2 (by omega)
      simp at l0 l1 l2
      have hr : oldest (R 0) ∈ res K := mem_res.2 (.inl hold)
      refine ⟨Inv.of hi.c1 hi.c2 (hs.less _) ?_ ?_ ?_, .inr ⟨hfull, _, rfl, hr, fun x => ?_, ?_⟩⟩
      · show (Rw.less R _ 0).length ≤ _; omega
      · show (Rw.less R _ 1).length + (Rw.less R _ 2).length ≤ _; omega
      · show (Rw.less R _ 2).length ≤ _; omega
      · refine mem_rs_less.trans ?_
        rw [pm]
        constructor
        · rintro ⟨rfl | h, h3⟩
          · exact .inl rfl
          · exact .inr ⟨h, h3⟩
        · rintro (rfl | ⟨h, h3⟩)
          · exact ⟨.inl rfl, fun e => hne _ hr e.symm⟩
          · exact ⟨.inr h, h3⟩
      · have := hs.ln_less (row_in (q := 0) (by omega) hm0)
        show ln (Rw.less R (oldest (R 0))) = ln K.r
        omega
    · rename_i h2
      have hv : vict R = 1 ∨ vict R = 2 := by unfold vict; (repeat' split) <;> omega
      have hv3 : vict R < 3 := vict_lt R
      have hvm : oldest (R (vict R)) ∈ R (vict R) := by
        refine oldest_mem (vict_some ?_)
        unfold ln; omega
      have hvr : oldest (R (vict R)) ∈ rs R := row_in hv3 hvm
      generalize hve : oldest (R (vict R)) = v at *
      have hvk : v ∈ res K := by
        rcases (pm v).1 hvr with e | h
        · exfalso
          have : key ∈ R (vict R) := e ▸ hvm
          have hk0 : key ∈ R 0 := by rw [hR, push_at]; simp
          have := hs.once 0 (vict R) (by omega) hv3 key hk0 this
          omega
        · exact h
      have hxv : oldest (R 0) ≠ v := fun e => by
        have := hs.once 0 (vict R) (by omega) hv3 v (e ▸ hm0) hvm
        omega
      have hs2 := hs.less v
      have hm2 : oldest (R 0) ∈ Rw.less R v 0 := mem_less.2 ⟨hm0, hxv⟩
      have l0 := hs.less_len hv3 hvm 0 (by omega)
      have l1 := hs.less_len hv3 hvm 1 (by omega)
      have l2 := hs.less_len hv3 hvm 2 (by omega)
      obtain ⟨p0, p1, p2⟩ := hs2.lens (q := 0) (r := 1) (by omega) hm2
      obtain ⟨a, b⟩ := push_same hs2 (r := 1) (by omega) (row_in (q := 0) (by omega) hm2)
      have lt := hs.ln_less hvr
      simp at p0 p1 p2
      refine ⟨Inv.of hi.c1 hi.c2 (hs2.push (hs.small 0 (by omega) _ hm0)) ?_ ?_ ?_, .inr ⟨hfull, v, rfl, hvk, fun x => ?_, ?_⟩⟩
      · show (push (Rw.less R v) 1 _ 0).length ≤ _
        rcases hv with e | e <;> rw [e] at l0 l1 l2 <;> simp at l0 l1 l2 <;> omega
      · show (push (Rw.less R v) 1 _ 1).length + (push (Rw.less R v) 1 _ 2).length ≤ _
        rcases hv with e | e <;> rw [e] at l0 l1 l2 <;> simp at l0 l1 l2 <;> omega
      · show (push (Rw.less R v) 1 _ 2).length ≤ _
        rcases hv with e | e <;> rw [e] at l0 l1 l2 <;> simp at l0 l1 l2 <;> omega
      · refine (a x).trans (mem_rs_less.trans ?_)
        rw [pm]
        constructor
        · rintro ⟨rfl | h, h3⟩
          · exact .inl rfl
          · exact .inr ⟨h, h3⟩
        · rintro (rfl | ⟨h, h3⟩)
          · exact ⟨.inl rfl, fun e => hne _ hvk e.symm⟩
          · exact ⟨.inr h, h3⟩
      · show ln (push (Rw.less R v) 1 (oldest (R 0))) = ln K.r
        omega

theorem access_facts {c : Nat} {K : Ks} (h : Inv c K) {key : ByteArray} (hk : key.size ≤ 40) : Acc c K key (access c K key).1 (access c K key).2.1 (access c K key).2.2 := by
  have hs := h.sep
  have r0 := h.r0
  have r12 := h.r12
  have r2 := h.r2
  unfold access
  split
  · rename_i h0
    have hm : key ∈ res K := mem_res.2 (.inl h0)
    obtain ⟨a, b⟩ := push_same hs (r := 0) (by omega) hm
    obtain ⟨l0, l1, l2⟩ := hs.lens (q := 0) (r := 0) (by omega) h0
    simp at l0 l1 l2
    refine ⟨Inv.of h.c1 h.c2 (hs.push hk) ?_ ?_ ?_, (has_iff.2 hm).symm, fun _ => ⟨rfl, a, b⟩, fun hh => absurd hm hh⟩
    · show (push K.r 0 key 0).length ≤ _; omega
    · show (push K.r 0 key 1).length + (push K.r 0 key 2).length ≤ _; omega
    · show (push K.r 0 key 2).length ≤ _; omega
  · rename_i h0
    split
    · rename_i h12
      have hm : key ∈ res K := mem_res.2 (.inr h12)
      obtain ⟨a, b⟩ := push_same hs (r := 2) (by omega) hm
      obtain ⟨q, hq, hqm, hq0⟩ : ∃ q, q < 3 ∧ key ∈ K.r q ∧ q ≠ 0 := by
        rcases h12 with h1 | h1
        · exact ⟨1, by omega, h1, by omega⟩
        · exact ⟨2, by omega, h1, by omega⟩
      obtain ⟨l0, l1, l2⟩ := hs.lens (r := 2) hq hqm
      have hq' : q = 1 ∨ q = 2 := by omega
      have hp : (push K.r 2 key 2).length ≤ prot c + 1 := by rcases hq' with rfl | rfl <;> simp at l2 <;> omega
      obtain ⟨d1, d2, d3, d4, d5, d6⟩ := demote_facts (hs.push (r := 2) hk) hp
      refine ⟨Inv.of h.c1 h.c2 d1 ?_ ?_ d6, (has_iff.2 hm).symm, fun _ => ⟨rfl, fun x => (d2 x).trans (a x), d3.trans b⟩, fun hh => absurd hm hh⟩
      · show (demote c _ 0).length ≤ _
        rw [d4]
        rcases hq' with rfl | rfl <;> simp at l0 <;> omega
      · show (demote c _ 1).length + (demote c _ 2).length ≤ _
        rw [d5]
        rcases hq' with rfl | rfl <;> simp at l1 l2 <;> omega
    · rename_i h12
      have hno : key ∉ res K := by rw [mem_res]; rintro (a | a); exact h0 a; exact h12 a
      have hh : false = has K key := by
        symm
        rw [Bool.eq_false_iff]
        intro e
        exact hno (has_iff.1 e)
      obtain ⟨n0, n1, n2⟩ := lens_new (R := K.r) (r := 0) hno
      simp at n0 n1 n2
      split
      · rename_i hw
        obtain ⟨q1, q2⟩ := admit_facts (l := K.h ++ [key]) h hk hno rfl hw
        exact ⟨q1, hh, fun e => absurd e hno, fun _ => q2⟩
      · rename_i hw
        obtain ⟨a, b⟩ := push_new (R := K.r) (r := 0) (by omega) hno
        refine ⟨Inv.of h.c1 h.c2 (hs.push hk) ?_ ?_ ?_, hh, fun e => absurd e hno, fun _ => .inl ⟨?_, rfl, a, b⟩⟩
        · show (push K.r 0 key 0).length ≤ _; omega
        · show (push K.r 0 key 1).length + (push K.r 0 key 2).length ≤ _; omega
        · show (push K.r 0 key 2).length ≤ _; omega
        · have := win_main h.c1
          show (K.r 0).length + (K.r 1).length + (K.r 2).length < c
          omega

theorem load_facts {c : Nat} {K : Ks} (h : Inv c K) {key : ByteArray} (hk : key.size ≤ 40) :
    Inv c (load c K key).2 ∧ ((load c K key).1 = true ↔ key ∉ res K ∧ len K < c) ∧
    ((load c K key).1 = true → (∀ x, x ∈ res (load c K key).2 ↔ x = key ∨ x ∈ res K) ∧ len (load c K key).2 = len K + 1) ∧ ((load c K key).1 = false → (load c K key).2 = K) := by
  unfold load
  split
  · rename_i hh
    refine ⟨h, ⟨fun e => by simp at e, ?_⟩, fun e => by simp at e, fun _ => rfl⟩
    rintro ⟨h1, h2⟩
    rcases hh with hh | hh
    · exact absurd (has_iff.1 hh) h1
    · omega
  · rename_i hh
    have hno : key ∉ res K := fun e => hh (.inl (has_iff.2 e))
    have hl : len K < c := by have := h.room; have : len K ≠ c := fun e => hh (.inr e); omega
    have r0 := h.r0
    have r12 := h.r12
    have r2 := h.r2
    have wm := win_main h.c1
    have hlen : len K = (K.r 0).length + (K.r 1).length + (K.r 2).length := rfl
    have key_ : ∀ r, r < 2 → (r = 1 → (K.r 1).length + (K.r 2).length < mainr c) → (r = 0 → ¬ (K.r 1).length + (K.r 2).length < mainr c) → Inv c ⟨push K.r r key, K.h⟩ := by
      intro r hr h1 h2
      obtain ⟨n0, n1, n2⟩ := lens_new (R := K.r) (r := r) hno
      have hr' : r = 0 ∨ r = 1 := by omega
      refine Inv.of h.c1 h.c2 (h.sep.push hk) ?_ ?_ ?_
      · show (push K.r r key 0).length ≤ _
        rcases hr' with rfl | rfl <;> simp at n0 h2 <;> omega
      · show (push K.r r key 1).length + (push K.r r key 2).length ≤ _
        rcases hr' with rfl | rfl <;> simp at n1 n2 h1 <;> omega
      · show (push K.r r key 2).length ≤ _
        rcases hr' with rfl | rfl <;> simp at n2 <;> omega
    split
    · rename_i hm
      obtain ⟨a, b⟩ := push_new (R := K.r) (r := 1) (by omega) hno
      exact ⟨key_ 1 (by omega) (fun _ => hm) (fun e => by omega), ⟨fun _ => ⟨hno, hl⟩, fun _ => rfl⟩, fun _ => ⟨a, b⟩, fun e => by simp at e⟩
    · rename_i hm
      obtain ⟨a, b⟩ := push_new (R := K.r) (r := 0) (by omega) hno
      exact ⟨key_ 0 (by omega) (fun e => by omega) (fun _ => hm), ⟨fun _ => ⟨hno, hl⟩, fun _ => rfl⟩, fun _ => ⟨a, b⟩, fun e => by simp at e⟩

theorem remove_facts {c : Nat} {K : Ks} (h : Inv c K) {key : ByteArray} :
    Inv c (remove K key).2 ∧ (remove K key).1 = has K key ∧ (∀ x, x ∈ res (remove K key).2 ↔ x ∈ res K ∧ x ≠ key) ∧
    (key ∈ res K → key ∉ gho (remove K key).2 ∧ len (remove K key).2 + 1 = len K) ∧ (key ∉ res K → (remove K key).2 = K) := by
  unfold remove
  split
  · rename_i hh
    have hm := has_iff.1 hh
    exact ⟨h.less key _, hh.symm, fun _ => mem_rs_less, fun _ => ⟨by simp [gho], h.sep.ln_less hm⟩, fun e => absurd hm e⟩
  · rename_i hh
    have hno : key ∉ res K := fun e => hh (has_iff.2 e)
    refine ⟨h, ?_, ?_, fun e => absurd e hno, fun _ => rfl⟩
    · symm; rw [Bool.eq_false_iff]; exact hh
    · intro x
      exact ⟨fun hx => ⟨hx, fun e => hno (e ▸ hx)⟩, fun hx => hx.1⟩

/-- Evict, by what is resident. -/
theorem evict_facts {c : Nat} {K : Ks} (h : Inv c K) (h0 : 0 < len K) :
    ∃ k K', evict c K = (k, true, K') ∧ k ∈ res K ∧ Inv c K' ∧ len K' + 1 = len K ∧ (∀ x, x ∈ res K' ↔ x ∈ res K ∧ x ≠ k) ∧ k ∉ res K' := by
  have hm : oldest (K.r (vict K.r)) ∈ K.r (vict K.r) := oldest_mem (vict_some h0)
  have hr : oldest (K.r (vict K.r)) ∈ rs K.r := row_in (vict_lt _) hm
  refine ⟨_, _, by unfold evict; rw [if_neg (by omega)], hr, h.less _ _, h.sep.ln_less hr, fun _ => mem_rs_less, fun hh => (mem_rs_less.1 hh).2 rfl⟩

end Go.Proofs.YtkeicfajlmhajaaGreat.Eg
