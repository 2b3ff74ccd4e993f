/- 2Q in plain words: what each act does to those that are resident. -/
import Derived.Test.YtjpoeblhibgjbaaQa
namespace Go.Proofs.Ytjpoeblhibgjbaa.Eg
open Go.Proofs.Ytjpoeblhibgjbaa.Rw (upd upd_same upd_other less less_not less_same less_length)

theorem len_res (K : Ks) : (res K).length = len K := by simp [res, len]
theorem mem_res {K : Ks} {x : ByteArray} : x ∈ res K ↔ x ∈ K 0 ∨ x ∈ K 2 := by simp [res]
theorem has_iff {K : Ks} {key : ByteArray} : has K key = true ↔ key ∈ res K := by simp [has, res]
theorem res_nodup {c : Nat} {K : Ks} (h : Inv c K) : (res K).Nodup := by
  unfold res
  rw [List.nodup_append]
  refine ⟨h.nod 0 (by omega), h.nod 2 (by omega), ?_⟩
  rintro a ha b hb rfl
  have := h.once 0 2 (by omega) (by omega) a ha hb
  omega
theorem gho_res {c : Nat} {K : Ks} (h : Inv c K) {x : ByteArray} (hx : x ∈ gho K) : x ∉ res K := by
  rw [mem_res]
  rintro (h1 | h1)
  · have := h.once 1 0 (by omega) (by omega) x hx h1; omega
  · have := h.once 1 2 (by omega) (by omega) x hx h1; omega

/-- A key that is nowhere among the resident ones comes in, in a row with room. -/
theorem come {c : Nat} {K : Ks} (h : Inv c K) {r : Nat} (hr : r = 0 ∨ r = 2) {key : ByteArray} (hk : key.size ≤ 40) (hno : key ∉ res K) (hl : len K < c) :
    Inv c (push K r key) ∧ (∀ x, x ∈ res (push K r key) ↔ x = key ∨ x ∈ res K) ∧ len (push K r key) = len K + 1 := by
  rw [mem_res] at hno
  obtain ⟨a, b, d⟩ := h.sep.push (r := r) hk
  have e0 : less K key 0 = K 0 := less_same (fun hh => hno (.inl hh))
  have e2 : less K key 2 = K 2 := less_same (fun hh => hno (.inr hh))
  have hlen : len (push K r key) = len K + 1 := by
    unfold len
    rcases hr with rfl | rfl
    · rw [push_at, push_ne _ _ (by omega), e0, e2]; simp; omega
    · rw [push_at, push_ne _ _ (by omega), e0, e2]; simp; omega
  refine ⟨⟨h.c1, h.c2, a, b, by omega, ?_, d⟩, ?_, hlen⟩
  · rw [push_ne _ _ (by omega)]; exact Nat.le_trans (less_length ..) h.gh
  · intro x
    rw [mem_res, mem_res, mem_push, mem_push]
    constructor
    · rintro ((⟨h1, -⟩ | ⟨-, rfl⟩) | (⟨h1, -⟩ | ⟨-, rfl⟩))
      · exact .inr (.inl h1)
      · exact .inl rfl
      · exact .inr (.inr h1)
      · exact .inl rfl
    · rintro (rfl | h1 | h1)
      · rcases hr with rfl | rfl
        · exact .inl (.inr ⟨rfl, rfl⟩)
        · exact .inr (.inr ⟨rfl, rfl⟩)
      · exact .inl (.inl ⟨h1, fun e => hno (.inl (e ▸ h1))⟩)
      · exact .inr (.inl ⟨h1, fun e => hno (.inr (e ▸ h1))⟩)

/-- What Access says and leaves. -/
structure Acc (c : Nat) (K : Ks) (key : ByteArray) (hit : Bool) (gone : List ByteArray) (K' : Ks) : Prop where
  inv : Inv c K'
  hit_ : hit = has K key
  yes : key ∈ res K → gone = [] ∧ (∀ x, x ∈ res K' ↔ x ∈ res K) ∧ len K' = len K
  no : key ∉ res K → (len K < c ∧ gone = [] ∧ (∀ x, x ∈ res K' ↔ x = key ∨ x ∈ res K) ∧ len K' = len K + 1) ∨
    (len K = c ∧ ∃ k, gone = [k] ∧ k ∈ res K ∧ (∀ x, x ∈ res K' ↔ x = key ∨ (x ∈ res K ∧ x ≠ k)) ∧ len K' = len K)

theorem recl_come {c : Nat} {K : Ks} (h : Inv c K) {r : Nat} (hr : r = 0 ∨ r = 2) {key : ByteArray} (hk : key.size ≤ 40) (hno : key ∉ res K) :
    Inv c (push (recl c K).2 r key) ∧ ((len K < c ∧ (recl c K).1 = [] ∧ (∀ x, x ∈ res (push (recl c K).2 r key) ↔ x = key ∨ x ∈ res K) ∧ len (push (recl c K).2 r key) = len K + 1) ∨
    (len K = c ∧ ∃ k, (recl c K).1 = [k] ∧ k ∈ res K ∧ (∀ x, x ∈ res (push (recl c K).2 r key) ↔ x = key ∨ (x ∈ res K ∧ x ≠ k)) ∧ len (push (recl c K).2 r key) = len K)) := by
  unfold recl
  by_cases hl : len K < c
  · rw [if_pos hl]
    obtain ⟨h1, h2, h3⟩ := come h hr hk hno hl
    exact ⟨h1, .inl ⟨hl, rfl, h2, h3⟩⟩
  · rw [if_neg hl]
    have hc := h.room
    have h1 := h.c1
    obtain ⟨k, K', he, hm, hi, hn, hres, -, -⟩ := evict_facts h (by omega)
    rw [he]
    obtain ⟨h1, h2, h3⟩ := come (K := K') hi hr hk (fun hh => hno ((hres key).1 hh).1) (by omega)
    have h4 : len (push K' r key) = len K := by omega
    refine ⟨h1, .inr ⟨by omega, k, rfl, hm, fun x => ?_, h4⟩⟩
    rw [h2, hres]

theorem access_facts {c : Nat} {K : Ks} (h : Inv c K) {key : ByteArray} (hk : key.size ≤ 40) : Acc c K key (access c K key).1 (access c K key).2.1 (access c K key).2.2 := by
  unfold access
  split
  · rename_i h2
    have hm : key ∈ res K := mem_res.2 (.inr h2)
    have hs := h.sep
    obtain ⟨a, b, d⟩ := hs.push (r := 2) hk
    have e0 := hs.apart (r := 2) (by omega) h2 (q := 0) (by omega) (by omega)
    have e1 := hs.apart (r := 2) (by omega) h2 (q := 1) (by omega) (by omega)
    have hl := less_len_of_mem h2 (hs.nod 2 (by omega))
    have hlen : len (push K 2 key) = len K := by
      unfold len
      rw [push_at, push_ne _ _ (by omega), e0, List.length_append]
      show (K 0).length + (((K 2).filter (fun k => decide (k ≠ key))).length + 1) = _
      omega
    have hr : len (push K 2 key) ≤ c := by have := h.room; omega
    have hg : (push K 2 key 1).length ≤ kout c := by rw [push_ne _ _ (by omega), e1]; exact h.gh
    refine ⟨⟨h.c1, h.c2, a, b, hr, hg, d⟩, (has_iff.2 hm).symm, fun _ => ⟨rfl, ?_, hlen⟩, fun hh => absurd hm hh⟩
    intro x
    rw [mem_res, mem_res, mem_push, mem_push]
    constructor
    · rintro ((⟨h1, -⟩ | ⟨h1, -⟩) | (⟨h1, -⟩ | ⟨-, rfl⟩))
      · exact .inl h1
      · omega
      · exact .inr h1
      · exact .inr h2
    · rintro (h1 | h1)
      · refine .inl (.inl ⟨h1, ?_⟩)
        rintro rfl
        have := hs.once 0 2 (by omega) (by omega) x h1 h2
        omega
      · by_cases e : x = key
        · exact .inr (.inr ⟨rfl, e⟩)
        · exact .inr (.inl ⟨h1, e⟩)
  · rename_i h2
    split
    · rename_i h0
      have hm : key ∈ res K := mem_res.2 (.inl h0)
      exact ⟨h, (has_iff.2 hm).symm, fun _ => ⟨rfl, fun _ => Iff.rfl, rfl⟩, fun hh => absurd hm hh⟩
    · rename_i h0
      have hno : key ∉ res K := by rw [mem_res]; rintro (a | a); exact h0 a; exact h2 a
      have hh : false = has K key := by
        symm
        rw [Bool.eq_false_iff]
        intro e
        exact hno (has_iff.1 e)
      split
      · rename_i h1
        have e0 : less K key 0 = K 0 := less_same h0
        have e2 : less K key 2 = K 2 := less_same h2
        have hl : len (less K key) = len K := by unfold len; rw [e0, e2]
        have hr : res (less K key) = res K := by unfold res; rw [e0, e2]
        obtain ⟨q1, q2⟩ := recl_come (h.less key) (.inr rfl) hk (r := 2) (by rw [hr]; exact hno)
        rw [hl, hr] at q2
        exact ⟨q1, hh, fun e => absurd e hno, fun _ => q2⟩
      · obtain ⟨q1, q2⟩ := recl_come h (.inl rfl) hk (r := 0) hno
        exact ⟨q1, hh, fun e => absurd e hno, fun _ => q2⟩

theorem load_facts {c : Nat} {K : Ks} (h : Inv c K) {key : ByteArray} (hk : key.size ≤ 40) :
    Inv c (load c K key).2 ∧ ((load c K key).1 = true ↔ key ∉ res K ∧ len K < c) ∧
    ((load c K key).1 = true → (∀ x, x ∈ res (load c K key).2 ↔ x = key ∨ x ∈ res K) ∧ len (load c K key).2 = len K + 1) ∧ ((load c K key).1 = false → (load c K key).2 = K) := by
  unfold load
  split
  · rename_i hh
    refine ⟨h, ⟨fun e => by simp at e, ?_⟩, fun e => by simp at e, fun _ => rfl⟩
    rintro ⟨h1, h2⟩
    rcases hh with hh | hh
    · exact absurd (has_iff.1 hh) h1
    · omega
  · rename_i hh
    have hno : key ∉ res K := fun e => hh (.inl (has_iff.2 e))
    have hl : len K < c := by have := h.room; have : len K ≠ c := fun e => hh (.inr e); omega
    obtain ⟨h1, h2, h3⟩ := come h (.inr rfl) hk (r := 2) hno hl
    exact ⟨h1, ⟨fun _ => ⟨hno, hl⟩, fun _ => rfl⟩, fun _ => ⟨h2, h3⟩, fun e => by simp at e⟩

theorem remove_facts {c : Nat} {K : Ks} (h : Inv c K) {key : ByteArray} :
    Inv c (remove K key).2 ∧ (remove K key).1 = has K key ∧ (∀ x, x ∈ res (remove K key).2 ↔ x ∈ res K ∧ x ≠ key) ∧
    (key ∈ res K → key ∉ gho (remove K key).2 ∧ len (remove K key).2 + 1 = len K) ∧ (key ∉ res K → (remove K key).2 = K) := by
  unfold remove
  split
  · rename_i hh
    have hm := has_iff.1 hh
    refine ⟨h.less key, hh.symm, ?_, fun _ => ⟨less_not _ _ _, ?_⟩, fun e => absurd hm e⟩
    · intro x
      rw [mem_res, mem_res, mem_less, mem_less]
      constructor
      · rintro (⟨a, b⟩ | ⟨a, b⟩)
        · exact ⟨.inl a, b⟩
        · exact ⟨.inr a, b⟩
      · rintro ⟨a | a, b⟩
        · exact .inl ⟨a, b⟩
        · exact .inr ⟨a, b⟩
    · have hs := h.sep
      show (less K key 0).length + (less K key 2).length + 1 = (K 0).length + (K 2).length
      rcases mem_res.1 hm with h0 | h0
      · rw [hs.apart (r := 0) (by omega) h0 (q := 2) (by omega) (by omega)]
        have hl := less_len_of_mem h0 (hs.nod 0 (by omega))
        show ((K 0).filter (fun k => decide (k ≠ key))).length + _ + 1 = _
        omega
      · rw [hs.apart (r := 2) (by omega) h0 (q := 0) (by omega) (by omega)]
        have hl := less_len_of_mem h0 (hs.nod 2 (by omega))
        show _ + ((K 2).filter (fun k => decide (k ≠ key))).length + 1 = _
        omega
  · rename_i hh
    have hno : key ∉ res K := fun e => hh (has_iff.2 e)
    refine ⟨h, ?_, ?_, fun e => absurd e hno, fun _ => rfl⟩
    · symm; rw [Bool.eq_false_iff]; exact hh
    · intro x
      exact ⟨fun hx => ⟨hx, fun e => hno (e ▸ hx)⟩, fun hx => hx.1⟩

end Go.Proofs.Ytjpoeblhibgjbaa.Eg
