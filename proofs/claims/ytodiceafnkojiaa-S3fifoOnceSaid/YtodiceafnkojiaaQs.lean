/- S3-FIFO's reference in memory: what its slices hold behind each act; ghost. -/
import Derived.Test.YtodiceafnkojiaaQr
import Derived.Test.YtodiceafnkojiaaSo
namespace Go.Proofs.Ytodiceafnkojiaa.Rf
open Go Go.RowKit Go.Proofs.Ytodiceafnkojiaa.K Go.Proofs.Ytodiceafnkojiaa.Sl Go.Proofs.Ytodiceafnkojiaa.Eg
open Go.Proofs.Ytodiceafnkojiaa.Li (more more_lt own_form')
open Go.Proofs.Ytodiceafnkojiaa.Rw (upd upd_same upd_other less less_same less_not cell_below cell_upd)
open Go.Proofs.Ytodiceafnkojiaa.Sc (Cs fl RC)

section
variable {c : Nat} {K L : Ks}

theorem cl_congr {r : Nat} (h1 : L.r r = K.r r) (h2 : ∀ k ∈ K.r r, L.n k = K.n k) : cl L r = cl K r := by
  unfold cl
  rw [h1]
  exact List.map_congr_left (fun k hk => by rw [h2 k hk])
theorem cl_cons {r : Nat} {k : ByteArray} {t : List ByteArray} (h : K.r r = k :: t) : cl K r = (k, K.n k) :: t.map (fun x => (x, K.n x)) := by unfold cl; rw [h]; rfl
theorem cl_tail {r : Nat} {k : ByteArray} {t : List ByteArray} (h : K.r r = k :: t) : (cl K r).eraseIdx 0 = t.map (fun x => (x, K.n x)) := by rw [cl_cons h]; rfl

/-- Equal in three places. -/
theorem three_eq {X Y : X3} (h0 : X 0 = Y 0) (h1 : X 1 = Y 1) (h2 : X 2 = Y 2) : ∀ r, r < 3 → X r = Y r := fun r hr => by
  match r, hr with
  | 0, _ => exact h0
  | 1, _ => exact h1
  | 2, _ => exact h2
theorem inl_eq {a b : Cs} (h : a = b) : (.inl a : Cs ⊕ List ByteArray) = .inl b := by rw [h]
theorem inr_eq {a b : List ByteArray} (h : a = b) : (.inr a : Cs ⊕ List ByteArray) = .inr b := by rw [h]

theorem not_in {c : Nat} {K : Ks} (h : Inv c K) {r q : Nat} (hr : r < 3) (hq : q < 3) (hne : r ≠ q) {k : ByteArray} (hk : k ∈ K.r r) : ∀ x ∈ K.r q, x ≠ k := fun _ hx e => hne (h.once r q hr hq k hk (e ▸ hx))
theorem tail_ne (h : Inv c K) {r : Nat} (hr : r < 3) {k : ByteArray} {t : List ByteArray} (h1 : K.r r = k :: t) : ∀ x ∈ t, x ≠ k := fun _ hx e => by
  have := h.nod r hr
  rw [h1, List.nodup_cons] at this
  exact this.1 (e ▸ hx)

theorem xk_goes1 (h : Inv c K) {k : ByteArray} {t : List ByteArray} (h1 : K.r 1 = k :: t) : ∀ r, r < 3 → upd (XK K) 1 (.inl ((cl K 1).eraseIdx 0)) r = XK (goes K k) r := by
  obtain ⟨a0, a1, a2⟩ := goes1 h.sep h1
  have hk : k ∈ K.r 1 := by rw [h1]; exact List.mem_cons_self ..
  refine three_eq ?_ ?_ ?_
  · rw [upd_other _ _ (by omega), XK_0, XK_0]
    exact inl_eq (cl_congr (L := goes K k) (r := 0) a0 (fun x hx => setn_ne (not_in h (by omega) (by omega) (by omega) hk x hx))).symm
  · rw [upd_same, XK_1, cl_tail h1]
    refine inl_eq ?_
    unfold cl
    rw [show (goes K k).r 1 = t from a1]
    exact List.map_congr_left (fun x hx => by rw [show (goes K k).n x = K.n x from setn_ne (tail_ne h (by omega) h1 x hx)])
  · rw [upd_other _ _ (by omega), XK_2, XK_2]
    exact inr_eq a2.symm

theorem xk_move11 (h : Inv c K) {k : ByteArray} {t : List ByteArray} (h1 : K.r 1 = k :: t) (m : Nat) : ∀ r, r < 3 → upd (upd (XK K) 1 (.inl ((cl K 1).eraseIdx 0))) 1 (.inl ((cl K 1).eraseIdx 0 ++ [(k, m)])) r = XK (comes K 1 k m) r := by
  obtain ⟨a0, a1, a2⟩ := move11 h.sep h1
  have hk : k ∈ K.r 1 := by rw [h1]; exact List.mem_cons_self ..
  refine three_eq ?_ ?_ ?_
  · rw [upd_other _ _ (by omega), upd_other _ _ (by omega), XK_0, XK_0]
    exact inl_eq (cl_congr (K := K) (L := comes K 1 k m) (r := 0) a0 (fun x hx => setn_ne (not_in h (by omega) (by omega) (by omega) hk x hx))).symm
  · rw [upd_same, XK_1, cl_tail h1]
    refine inl_eq ?_
    unfold cl
    rw [show (comes K 1 k m).r 1 = t ++ [k] from a1, List.map_append]
    congr 1
    · exact List.map_congr_left (fun x hx => by rw [show (comes K 1 k m).n x = K.n x from setn_ne (tail_ne h (by omega) h1 x hx)])
    · show [(k, m)] = [(k, (comes K 1 k m).n k)]
      rw [show (comes K 1 k m).n k = m from setn_same]
  · rw [upd_other _ _ (by omega), upd_other _ _ (by omega), XK_2, XK_2]
    exact inr_eq a2.symm

theorem xk_move01 (h : Inv c K) {k : ByteArray} {t : List ByteArray} (h0 : K.r 0 = k :: t) : ∀ r, r < 3 → upd (upd (XK K) 0 (.inl ((cl K 0).eraseIdx 0))) 1 (.inl (cl K 1 ++ [(k, 0)])) r = XK (comes K 1 k 0) r := by
  obtain ⟨a0, a1, a2⟩ := move01 h.sep h0
  have hk : k ∈ K.r 0 := by rw [h0]; exact List.mem_cons_self ..
  refine three_eq ?_ ?_ ?_
  · rw [upd_other _ _ (by omega), upd_same, XK_0, cl_tail h0]
    refine inl_eq ?_
    unfold cl
    rw [show (comes K 1 k 0).r 0 = t from a0]
    exact List.map_congr_left (fun x hx => by rw [show (comes K 1 k 0).n x = K.n x from setn_ne (tail_ne h (by omega) h0 x hx)])
  · rw [upd_same, XK_1]
    refine inl_eq ?_
    unfold cl
    rw [show (comes K 1 k 0).r 1 = K.r 1 ++ [k] from a1, List.map_append]
    congr 1
    · exact List.map_congr_left (fun x hx => by rw [show (comes K 1 k 0).n x = K.n x from setn_ne (not_in h (by omega) (by omega) (by omega) hk x hx)])
    · show [(k, 0)] = [(k, (comes K 1 k 0).n k)]
      rw [show (comes K 1 k 0).n k = 0 from setn_same]
  · rw [upd_other _ _ (by omega), upd_other _ _ (by omega), XK_2, XK_2]
    exact inr_eq a2.symm

def gtrim (c : Nat) (l : List ByteArray) : List ByteArray := if kout c < l.length then l.tail else l
theorem xk_ghost (h : Inv c K) {k : ByteArray} {t : List ByteArray} (h0 : K.r 0 = k :: t) : ∀ r, r < 3 → upd (upd (XK K) 0 (.inl ((cl K 0).eraseIdx 0))) 2 (.inr (gtrim c (K.r 2 ++ [k]))) r = XK (toGhost c K k) r := by
  have hk : k ∈ K.r 0 := by rw [h0]; exact List.mem_cons_self ..
  obtain ⟨-, b0, b1, -, -, -, bn⟩ := inv_toGhost h h0
  have hs := ghosted_sep h (h.head_small (by omega) h0)
  have b2 : (toGhost c K k).r 2 = gtrim c (K.r 2 ++ [k]) := by
    have := trim_2 hs c
    rw [(ghosted_rows h h0).2.2] at this
    exact this
  refine three_eq ?_ ?_ ?_
  · rw [upd_other _ _ (by omega), upd_same, XK_0, cl_tail h0]
    refine inl_eq ?_
    unfold cl
    rw [b0]
    exact List.map_congr_left (fun x hx => by rw [bn, setn_ne (tail_ne h (by omega) h0 x hx)])
  · rw [upd_other _ _ (by omega), upd_other _ _ (by omega), XK_1, XK_1]
    exact inl_eq (cl_congr b1 (fun x hx => by rw [bn]; exact setn_ne (not_in h (by omega) (by omega) (by omega) hk x hx))).symm
  · rw [upd_same, XK_2]
    exact inr_eq b2.symm

theorem nodup_get {l : List ByteArray} {i j : Nat} {k : ByteArray} (h : l.Nodup) (hi : l[i]? = some k) (hj : l[j]? = some k) : i = j := by
  have h1 := lt_of_getElem? hi
  exact (List.getElem?_inj h1 h).1 (hi.trans hj.symm)

theorem xk_hit (h : Inv c K) {q : Nat} (hq : q < 2) {i : Nat} {key : ByteArray} (hi : (K.r q)[i]? = some key) : ∀ r, r < 3 → upd (XK K) q (.inl ((cl K q).set i (key, min 3 (K.n key + 1)))) r = XK (hit K key) r := by
  have hk : key ∈ K.r q := List.mem_of_getElem? hi
  have hsame : ∀ p, p < 3 → p ≠ q → cl (hit K key) p = cl K p := fun p hp hne => cl_congr (L := hit K key) rfl (fun x hx => setn_ne (not_in h (by omega) hp (Ne.symm hne) hk x hx))
  have hset : (cl K q).set i (key, min 3 (K.n key + 1)) = cl (hit K key) q := by
    apply List.ext_getElem?
    intro j
    have hil : i < (cl K q).length := by rw [cl_length]; exact lt_of_getElem? hi
    by_cases e : i = j
    · subst e
      rw [List.getElem?_set_self hil, cl_of (K := hit K key) (r := q) (k := key) hi]
      rw [show (hit K key).n key = min 3 (K.n key + 1) from setn_same]
    · rw [List.getElem?_set_ne e]
      cases hx : (K.r q)[j]? with
      | none =>
        rw [List.getElem?_eq_none (by rw [cl_length]; exact List.getElem?_eq_none_iff.1 hx), List.getElem?_eq_none (by rw [cl_length]; exact List.getElem?_eq_none_iff.1 hx)]
      | some x =>
        rw [cl_of hx, cl_of (K := hit K key) (r := q) (k := x) hx]
        have : x ≠ key := fun e2 => e (nodup_get (h.nod q (by omega)) hi (e2 ▸ hx))
        rw [show (hit K key).n x = K.n x from setn_ne this]
  refine three_eq ?_ ?_ ?_
  · match q, hq with
    | 0, _ => rw [upd_same, hset]; rfl
    | 1, _ => rw [upd_other _ _ (by omega), XK_0, XK_0]; exact inl_eq (hsame 0 (by omega) (by omega)).symm
  · match q, hq with
    | 0, _ => rw [upd_other _ _ (by omega), XK_1, XK_1]; exact inl_eq (hsame 1 (by omega) (by omega)).symm
    | 1, _ => rw [upd_same, hset]; rfl
  · rw [upd_other _ _ (by omega), XK_2, XK_2]; rfl

/-- A key that is not resident comes, and is no ghost any more. -/
theorem xk_comes {q : Nat} (hq : q < 2) {key : ByteArray} (hno : key ∉ res K) : ∀ r, r < 3 → upd (upd (XK K) 2 (.inr (without (K.r 2) key))) q (.inl (cl K q ++ [(key, 0)])) r = XK (comes K q key 0) r := by
  rw [mem_res] at hno
  have e0 : less K.r key 0 = K.r 0 := less_same (fun hh => hno (.inl hh))
  have e1 : less K.r key 1 = K.r 1 := less_same (fun hh => hno (.inr hh))
  have n0 : ∀ x ∈ K.r 0, (comes K q key 0).n x = K.n x := fun x hx => setn_ne (fun e => hno (.inl (e ▸ hx)))
  have n1 : ∀ x ∈ K.r 1, (comes K q key 0).n x = K.n x := fun x hx => setn_ne (fun e => hno (.inr (e ▸ hx)))
  have nk : (comes K q key 0).n key = 0 := setn_same
  have hap : ∀ p, K.r p = less K.r key p → (∀ x ∈ K.r p, (comes K q key 0).n x = K.n x) → p = q → cl K p ++ [(key, 0)] = cl (comes K q key 0) p := by
    rintro p h1 h2 rfl
    unfold cl
    rw [show (comes K p key 0).r p = K.r p ++ [key] from by show push K.r p key p = _; rw [push_at, ← h1], List.map_append]
    congr 1
    · exact List.map_congr_left (fun x hx => by rw [h2 x hx])
    · show [(key, 0)] = [(key, (comes K p key 0).n key)]
      rw [nk]
  have hother : ∀ p, K.r p = less K.r key p → (∀ x ∈ K.r p, (comes K q key 0).n x = K.n x) → p ≠ q → cl (comes K q key 0) p = cl K p := by
    intro p h1 h2 h3
    refine cl_congr ?_ h2
    show push K.r q key p = K.r p
    rw [push_ne _ _ h3, ← h1]
  refine three_eq ?_ ?_ ?_
  · match q, hq with
    | 0, _ => rw [upd_same, XK_0]; exact inl_eq (hap 0 e0.symm n0 rfl)
    | 1, _ => rw [upd_other _ _ (by omega), upd_other _ _ (by omega), XK_0, XK_0]; exact inl_eq (hother 0 e0.symm n0 (by omega)).symm
  · match q, hq with
    | 0, _ => rw [upd_other _ _ (by omega), upd_other _ _ (by omega), XK_1, XK_1]; exact inl_eq (hother 1 e1.symm n1 (by omega)).symm
    | 1, _ => rw [upd_same, XK_1]; exact inl_eq (hap 1 e1.symm n1 rfl)
  · rw [upd_other _ _ (by omega), upd_same, XK_2]
    refine inr_eq ?_
    show _ = push K.r q key 2
    rw [push_ne _ _ (by omega)]
    rfl

theorem erase_filter {l : List ByteArray} {i : Nat} {k : ByteArray} (h : l.Nodup) (hi : l[i]? = some k) : l.eraseIdx i = l.filter (fun x => decide (x ≠ k)) := by
  have hil := lt_of_getElem? hi
  have e : l = l.take i ++ k :: l.drop (i + 1) := by
    rw [List.getElem?_eq_getElem hil] at hi
    cases hi
    rw [← List.drop_eq_getElem_cons hil, List.take_append_drop]
  rw [List.eraseIdx_eq_take_drop_succ]
  rw [e, List.nodup_append, List.nodup_cons] at h
  obtain ⟨-, ⟨n1, -⟩, n2⟩ := h
  conv => rhs; rw [e]
  rw [List.filter_append, List.filter_cons_of_neg (by simp), List.filter_eq_self.2, List.filter_eq_self.2]
  · intro a ha
    refine decide_eq_true ?_
    rintro rfl
    exact n1 ha
  · intro a ha
    refine decide_eq_true ?_
    rintro rfl
    exact n2 a ha a (List.mem_cons_self ..) rfl

theorem xk_remove (h : Inv c K) {q : Nat} (hq : q < 2) {i : Nat} {key : ByteArray} (hi : (K.r q)[i]? = some key) : ∀ r, r < 3 → upd (XK K) q (.inl ((cl K q).eraseIdx i)) r = XK (goes K key) r := by
  have hk : key ∈ K.r q := List.mem_of_getElem? hi
  have hsame : ∀ p, p < 3 → p ≠ q → (goes K key).r p = K.r p := fun p hp hne => h.sep.apart (r := q) (by omega) hk hp hne
  have hcl : ∀ p, p < 3 → p ≠ q → cl (goes K key) p = cl K p := fun p hp hne => cl_congr (hsame p hp hne) (fun x hx => setn_ne (not_in h (by omega) hp (Ne.symm hne) hk x hx))
  have her : (cl K q).eraseIdx i = cl (goes K key) q := by
    have h1 : (goes K key).r q = (K.r q).eraseIdx i := (erase_filter (h.nod q (by omega)) hi).symm
    unfold cl
    rw [h1, List.eraseIdx_eq_take_drop_succ, List.eraseIdx_eq_take_drop_succ, ← List.map_take, ← List.map_drop, ← List.map_append]
    refine List.map_congr_left (fun x hx => ?_)
    rw [← List.eraseIdx_eq_take_drop_succ, erase_filter (h.nod q (by omega)) hi] at hx
    have : x ≠ key := by simpa using (List.mem_filter.1 hx).2
    rw [show (goes K key).n x = K.n x from setn_ne this]
  refine three_eq ?_ ?_ ?_
  · match q, hq with
    | 0, _ => rw [upd_same, her]; rfl
    | 1, _ => rw [upd_other _ _ (by omega), XK_0, XK_0]; exact inl_eq (hcl 0 (by omega) (by omega)).symm
  · match q, hq with
    | 0, _ => rw [upd_other _ _ (by omega), XK_1, XK_1]; exact inl_eq (hcl 1 (by omega) (by omega)).symm
    | 1, _ => rw [upd_same, her]; rfl
  · rw [upd_other _ _ (by omega), XK_2, XK_2]
    exact inr_eq (hsame 2 (by omega) (by omega)).symm
end

end Go.Proofs.Ytodiceafnkojiaa.Rf
