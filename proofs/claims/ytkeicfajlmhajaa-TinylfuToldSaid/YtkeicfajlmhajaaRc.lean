/- The rows of an engine as lists of keys. -/
import Derived.Test.YtkeicfajlmhajaaRb
namespace Go.Proofs.Ytkeicfajlmhajaa.Rw
open Go Go.RowKit Go.Proofs.Ytkeicfajlmhajaa.K
open Go.Proofs.Ytkeicfajlmhajaa.Li (Lst more more_lt hdl)
open Go.Proofs.Ytkeicfajlmhajaa.In (Idx V)

/-- R rows of keys, all their memory in F. -/
def Rows (R : Nat) (w : World) (v : Value) (F : Nat → Prop) (K : Nat → List ByteArray) : Prop :=
  ∃ s cap bx n l X Fx Fr M, v = rv s R cap bx ∧ Rws R w s cap bx n l X Fx Fr M ∧ (∀ r, r < R → K r = (X r).map (·.2)) ∧ F s ∧ (∀ k, Fx k → F k) ∧ (∀ r, r < R → ∀ k, Fr r k → F k) ∧ ∀ k, F k → k < w.heap.size

section
variable {R : Nat} {w : World} {v : Value} {F : Nat → Prop} {K : Nat → List ByteArray}

theorem Rows.lt (h : Rows R w v F K) : ∀ k, F k → k < w.heap.size := by obtain ⟨s, cap, bx, n, l, X, Fx, Fr, M, _, _, _, _, _, _, h⟩ := h; exact h
theorem Rows.upd {w' : World} {G : Nat → Prop} (h : Rows R w v F K) (hu : Upd G w w') (hG : ∀ k, F k → ¬ G k) : Rows R w' v F K := by
  obtain ⟨s, cap, bx, n, l, X, Fx, Fr, M, h1, h2, h3, h4, h5, h6, h7⟩ := h
  exact ⟨s, cap, bx, n, l, X, Fx, Fr, M, h1, ⟨row_upd h2.row hu (h7 s h4) (hG s h4), fun r hr => (h2.lst r hr).upd hu (fun k hk => hG k (h6 r hr k hk)), h2.idx.upd hu (fun k hk => hG k (h5 k hk)), h2.mem, h2.sep, h2.sepx, h2.sx, h2.sr, h2.n_⟩,
    h3, h4, h5, h6, fun k hk => Nat.lt_of_lt_of_le (h7 k hk) hu.size⟩
theorem Rows.below {w' : World} (h : Rows R w v F K) (hb : Below w.heap.size w w') : Rows R w' v F K :=
  h.upd (Upd.of_below (F := fun _ => False) hb (fun i h1 h2 => by omega)) (fun _ _ => id)
theorem Rows.drewN (h : Rows R w v F K) (n : Nat) : Rows R (w.drewN n) v F K := h.below (below_drewN (Below.refl _ _) n)
theorem Rows.mono {G : Nat → Prop} (h : Rows R w v F K) (hG : ∀ k, F k → G k) (hlt : ∀ k, G k → k < w.heap.size) : Rows R w v G K := by
  obtain ⟨s, cap, bx, n, l, X, Fx, Fr, M, h1, h2, h3, h4, h5, h6, h7⟩ := h
  exact ⟨s, cap, bx, n, l, X, Fx, Fr, M, h1, h2, h3, hG _ h4, fun k hk => hG k (h5 k hk), fun r hr k hk => hG k (h6 r hr k hk), hlt⟩
theorem Rows.same {K' : Nat → List ByteArray} (h : Rows R w v F K) (hK : ∀ r, r < R → K r = K' r) : Rows R w v F K' := by
  obtain ⟨s, cap, bx, n, l, X, Fx, Fr, M, h1, h2, h3, h4⟩ := h
  exact ⟨s, cap, bx, n, l, X, Fx, Fr, M, h1, h2, fun r hr => (hK r hr).symm.trans (h3 r hr), h4⟩

theorem mem_map {X : Row} {key : ByteArray} (h : key ∈ X.map (·.2)) : ∃ i, (i, key) ∈ X := by
  obtain ⟨⟨i, k⟩, h1, rfl⟩ := List.mem_map.1 h
  exact ⟨i, h1⟩

/-- A key lies in one row, once. -/
theorem Rows.once (h : Rows R w v F K) {key : ByteArray} {r q : Nat} (hr : r < R) (hq : q < R) (h1 : key ∈ K r) (h2 : key ∈ K q) : r = q := by
  obtain ⟨s, cap, bx, n, l, X, Fx, Fr, M, _, h2', h3, _⟩ := h
  rw [h3 r hr] at h1
  rw [h3 q hq] at h2
  obtain ⟨i, hi⟩ := mem_map h1
  obtain ⟨j, hj⟩ := mem_map h2
  have e := h2'.idx.one ((h2'.mem key (r, i)).2 ⟨hr, hi⟩) ((h2'.mem key (q, j)).2 ⟨hq, hj⟩)
  cases e
  rfl

theorem rows_where_yes (h : Rows R w v F K) {key : ByteArray} {r : Nat} (hr : r < R) (hk : key ∈ K r) :
    Calls Try.prog 28 #[v, .string key] w fun e w' => e = .returned (.int .i64 (r : Int)) ∧ Below w.heap.size w w' := by
  obtain ⟨s, cap, bx, n, l, X, Fx, Fr, M, rfl, h2, h3, _⟩ := h
  rw [h3 r hr] at hk
  obtain ⟨i, hi⟩ := mem_map hk
  exact where_yes h2 ((h2.mem key (r, i)).2 ⟨hr, hi⟩)
theorem Rows.absent {s cap bx n : Nat} {l : Nat → Nat} {X : Nat → Row} {Fx : Nat → Prop} {Fr : Nat → Nat → Prop} {M : ByteArray → V → Prop} (h2 : Rws R w s cap bx n l X Fx Fr M) (h3 : ∀ r, r < R → K r = (X r).map (·.2)) {key : ByteArray} (hno : ∀ r, r < R → key ∉ K r) (u : V) : ¬ M key u := by
  intro hu
  obtain ⟨h4, h5⟩ := (h2.mem key u).1 hu
  refine hno u.1 h4 ?_
  rw [h3 u.1 h4]
  exact List.mem_map_of_mem (f := (·.2)) h5
theorem rows_where_no (h : Rows R w v F K) {key : ByteArray} (hk : key.size ≤ 140737488351232) (hno : ∀ r, r < R → key ∉ K r) :
    Calls Try.prog 28 #[v, .string key] w fun e w' => e = .returned (.int .i64 (-1)) ∧ Below w.heap.size w w' := by
  obtain ⟨s, cap, bx, n, l, X, Fx, Fr, M, rfl, h2, h3, _⟩ := h
  exact where_no h2 hk (Rows.absent h2 h3 hno)

/-- Without a key. -/
def less (K : Nat → List ByteArray) (key : ByteArray) : Nat → List ByteArray := fun r => (K r).filter (fun k => decide (k ≠ key))
theorem less_not (K : Nat → List ByteArray) (key : ByteArray) (r : Nat) : key ∉ less K key r := by simp [less]
theorem less_same {K : Nat → List ByteArray} {key : ByteArray} {r : Nat} (h : key ∉ K r) : less K key r = K r := by
  unfold less
  rw [List.filter_eq_self]
  intro a ha
  refine decide_eq_true ?_
  rintro rfl
  exact h ha

def RowsPost (R : Nat) (v : Value) (F : Nat → Prop) (K : Nat → List ByteArray) (w : World) (e : Ending) (w' : World) : Prop :=
  e = .returned (.tuple #[]) ∧ Rows R w' v (more F w w') K ∧ Upd F w w'

theorem rows_drop (h : Rows R w v F K) {key : ByteArray} (hk : key.size ≤ 140737488351232) : Calls Try.prog 35 #[v, .string key] w (RowsPost R v F (less K key) w) := by
  have hR := h
  obtain ⟨s, cap, bx, n, l, X, Fx, Fr, M, rfl, h2, h3, h4, h5, h6, h7⟩ := h
  by_cases hx : ∃ r, r < R ∧ key ∈ K r
  · obtain ⟨r, hr, hm⟩ := hx
    have hm0 := hm
    rw [h3 r hr] at hm
    obtain ⟨i, hi⟩ := mem_map hm
    obtain ⟨p, q, hX⟩ := List.append_of_mem hi
    have hM := (h2.mem key (r, i)).2 ⟨hr, hi⟩
    obtain ⟨m, rfl⟩ : ∃ m, n = m + 1 := ⟨n - 1, by have := h2.idx.pos hM; omega⟩
    refine (drop_yes h2 hr hX).mono ?_
    rintro e w' ⟨he, ⟨Fr', hw, hf⟩, hu⟩
    have hU : Upd F w w' := hu.mono (fun k _ hk => by
      rcases hk with h | h
      · exact h5 k h
      · exact h6 r hr k h)
    refine ⟨he, ⟨s, cap, bx, m, l, _, Fx, Fr', _, rfl, hw, ?_, .inl h4, fun k hk => .inl (h5 k hk), ?_, more_lt h7 hU.size⟩, hU⟩
    · intro a ha
      by_cases e : a = r
      · subst e
        rw [Rw.upd_same]
        unfold less
        rw [h3 a ha, hX]
        have hn : ∀ y ∈ p ++ q, y.2 ≠ key := by
          rintro ⟨j, y⟩ hy rfl
          have h8 := (hw.mem y (a, j)).2 ⟨ha, by show _ ∈ Rw.upd X a (p ++ q) a; rw [Rw.upd_same]; exact hy⟩
          exact h8.1 rfl
        rw [List.map_append, List.map_cons, List.filter_append, List.filter_cons_of_neg (by simp), List.map_append]
        congr 1
        · rw [List.filter_eq_self]
          intro y hy
          obtain ⟨z, hz, rfl⟩ := List.mem_map.1 hy
          simpa using hn z (List.mem_append_left _ hz)
        · rw [List.filter_eq_self]
          intro y hy
          obtain ⟨z, hz, rfl⟩ := List.mem_map.1 hy
          simpa using hn z (List.mem_append_right _ hz)
      · rw [Rw.upd_other _ _ e, less_same (fun hh => e (hR.once ha hr hh hm0)), h3 a ha]
    · intro a ha k hk
      rcases hf a k hk with h8 | h8
      · exact .inl (h6 a ha k h8)
      · exact .inr ⟨h8, (hw.lst a ha).lt k hk⟩
  · have hno : ∀ r, r < R → key ∉ K r := fun r hr hh => hx ⟨r, hr, hh⟩
    refine (drop_no h2 hk (Rows.absent h2 h3 hno)).mono ?_
    rintro e w' ⟨he, hb⟩
    have hU : Upd F w w' := Upd.of_below hb (fun k h1 h2 => by omega)
    exact ⟨he, ((hR.below hb).same (fun r hr => (less_same (hno r hr)).symm)).mono (fun k hk => .inl hk) (more_lt h7 hU.size), hU⟩
end

end Go.Proofs.Ytkeicfajlmhajaa.Rw
