/- Slices of strings in memory of one's own, that may begin in the midst of a block; an append to them. -/
import Derived.Test.YtkeicfajlmhajaaGreatLi
import Derived.Test.YtkeicfajlmhajaaGreatStr
import Derived.Laws.AppendOwnNone
import Derived.ArgAppend
import Derived.Deep.RegionHeld3
namespace Go.Proofs.YtkeicfajlmhajaaGreat.Sl
open Go Go.RowKit Go.Proofs.YtkeicfajlmhajaaGreat.K
open Go.Proofs.YtkeicfajlmhajaaGreat.Li (more more_lt infoS own_form')

/-- The slice v holds the strings xs in a block of F (or is nil). -/
def Sl (w : World) (v : Value) (F : Nat → Prop) (xs : List ByteArray) : Prop :=
  (v = .slice none 0 0 ∧ xs = []) ∨ ∃ g o cap cur, v = .slice (some ⟨g, o, none⟩) xs.length cap ∧ w.heap[g]? = some (.cells cur 9 (0, 0)) ∧ xs.length ≤ cap ∧ cap ≤ maxLen ∧ o + cap ≤ cur.size ∧ (∀ j x, xs[j]? = some x → cur[o + j]? = some (.string x)) ∧ F g

section
variable {w w' : World} {v : Value} {F G : Nat → Prop} {xs : List ByteArray}

theorem Sl.form (h : Sl w v F xs) : ∃ A cap, v = .slice A xs.length cap ∧ xs.length ≤ cap := by
  rcases h with ⟨rfl, rfl⟩ | ⟨g, o, cap, cur, rfl, _, h, _⟩
  · exact ⟨none, 0, rfl, Nat.le_refl _⟩
  · exact ⟨_, _, rfl, h⟩
theorem Sl.upd (h : Sl w v F xs) (hu : Upd G w w') (hG : ∀ k, F k → ¬ G k) : Sl w' v F xs := by
  rcases h with h | ⟨g, o, cap, cur, h1, h2, h3, h4, h5, h6, h7⟩
  · exact .inl h
  · exact .inr ⟨g, o, cap, cur, h1, hu.get h2 (hG g h7), h3, h4, h5, h6, h7⟩
theorem Sl.below (h : Sl w v F xs) (hb : Below w.heap.size w w') : Sl w' v F xs :=
  h.upd (Upd.of_below (F := fun _ => False) hb (fun i h1 h2 => by omega)) (fun _ _ => id)
theorem Sl.mono (h : Sl w v F xs) (hG : ∀ k, F k → G k) : Sl w v G xs := by
  rcases h with h | ⟨g, o, cap, cur, h1, h2, h3, h4, h5, h6, h7⟩
  · exact .inl h
  · exact .inr ⟨g, o, cap, cur, h1, h2, h3, h4, h5, h6, hG g h7⟩
theorem Sl.cell {A : Option Addr} {n cap : Nat} (h : Sl w (.slice A n cap) F xs) {j : Nat} {x : ByteArray} (hj : xs[j]? = some x) : ∃ g o, A = some ⟨g, o, none⟩ ∧ w.cell? ⟨g, o + j, none⟩ = some (.string x) := by
  rcases h with ⟨h1, rfl⟩ | ⟨g, o, cap, cur, h1, h2, h3, h4, h5, h6, h7⟩
  · simp at hj
  · cases h1
    exact ⟨g, o, rfl, by rw [cell_of h2]; exact h6 j x hj⟩
theorem Sl.rstr {A : Option Addr} {n cap : Nat} (h : Sl w (.slice A n cap) F xs) (hl : xs.length ≤ 8796093021952) : RStr w A xs :=
  ⟨hl, fun _ _ hs => by obtain ⟨g, o, h1, h2⟩ := h.cell hs; exact ⟨g, o, h1, h2⟩⟩
theorem Sl.of_own {B n : Nat} (h : w.ownsRow B 9 1 v n (xs.map .string)) (hF : ∀ k, v.ownBlock = some k → F k) : Sl w v F xs := by
  obtain ⟨h1, (⟨rfl, h2⟩ | ⟨g, cap, cur, rfl, h3, h4, h5, h6, h7, h8⟩)⟩ := h
  · refine .inl ⟨rfl, ?_⟩
    rw [h2, List.length_map] at h1
    exact List.length_eq_zero_iff.1 (by omega)
  · rw [List.length_map, Nat.mul_one] at h1
    subst h1
    refine .inr ⟨g, 0, cap, cur, rfl, h4, h5, h6, by omega, fun j x hj => ?_, hF g rfl⟩
    have hjl : j < xs.length := (List.getElem?_eq_some_iff.1 hj).1
    have e : cur.toList[j]? = (cur.toList.take (xs.length * 1))[j]? := by rw [List.getElem?_take, if_pos (by omega)]
    rw [Nat.zero_add, ← Array.getElem?_toList, e, h8, List.getElem?_map, hj]
    rfl
theorem Sl.nil (w : World) (F : Nat → Prop) : Sl w (.slice none 0 0) F [] := .inl ⟨rfl, rfl⟩
theorem Sl.drop {A : Option Addr} {n cap : Nat} {x y : ByteArray} {t : List ByteArray} (h : Sl w (.slice A n cap) F (x :: y :: t)) :
    ∃ g o, A = some ⟨g, o, none⟩ ∧ n = t.length + 2 ∧ 2 ≤ cap ∧ n ≤ cap ∧ cap ≤ maxLen ∧ Sl w (.slice (some ⟨g, o + 1, none⟩) (t.length + 1) (cap - 1)) F (y :: t) := by
  rcases h with ⟨h1, h2⟩ | ⟨g, o, cap, cur, h1, h2, h3, h4, h5, h6, h7⟩
  · cases h2
  · cases h1
    simp only [List.length_cons] at h3
    refine ⟨g, o, rfl, by simp, by omega, by simp; omega, h4, .inr ⟨g, o + 1, cap - 1, cur, by simp, h2, by simp; omega, by omega, by omega, ?_, h7⟩⟩
    intro j z hj
    have := h6 (j + 1) z (by simpa using hj)
    rwa [show o + 1 + j = o + (j + 1) by omega]

/-- One string is appended. -/
theorem run_one (h : Sl w v F xs) (hn : xs.length ≤ 1000000) (hlt : ∀ k, F k → k < w.heap.size) (ty : TypeId) {ad : Addr} {c : Nat} {x : ByteArray} (hc : w.cell? ad = some (.string x)) (had : ad.add 0 = ad) :
    ∃ v' w', (Builtin.append_ #[22, 22] ty #[v, .slice (some ad) 1 c]).run Tryz.prog w = .ok v' w' ∧ Sl w' v' (fun k => F k ∨ w.heap.size ≤ k) (xs ++ [x]) ∧ Upd F w w' ∧ (∀ k, v'.ownBlock = some k → k < w'.heap.size) := by
  obtain ⟨i0, hi, hz0, hz1, hz2⟩ := info_parts infoS
  have hnews : ∀ j u, ([Value.string x] : List Value)[j]? = some u → w.cell? (ad.add j) = some u := by
    intro j u hu
    match j with
    | 0 => rw [had]; simp at hu; rw [hc, hu]
    | _ + 1 => simp at hu
  have h1c : ∀ u ∈ ([Value.string x] : List Value), u.oneCell' = true := by simp [Value.oneCell']
  rcases h with ⟨rfl, rfl⟩ | ⟨g, o, cap, cur, rfl, h2, h3, h4, h5, h6, h7⟩
  · obtain ⟨v', w', hrun, r1, r2, _⟩ := run_append_own (P := Tryz.prog) w w.heap.size 22 ty 9 i0 (.string ByteArray.empty) 1 16 Tryz.underlying22 hi hz0 hz1 hz2 rfl (by decide) (.slice none 0 0) 0 [] (World.ownsRow_nil w _ _ _) ad 1 c [.string x] rfl hnews h1c (by unfold maxLen; omega) (by omega) (Nat.le_refl _)
    refine ⟨v', w', hrun, Sl.of_own (xs := [x]) r1 (fun k hk => .inr (r1.lt k hk).1), ⟨r2.os, r2.tape, r2.output, r2.size, fun k hk _ => r2.block k hk (by simp [Value.ownBlock])⟩, fun k hk => (r1.lt k hk).2⟩
  · by_cases hr : xs.length + 1 ≤ cap
    · have hcur : o + xs.length < cur.size := by omega
      have hrun := run_append_room_cells (P := Tryz.prog) w 22 ty 9 i0 Tryz.underlying22 hi g o xs.length cap ad 1 c [.string x] (by rw [hz1]; rfl) hnews h1c hr
        (fun j hj => by
          have : j = 0 := by simpa using hj
          subst this
          rw [hz1, Nat.mul_one, cell_of h2, Nat.add_zero, Array.getElem?_eq_getElem hcur]; rfl)
        (fun j hj => free_of h2 _)
      rw [hz1, Nat.mul_one] at hrun
      have hb := block_setCell (o := o + xs.length) (v := .string x) h2
      refine ⟨_, _, hrun, .inr ⟨g, o, cap, _, by rw [List.length_append]; rfl, hb, by rw [List.length_append]; exact hr, h4, by rw [Array.size_setIfInBounds]; exact h5, ?_, .inl h7⟩, (Upd.refl F w).setCell (p := ⟨g, o + xs.length, none⟩) (.inl h7) _, ?_⟩
      · intro j y hj
        rcases Nat.lt_or_ge j xs.length with hlt' | hge
        · rw [List.getElem?_append_left hlt'] at hj
          rw [Array.getElem?_setIfInBounds_ne (by omega)]
          exact h6 j y hj
        · rw [List.getElem?_append_right hge] at hj
          have e : j = xs.length := by
            have := (List.getElem?_eq_some_iff.1 hj).1
            simp at this
            omega
          subst e
          simp at hj
          subst hj
          rw [Array.getElem?_setIfInBounds_self_of_lt hcur]
      · intro k hk
        have : g = k := by simpa [Value.ownBlock] using hk
        subst this
        have := hlt g h7
        simpa [World.setCells] using this
    · have hlo : (xs.map Value.string).length = xs.length * 1 := by simp
      obtain ⟨v', w', hrun, r1, r2⟩ := run_append_arg_grows (P := Tryz.prog) w 22 ty 9 i0 (.string ByteArray.empty) 1 16 Tryz.underlying22 hi hz0 hz1 hz2 rfl (by decide) ⟨g, o, none⟩ xs.length cap (xs.map .string) hlo
        (fun j u hu => by
          rw [List.getElem?_map] at hu
          cases hx : xs[j]? with
          | none => rw [hx] at hu; cases hu
          | some y =>
            rw [hx] at hu
            cases hu
            rw [add_plain, cell_of h2]
            exact h6 j y hx)
        ad 1 c [.string x] rfl hnews (by omega) (by unfold maxLen; omega) (by omega)
      have hu : Upd F w w' := ⟨r2.os, r2.tape, r2.output, r2.size, fun k hk _ => r2.block k hk (by simp)⟩
      refine ⟨v', w', hrun, ?_, hu, fun k hk => (r1.lt k hk).2⟩
      refine Sl.of_own (n := xs.length + 1) (xs := xs ++ [x]) (by rw [List.map_append]; exact r1) (fun k hk => .inr (r1.lt k hk).1)

theorem Sl.own (h : Sl w v F xs) : Sl w v (fun j => v.ownBlock = some j) xs := by
  rcases h with h | ⟨g, o, cap, cur, rfl, h2, h3, h4, h5, h6, h7⟩
  · exact .inl h
  · exact .inr ⟨g, o, cap, cur, rfl, h2, h3, h4, h5, h6, rfl⟩
theorem Sl.own_in (h : Sl w v F xs) : ∀ j, v.ownBlock = some j → F j := by
  rcases h with ⟨rfl, rfl⟩ | ⟨g, o, cap, cur, rfl, h2, h3, h4, h5, h6, h7⟩
  · intro j hj; simp [Value.ownBlock] at hj
  · intro j hj
    have : g = j := by simpa [Value.ownBlock] using hj
    rw [← this]; exact h7

/-- A string was appended; w: the world ahead of the element's own block. -/
structure Pushed (w : World) (F : Nat → Prop) (xs : List ByteArray) (x : ByteArray) (v' : Value) (w' : World) : Prop where
  sl : Sl w' v' (fun j => v'.ownBlock = some j) (xs ++ [x])
  upd : Upd F w w'
  new : ∀ j, v'.ownBlock = some j → F j ∨ w.heap.size ≤ j
  lt : ∀ j, v'.ownBlock = some j → j < w'.heap.size

theorem run_push (h : Sl w v F xs) (hn : xs.length ≤ 1000000) (hlt : ∀ k, F k → k < w.heap.size) (ty : TypeId) (x : ByteArray) (c : Nat) :
    ∃ v' w', (Builtin.append_ #[22, 22] ty #[v, .slice (some ⟨w.heap.size, 0, none⟩) 1 c]).run Tryz.prog (w.alloc (.cells #[.string x] 9)) = .ok v' w' ∧ Pushed w F xs x v' w' := by
  have hb : Below w.heap.size w (w.alloc (.cells #[.string x] 9)) := (Below.refl _ _).alloc (Nat.le_refl _) _
  have hc : (w.alloc (.cells #[.string x] 9)).cell? ⟨w.heap.size, 0, none⟩ = some (.string x) := cell_of (heap_alloc_new w _) 0
  obtain ⟨v', w', h1, h2, h3, h4⟩ := run_one (h.below hb) hn (fun k hk => by have := hlt k hk; simp; omega) ty (c := c) hc (by simp [Addr.add])
  exact ⟨v', w', h1, h2.own, (Upd.of_below (F := F) hb (fun i h1 h2 => by omega)).trans h3, fun j hj => (h2.own_in j hj).imp id (fun e => by simp at e; omega), h4⟩

theorem wpList_push {ops : Array Oper} {rest : List Oper} {o : Oper} {a : Act} {Q : Exit → Act → World → Prop} (hgd : o.guard = none) (s x : Operand)
    (ho : o.op = .call { callee := .builtin .append, args := #[s, x], argTypes := #[22, 22] }) (h : Sl w v F xs) (hn : xs.length ≤ 1000000) (hlt : ∀ k, F k → k < w.heap.size) (k : ByteArray) (c H : Nat) (hH : w.heap.size = H)
    (hs : a.eval s = v) (hx : a.eval x = .slice (some ⟨H, 0, none⟩) 1 c) (hK : ∀ v' w', Pushed w F xs k v' w' → wpList Tryz.prog ops Q rest (a.put o.dst v') w') :
    wpList Tryz.prog ops Q (o :: rest) a (w.alloc (.cells #[.string k] 9)) := by
  subst hH
  obtain ⟨v', w', hrun, hp⟩ := run_push h hn hlt o.type k c
  refine wpList_plain hgd fun K hK' => ?_
  unfold Oper.wp
  simp [execOp, ho, resolve, invoke, builtin, hs, hx, hrun, Result.andThen]
  exact hK' _ _ (hK v' w' hp)
end

end Go.Proofs.YtkeicfajlmhajaaGreat.Sl
