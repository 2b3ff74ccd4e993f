/- Slices of cells (a key and its count) in memory of one's own, that may begin in the midst of a block; an append to them. -/
import Derived.Test.YtodiceafnkojiaaSm
import Derived.Test.YtodiceafnkojiaaFl
import Derived.Laws.AppendOwnNone
import Derived.ArgAppend
import Derived.Deep.RegionHeld3
namespace Go.Proofs.Ytodiceafnkojiaa.Sc
open Go Go.RowKit Go.Proofs.Ytodiceafnkojiaa.K
open Go.Proofs.Ytodiceafnkojiaa.Li (more more_lt own_form')

abbrev Cs := List (ByteArray × Nat)
def enc (x : ByteArray × Nat) : List Value := [.string x.1, .int .i64 (x.2 : Int)]
theorem enc2 (x : ByteArray × Nat) : (enc x).length = 2 := rfl
def fl (xs : Cs) : List Value := xs.flatMap enc
theorem fl_length (xs : Cs) : (fl xs).length = xs.length * 2 := flat_length enc2 xs
theorem fl_append (xs ys : Cs) : fl (xs ++ ys) = fl xs ++ fl ys := by unfold fl; rw [List.flatMap_append]
theorem infoC : (Try.prog.info? 77).map (fun i => (i.zero, i.size, i.bytes)) = some (some (.agg #[.string ByteArray.empty, .int .i64 0]), 2, 24) := by kernel_rfl
theorem zero2 : (Value.agg #[.string ByteArray.empty, .int .i64 0]).cells.size = 2 := by simp [Value.cells]
theorem fl_one (xs : Cs) : ∀ u ∈ fl xs, u.oneCell' = true := by
  intro u hu
  obtain ⟨x, -, hx⟩ := List.mem_flatMap.1 hu
  simp only [enc, List.mem_cons, List.not_mem_nil, or_false] at hx
  rcases hx with rfl | rfl <;> rfl

/-- The slice v holds the cells xs in a block of F (or is nil). -/
def Sc (w : World) (v : Value) (F : Nat → Prop) (xs : Cs) : Prop :=
  (v = .slice none 0 0 ∧ xs = []) ∨ ∃ g o cap cur, v = .slice (some ⟨g, o, none⟩) xs.length cap ∧ w.heap[g]? = some (.cells cur 77 (0, 0)) ∧ xs.length ≤ cap ∧ cap ≤ maxLen ∧ o + cap * 2 ≤ cur.size ∧ (∀ j x, (fl xs)[j]? = some x → cur[o + j]? = some x) ∧ F g

/-- What of cells is read: where they lie. -/
def RC (w : World) (A : Option Addr) (xs : Cs) : Prop := ∀ (j : Nat) (x : ByteArray × Nat), xs[j]? = some x → ∃ g o, A = some ⟨g, o, none⟩ ∧ w.cell? ⟨g, o + j * 2, none⟩ = some (.string x.1) ∧ w.cell? ⟨g, o + j * 2 + 1, none⟩ = some (.int .i64 (x.2 : Int))

section
variable {w w' : World} {v : Value} {F G : Nat → Prop} {xs : Cs}

theorem Sc.form (h : Sc w v F xs) : ∃ A cap, v = .slice A xs.length cap ∧ xs.length ≤ cap := by
  rcases h with ⟨rfl, rfl⟩ | ⟨g, o, cap, cur, rfl, _, h, _⟩
  · exact ⟨none, 0, rfl, Nat.le_refl _⟩
  · exact ⟨_, _, rfl, h⟩
theorem Sc.upd (h : Sc w v F xs) (hu : Upd G w w') (hG : ∀ k, F k → ¬ G k) : Sc w' v F xs := by
  rcases h with h | ⟨g, o, cap, cur, h1, h2, h3, h4, h5, h6, h7⟩
  · exact .inl h
  · exact .inr ⟨g, o, cap, cur, h1, hu.get h2 (hG g h7), h3, h4, h5, h6, h7⟩
theorem Sc.below (h : Sc w v F xs) (hb : Below w.heap.size w w') : Sc w' v F xs :=
  h.upd (Upd.of_below (F := fun _ => False) hb (fun i h1 h2 => by omega)) (fun _ _ => id)
theorem Sc.mono (h : Sc w v F xs) (hG : ∀ k, F k → G k) : Sc w v G xs := by
  rcases h with h | ⟨g, o, cap, cur, h1, h2, h3, h4, h5, h6, h7⟩
  · exact .inl h
  · exact .inr ⟨g, o, cap, cur, h1, h2, h3, h4, h5, h6, hG g h7⟩
theorem fl_get {j i : Nat} {x : ByteArray × Nat} (hj : xs[j]? = some x) (hi : i < 2) : (fl xs)[j * 2 + i]? = (enc x)[i]? := flat_get enc2 hj hi
theorem Sc.rc {A : Option Addr} {n cap : Nat} (h : Sc w (.slice A n cap) F xs) : RC w A xs := by
  intro j x hj
  rcases h with ⟨h1, rfl⟩ | ⟨g, o, cap, cur, h1, h2, h3, h4, h5, h6, h7⟩
  · simp at hj
  · cases h1
    refine ⟨g, o, rfl, ?_, ?_⟩
    · rw [cell_of h2]; exact h6 (j * 2) _ (by have := fl_get hj (i := 0) (by omega); rw [Nat.add_zero] at this; rw [this]; rfl)
    · rw [cell_of h2, Nat.add_assoc]; exact h6 (j * 2 + 1) _ (by rw [fl_get hj (i := 1) (by omega)]; rfl)
theorem RC.below {A : Option Addr} (h : RC w A xs) (hb : Below w.heap.size w w') : RC w' A xs := by
  intro j x hj
  obtain ⟨g, o, h1, h2, h3⟩ := h j x hj
  exact ⟨g, o, h1, by rw [hb.cell (p := ⟨g, o + j * 2, none⟩) (World.block_lt_of_cell? w _ h2)]; exact h2, by rw [hb.cell (p := ⟨g, o + j * 2 + 1, none⟩) (World.block_lt_of_cell? w _ h3)]; exact h3⟩
theorem Sc.of_own {B n : Nat} (h : w.ownsRow B 77 2 v n (fl xs)) (hF : ∀ k, v.ownBlock = some k → F k) : Sc w v F xs := by
  obtain ⟨h1, (⟨rfl, h2⟩ | ⟨g, cap, cur, rfl, h3, h4, h5, h6, h7, h8⟩)⟩ := h
  · refine .inl ⟨rfl, ?_⟩
    rw [h2, fl_length] at h1
    exact List.length_eq_zero_iff.1 (by omega)
  · rw [fl_length] at h1
    have e : n = xs.length := by omega
    subst e
    refine .inr ⟨g, 0, cap, cur, rfl, h4, h5, h6, by omega, fun j x hj => ?_, hF g rfl⟩
    have hjl : j < xs.length * 2 := by rw [← fl_length]; exact (List.getElem?_eq_some_iff.1 hj).1
    have e : cur.toList[j]? = (cur.toList.take (xs.length * 2))[j]? := by rw [List.getElem?_take, if_pos hjl]
    rw [Nat.zero_add, ← Array.getElem?_toList, e, h8, hj]
theorem Sc.nil (w : World) (F : Nat → Prop) : Sc w (.slice none 0 0) F [] := .inl ⟨rfl, rfl⟩
theorem Sc.own (h : Sc w v F xs) : Sc w v (fun j => v.ownBlock = some j) xs := by
  rcases h with h | ⟨g, o, cap, cur, rfl, h2, h3, h4, h5, h6, h7⟩
  · exact .inl h
  · exact .inr ⟨g, o, cap, cur, rfl, h2, h3, h4, h5, h6, rfl⟩
theorem Sc.own_in (h : Sc w v F xs) : ∀ j, v.ownBlock = some j → F j := by
  rcases h with ⟨rfl, rfl⟩ | ⟨g, o, cap, cur, rfl, h2, h3, h4, h5, h6, h7⟩
  · intro j hj; simp [Value.ownBlock] at hj
  · intro j hj
    have : g = j := by simpa [Value.ownBlock] using hj
    rw [← this]; exact h7
/-- A count is written in place. -/
theorem Sc.recount {A : Option Addr} {n cap : Nat} (h : Sc w (.slice A n cap) F xs) {j m : Nat} {x : ByteArray × Nat} (hj : xs[j]? = some x) :
    ∃ g o, A = some ⟨g, o, none⟩ ∧ F g ∧ w.frozen? ⟨g, o + j * 2 + 1, none⟩ = false ∧ Sc (w.setCell ⟨g, o + j * 2 + 1, none⟩ (.int .i64 (m : Int))) (.slice A n cap) F (xs.set j (x.1, m)) := by
  rcases h with ⟨h1, rfl⟩ | ⟨g, o, cap, cur, h1, h2, h3, h4, h5, h6, h7⟩
  · simp at hj
  · cases h1
    refine ⟨g, o, rfl, h7, free_of h2 _, .inr ⟨g, o, cap, _, by simp, block_setCell h2, by simpa using h3, h4, by simpa using h5, ?_, h7⟩⟩
    have hjl := lt_of_getElem? hj
    have hst : fl (xs.set j (x.1, m)) = (fl xs).set (j * 2 + 1) (.int .i64 (m : Int)) := (flat_set1 (j := 1) (v := .int .i64 (m : Int)) enc2 (by omega) hj rfl).symm
    intro i u hi
    rw [hst] at hi
    have hil : i < xs.length * 2 := by
      have := lt_of_getElem? hi
      rw [List.length_set, fl_length] at this
      exact this
    by_cases e : j * 2 + 1 = i
    · subst e
      rw [List.getElem?_set_self (by rw [fl_length]; omega)] at hi
      rw [← Nat.add_assoc, Array.getElem?_setIfInBounds_self_of_lt (by omega)]
      exact hi
    · rw [List.getElem?_set_ne e] at hi
      rw [Array.getElem?_setIfInBounds_ne (by omega)]
      exact h6 i u hi

theorem setCells2 (w : World) (g o : Nat) (a b : Value) : w.setCells g o [a, b] = (w.setCell ⟨g, o, none⟩ a).setCell ⟨g, o + 1, none⟩ b := rfl

/-- One cell is appended. -/
theorem run_one (h : Sc w v F xs) (hn : xs.length ≤ 1000000) (hlt : ∀ k, F k → k < w.heap.size) (ty : TypeId) {ad : Addr} {c : Nat} {x : ByteArray × Nat} (hc : ∀ j u, (enc x)[j]? = some u → w.cell? (ad.add j) = some u) :
    ∃ v' w', (Builtin.append_ #[68, 68] ty #[v, .slice (some ad) 1 c]).run Try.prog w = .ok v' w' ∧ Sc w' v' (fun k => F k ∨ w.heap.size ≤ k) (xs ++ [x]) ∧ Upd F w w' ∧ (∀ k, v'.ownBlock = some k → k < w'.heap.size) := by
  obtain ⟨i0, hi, hz0, hz1, hz2⟩ := info_parts infoC
  have h1c : ∀ u ∈ enc x, u.oneCell' = true := by simp [enc, Value.oneCell']
  have hfl : fl [x] = enc x := by simp [fl]
  rcases h with ⟨rfl, rfl⟩ | ⟨g, o, cap, cur, rfl, h2, h3, h4, h5, h6, h7⟩
  · obtain ⟨v', w', hrun, r1, r2, _⟩ := run_append_own (P := Try.prog) w w.heap.size 68 ty 77 i0 _ 2 24 Try.underlying68 hi hz0 hz1 hz2 zero2 (by decide) (.slice none 0 0) 0 [] (World.ownsRow_nil w _ _ _) ad 1 c (enc x) rfl hc h1c (by unfold maxLen; omega) (by omega) (Nat.le_refl _)
    rw [List.nil_append, ← hfl] at r1
    exact ⟨v', w', hrun, Sc.of_own (xs := [x]) r1 (fun k hk => .inr (r1.lt k hk).1), ⟨r2.os, r2.tape, r2.output, r2.size, fun k hk _ => r2.block k hk (by simp [Value.ownBlock])⟩, fun k hk => (r1.lt k hk).2⟩
  · by_cases hr : xs.length + 1 ≤ cap
    · have hrun := run_append_room_cells (P := Try.prog) w 68 ty 77 i0 Try.underlying68 hi g o xs.length cap ad 1 c (enc x) (by rw [hz1]; rfl) hc h1c hr
        (fun j hj => by
          have hj2 : j < 2 := hj
          rw [hz1, cell_of h2, Array.getElem?_eq_getElem (by omega)]; rfl)
        (fun j hj => free_of h2 _)
      rw [hz1] at hrun
      have hb := block_setCell (o := o + xs.length * 2 + 1) (v := .int .i64 (x.2 : Int)) (block_setCell (o := o + xs.length * 2) (v := .string x.1) h2)
      refine ⟨_, _, hrun, .inr ⟨g, o, cap, _, by rw [List.length_append]; rfl, hb, by rw [List.length_append]; exact hr, h4, by rw [Array.size_setIfInBounds, Array.size_setIfInBounds]; exact h5, ?_, .inl h7⟩, ?_, ?_⟩
      · intro j y hj
        rw [fl_append] at hj
        rcases Nat.lt_or_ge j (fl xs).length with hlt' | hge
        · rw [List.getElem?_append_left hlt'] at hj
          rw [fl_length] at hlt'
          rw [Array.getElem?_setIfInBounds_ne (by omega), Array.getElem?_setIfInBounds_ne (by omega)]
          exact h6 j y hj
        · rw [List.getElem?_append_right hge, hfl] at hj
          rw [fl_length] at hj hge
          have hl2 := lt_of_getElem? hj
          rw [enc2] at hl2
          rcases (by omega : j = xs.length * 2 ∨ j = xs.length * 2 + 1) with rfl | rfl
          · rw [Nat.sub_self] at hj
            cases hj
            rw [Array.getElem?_setIfInBounds_ne (by omega), Array.getElem?_setIfInBounds_self_of_lt (by omega)]
          · rw [Nat.add_sub_cancel_left] at hj
            cases hj
            rw [← Nat.add_assoc, Array.getElem?_setIfInBounds_self_of_lt (by rw [Array.size_setIfInBounds]; omega)]
      · exact ((Upd.refl F w).setCell (p := ⟨g, o + xs.length * 2, none⟩) (.inl h7) _).setCell (p := ⟨g, o + xs.length * 2 + 1, none⟩) (.inl h7) _
      · intro k hk
        have : g = k := by simpa [Value.ownBlock] using hk
        subst this
        have := hlt g h7
        simpa [enc, setCells2, World.setCell] using this
    · obtain ⟨v', w', hrun, r1, r2⟩ := run_append_arg_grows (P := Try.prog) w 68 ty 77 i0 _ 2 24 Try.underlying68 hi hz0 hz1 hz2 zero2 (by decide) ⟨g, o, none⟩ xs.length cap (fl xs) (fl_length xs)
        (fun j u hu => by rw [add_plain, cell_of h2]; exact h6 j u hu)
        ad 1 c (enc x) rfl hc (by omega) (by unfold maxLen; omega) (by omega)
      have hu : Upd F w w' := ⟨r2.os, r2.tape, r2.output, r2.size, fun k hk _ => r2.block k hk (by simp)⟩
      refine ⟨v', w', hrun, ?_, hu, fun k hk => (r1.lt k hk).2⟩
      refine Sc.of_own (n := xs.length + 1) (xs := xs ++ [x]) (by rw [fl_append, hfl]; exact r1) (fun k hk => .inr (r1.lt k hk).1)

/-- A cell was appended; w: the world ahead of the element's own block. -/
structure Pushed (w : World) (F : Nat → Prop) (xs : Cs) (x : ByteArray × Nat) (v' : Value) (w' : World) : Prop where
  sl : Sc w' v' (fun j => v'.ownBlock = some j) (xs ++ [x])
  upd : Upd F w w'
  new : ∀ j, v'.ownBlock = some j → F j ∨ w.heap.size ≤ j
  lt : ∀ j, v'.ownBlock = some j → j < w'.heap.size

theorem run_push (h : Sc w v F xs) (hn : xs.length ≤ 1000000) (hlt : ∀ k, F k → k < w.heap.size) (ty : TypeId) (x : ByteArray × Nat) (c : Nat) :
    ∃ v' w', (Builtin.append_ #[68, 68] ty #[v, .slice (some ⟨w.heap.size, 0, none⟩) 1 c]).run Try.prog (w.alloc (.cells #[.string x.1, .int .i64 (x.2 : Int)] 77)) = .ok v' w' ∧ Pushed w F xs x v' w' := by
  have hb : Below w.heap.size w (w.alloc (.cells #[.string x.1, .int .i64 (x.2 : Int)] 77)) := (Below.refl _ _).alloc (Nat.le_refl _) _
  have hc : ∀ j u, (enc x)[j]? = some u → (w.alloc (.cells #[.string x.1, .int .i64 (x.2 : Int)] 77)).cell? ((⟨w.heap.size, 0, none⟩ : Addr).add j) = some u :=
    World.news_of_block (cs := #[.string x.1, .int .i64 (x.2 : Int)]) (heap_alloc_new w _)
  obtain ⟨v', w', h1, h2, h3, h4⟩ := run_one (h.below hb) hn (fun k hk => by have := hlt k hk; simp; omega) ty (c := c) hc
  exact ⟨v', w', h1, h2.own, (Upd.of_below (F := F) hb (fun i h1 h2 => by omega)).trans h3, fun j hj => (h2.own_in j hj).imp id (fun e => by simp at e; omega), h4⟩

theorem wpList_push {ops : Array Oper} {rest : List Oper} {o : Oper} {a : Act} {Q : Exit → Act → World → Prop} (hgd : o.guard = none) (s x : Operand)
    (ho : o.op = .call { callee := .builtin .append, args := #[s, x], argTypes := #[68, 68] }) (h : Sc w v F xs) (hn : xs.length ≤ 1000000) (hlt : ∀ k, F k → k < w.heap.size) (k : ByteArray) (m : Nat) (zm : Int) (hzm : zm = (m : Int)) (c H : Nat) (hH : w.heap.size = H)
    (hs : a.eval s = v) (hx : a.eval x = .slice (some ⟨H, 0, none⟩) 1 c) (hK : ∀ v' w', Pushed w F xs (k, m) v' w' → wpList Try.prog ops Q rest (a.put o.dst v') w') :
    wpList Try.prog ops Q (o :: rest) a (w.alloc (.cells #[.string k, .int .i64 zm] 77)) := by
  subst hH hzm
  obtain ⟨v', w', hrun, hp⟩ := run_push h hn hlt o.type (k, m) c
  refine wpList_plain hgd fun K hK' => ?_
  unfold Oper.wp
  simp [execOp, ho, resolve, invoke, builtin, hs, hx, hrun, Result.andThen]
  exact hK' _ _ (hK v' w' hp)

theorem step_push {ops : Array Oper} {o : Oper} {a : Act} {K : Act → World → Prop} {Q : Exit → Act → World → Prop} {E : Prop} (hgd : o.guard = none) (s x : Operand)
    (ho : o.op = .call { callee := .builtin .append, args := #[s, x], argTypes := #[68, 68] }) (h : Sc w v F xs) (hn : xs.length ≤ 1000000) (hlt : ∀ k, F k → k < w.heap.size) (k : ByteArray) (m : Nat) (zm : Int) (hzm : zm = (m : Int)) (c H : Nat) (hH : w.heap.size = H)
    (hs : a.eval s = v) (hx : a.eval x = .slice (some ⟨H, 0, none⟩) 1 c) (hK : ∀ v' w', Pushed w F xs (k, m) v' w' → K (a.put o.dst v') w') :
    if Region.wanted o (yielded ops a.tmps) = true then Oper.wp Try.prog o a (w.alloc (.cells #[.string k, .int .i64 zm] 77)) K Q else E := by
  subst hH hzm
  have hw : Region.wanted o (yielded ops a.tmps) = true := by simp [Region.wanted, hgd]
  rw [if_pos hw]
  obtain ⟨v', w', hrun, hp⟩ := run_push h hn hlt o.type (k, m) c
  unfold Oper.wp
  simp [execOp, ho, resolve, invoke, builtin, hs, hx, hrun, Result.andThen]
  exact hK v' w' hp

/-- Cells that lie somewhere are appended to a row of one's own. -/
theorem run_cat {B n : Nat} {vs : List Value} (hown : w.ownsRow B 77 2 v n vs) (hB : B ≤ w.heap.size) {g o : Nat} (hc : ∀ j u, (fl xs)[j]? = some u → w.cell? ⟨g, o + j, none⟩ = some u) (hn : n ≤ 1000000) (hy : xs.length ≤ 1000000) (ty : TypeId) (c : Nat) :
    ∃ v' w', (Builtin.append_ #[68, 68] ty #[v, .slice (some ⟨g, o, none⟩) xs.length c]).run Try.prog w = .ok v' w' ∧ w'.ownsRow B 77 2 v' (n + xs.length) (vs ++ fl xs) ∧ w.grownBy w' v.ownBlock := by
  obtain ⟨i0, hi, hz0, hz1, hz2⟩ := info_parts infoC
  obtain ⟨v', w', hrun, r1, r2, _⟩ := run_append_own (P := Try.prog) w B 68 ty 77 i0 _ 2 24 Try.underlying68 hi hz0 hz1 hz2 zero2 (by decide) v n vs hown ⟨g, o, none⟩ xs.length c (fl xs) (fl_length xs)
    (fun j u hu => by rw [add_plain]; exact hc j u hu) (fl_one xs) (by unfold maxLen; omega) (by omega) hB
  exact ⟨v', w', hrun, r1, r2⟩

theorem step_cat {ops : Array Oper} {oo : Oper} {a : Act} {K : Act → World → Prop} {Q : Exit → Act → World → Prop} {E : Prop} {B n : Nat} {vs : List Value} (hgd : oo.guard = none) (s x : Operand)
    (ho : oo.op = .call { callee := .builtin .append, args := #[s, x], argTypes := #[68, 68] }) (hown : w.ownsRow B 77 2 v n vs) (hB : B ≤ w.heap.size) {g o : Nat} (hc : ∀ j u, (fl xs)[j]? = some u → w.cell? ⟨g, o + j, none⟩ = some u) (hn : n ≤ 1000000) (hy : xs.length ≤ 1000000) (c m : Nat) (hm : m = xs.length)
    (hs : a.eval s = v) (hx : a.eval x = .slice (some ⟨g, o, none⟩) m c) (hK : ∀ v' w', w'.ownsRow B 77 2 v' (n + xs.length) (vs ++ fl xs) → w.grownBy w' v.ownBlock → K (a.put oo.dst v') w') :
    if Region.wanted oo (yielded ops a.tmps) = true then Oper.wp Try.prog oo a w K Q else E := by
  subst hm
  have hw : Region.wanted oo (yielded ops a.tmps) = true := by simp [Region.wanted, hgd]
  rw [if_pos hw]
  obtain ⟨v', w', hrun, h1, h2⟩ := run_cat hown hB hc hn hy oo.type c
  unfold Oper.wp
  simp [execOp, ho, resolve, invoke, builtin, hs, hx, hrun, Result.andThen]
  exact hK v' w' h1 h2
end

end Go.Proofs.Ytodiceafnkojiaa.Sc
