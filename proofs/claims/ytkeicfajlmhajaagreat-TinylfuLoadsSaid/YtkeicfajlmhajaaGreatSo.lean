/- Slices of strings: one row appended to another; join. -/
import Derived.Test.YtkeicfajlmhajaaGreatSl
import Derived.Test.YtkeicfajlmhajaaGreatShelf
namespace Go.Proofs.YtkeicfajlmhajaaGreat.Sl
open Go Go.RowKit Go.Proofs.YtkeicfajlmhajaaGreat.K
open Go.Proofs.YtkeicfajlmhajaaGreat.Li (more more_lt infoS own_form')

section
variable {w w' : World} {v : Value} {F : Nat → Prop} {B n c : Nat} {xs : List Value} {ys : List ByteArray} {A : Option Addr}

theorem grown_refl (w : World) (row : Option Nat) : w.grownBy w row := ⟨rfl, rfl, rfl, Nat.le_refl _, fun _ _ _ => rfl⟩

theorem run_cat (hown : w.ownsRow B 9 1 v n xs) (hB : B ≤ w.heap.size) (hs : Sl w (.slice A ys.length c) F ys) (hn : n ≤ 1000000) (hy : ys.length ≤ 1000000) (ty : TypeId) :
    ∃ v' w', (Builtin.append_ #[22, 22] ty #[v, .slice A ys.length c]).run Tryz.prog w = .ok v' w' ∧ w'.ownsRow B 9 1 v' (n + ys.length) (xs ++ ys.map .string) ∧ w.grownBy w' v.ownBlock := by
  obtain ⟨i0, hi, hz0, hz1, hz2⟩ := info_parts infoS
  rcases hs with ⟨h1, rfl⟩ | ⟨g, o, cap, cur, h1, h2, h3, h4, h5, h6, h7⟩
  · rw [h1]
    exact ⟨v, w, run_append_owned_none (P := Tryz.prog) w B 22 ty 9 i0 1 Tryz.underlying22 hi v n xs hown, by simpa using hown, grown_refl _ _⟩
  · cases h1
    obtain ⟨v', w', hrun, r1, r2, _⟩ := run_append_own (P := Tryz.prog) w B 22 ty 9 i0 (.string ByteArray.empty) 1 16 Tryz.underlying22 hi hz0 hz1 hz2 rfl (by decide) v n xs hown ⟨g, o, none⟩ ys.length c (ys.map .string) (by simp)
      (fun j u hu => by
        rw [List.getElem?_map] at hu
        cases hx : ys[j]? with
        | none => rw [hx] at hu; cases hu
        | some y =>
          rw [hx] at hu
          cases hu
          rw [add_plain, cell_of h2]
          exact h6 j y hx)
      (fun u hu => by obtain ⟨y, -, rfl⟩ := List.mem_map.1 hu; rfl) (by unfold maxLen; omega) (by omega) hB
    exact ⟨v', w', hrun, r1, r2⟩

theorem wpList_cat {ops : Array Oper} {rest : List Oper} {o : Oper} {a : Act} {Q : Exit → Act → World → Prop} (hgd : o.guard = none) (s x : Operand)
    (ho : o.op = .call { callee := .builtin .append, args := #[s, x], argTypes := #[22, 22] }) (hown : w.ownsRow B 9 1 v n xs) (hB : B ≤ w.heap.size) (hsl : Sl w (.slice A ys.length c) F ys) (hn : n ≤ 1000000) (hy : ys.length ≤ 1000000)
    (hs : a.eval s = v) (hx : a.eval x = .slice A ys.length c) (hK : ∀ v' w', w'.ownsRow B 9 1 v' (n + ys.length) (xs ++ ys.map .string) → w.grownBy w' v.ownBlock → wpList Tryz.prog ops Q rest (a.put o.dst v') w') :
    wpList Tryz.prog ops Q (o :: rest) a w := by
  obtain ⟨v', w', hrun, h1, h2⟩ := run_cat hown hB hsl hn hy o.type
  refine wpList_plain hgd fun K hK' => ?_
  unfold Oper.wp
  simp [execOp, ho, resolve, invoke, builtin, hs, hx, hrun, Result.andThen]
  exact hK' _ _ (hK v' w' h1 h2)

theorem step_cat {ops : Array Oper} {o : Oper} {a : Act} {K : Act → World → Prop} {Q : Exit → Act → World → Prop} {E : Prop} (hgd : o.guard = none) (s x : Operand)
    (ho : o.op = .call { callee := .builtin .append, args := #[s, x], argTypes := #[22, 22] }) (hown : w.ownsRow B 9 1 v n xs) (hB : B ≤ w.heap.size) (hsl : Sl w (.slice A ys.length c) F ys) (hn : n ≤ 1000000) (hy : ys.length ≤ 1000000)
    (hs : a.eval s = v) (hx : a.eval x = .slice A ys.length c) (hK : ∀ v' w', w'.ownsRow B 9 1 v' (n + ys.length) (xs ++ ys.map .string) → w.grownBy w' v.ownBlock → K (a.put o.dst v') w') :
    if Region.wanted o (yielded ops a.tmps) = true then Oper.wp Tryz.prog o a w K Q else E := by
  have hw : Region.wanted o (yielded ops a.tmps) = true := by simp [Region.wanted, hgd]
  rw [if_pos hw]
  obtain ⟨v', w', hrun, h1, h2⟩ := run_cat hown hB hsl hn hy o.type
  unfold Oper.wp
  simp [execOp, ho, resolve, invoke, builtin, hs, hx, hrun, Result.andThen]
  exact hK v' w' h1 h2
end

end Go.Proofs.YtkeicfajlmhajaaGreat.Sl
