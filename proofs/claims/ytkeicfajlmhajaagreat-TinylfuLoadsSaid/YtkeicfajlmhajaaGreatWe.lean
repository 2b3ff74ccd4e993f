/- The laws of an engine alone: Told. -/
import Derived.Test.YtkeicfajlmhajaaGreatWd
namespace Go.Proofs.YtkeicfajlmhajaaGreat.Lw
open Go Go.RowKit Go.Proofs.YtkeicfajlmhajaaGreat.K Go.Proofs.YtkeicfajlmhajaaGreat.Sl
open Go.Proofs.YtkeicfajlmhajaaGreat.Li (more more_lt own_form')
open Go.Proofs.YtkeicfajlmhajaaGreat.Rw (cell_below cell_upd own_mono own_below)
open Go.Proofs.YtkeicfajlmhajaaGreat.Eg (Ks Eng access remove evict has stext res gho len cof init Inv AccPost Gone Texts)

section
variable {w0 w w' : World} {b c : Nat} {F F' D : Nat → Prop} {K K' : Ks} {v v' : Value} {ys : List ByteArray}

/-- The list is another, apart from the engine; the engine may have acted, too. -/
structure Apart (w0 : World) (b c : Nat) (F : Nat → Prop) (K : Ks) (D : Nat → Prop) (v : Value) (ys : List ByteArray) (w : World) : Prop where
  eng : Eng w b F c K
  sl : Sl w v D ys
  nod : ys.Nodup
  fnew : ∀ k, F k → w0.heap.size ≤ k
  dnew : ∀ k, D k → w0.heap.size ≤ k
  dlt : ∀ k, D k → k < w.heap.size
  sep : ∀ k, D k → ¬ F k
  bel : Below w0.heap.size w0 w
theorem Beside.apart (h : Beside w0 b c F K D v ys w) : Apart w0 b c F K D v ys w := ⟨h.eng, h.sl, h.nod, h.fnew, h.dnew, h.dlt, h.sep, h.bel⟩
theorem Apart.beside (h : Apart w0 b c F K D v ys w) (hm : ∀ x, x ∈ ys ↔ x ∈ res K) : Beside w0 b c F K D v ys w := ⟨h.eng, h.sl, hm, h.nod, h.fnew, h.dnew, h.dlt, h.sep, h.bel⟩
theorem Apart.eng' (h : Apart w0 b c F K D v ys w) (he : Eng w' b F' c K') (hs : Step F w F' w') : Apart w0 b c F' K' D v ys w' :=
  ⟨he, h.sl.upd hs.upd h.sep, h.nod, hs.above h.bel.size h.fnew, h.dnew, fun k hk => Nat.lt_of_lt_of_le (h.dlt k hk) hs.upd.size, hs.apart h.sep h.dlt, h.bel.trans (hs.below h.bel.size h.fnew)⟩
theorem Apart.below (h : Apart w0 b c F K D v ys w) (hb : Below w.heap.size w w') : Apart w0 b c F K D v ys w' :=
  ⟨h.eng.below hb, h.sl.below hb, h.nod, h.fnew, h.dnew, fun k hk => Nat.lt_of_lt_of_le (h.dlt k hk) hb.size, h.sep, h.bel.trans (hb.mono h.bel.size)⟩
/-- The list was cut. -/
theorem Apart.cut {n : Nat} {key : ByteArray} (h : Apart w0 b c F K D v ys w) (hb : Below w.heap.size w w') (ho : w'.ownsRow w.heap.size 9 1 v' n ((without ys key).map .string)) :
    Apart w0 b c F K (fun j => v'.ownBlock = some j) v' (without ys key) w' :=
  ⟨h.eng.below hb, Sl.of_own ho (fun _ h => h), h.nod.filter _, h.fnew, fun k hk => by have := (ho.lt k hk).1; have := h.bel.size; omega, fun k hk => (ho.lt k hk).2,
   fun k hk hf => by have := (ho.lt k hk).1; have := h.eng.lt k hf; omega, h.bel.trans (hb.mono h.bel.size)⟩
/-- The list got one more key. -/
theorem Apart.push {key : ByteArray} (h : Apart w0 b c F K D v ys w) (hp : Pushed w D ys key v' w') (hno : key ∉ ys) : Apart w0 b c F K (fun j => v'.ownBlock = some j) v' (ys ++ [key]) w' := by
  refine ⟨h.eng.upd hp.upd (fun k hf hd => h.sep k hd hf), hp.sl, ?_, h.fnew, fun k hk => ?_, hp.lt, fun k hk hf => ?_, h.bel.trans (hp.upd.below h.bel.size h.dnew)⟩
  · rw [List.nodup_append]
    refine ⟨h.nod, by simp, ?_⟩
    intro a ha x hx
    rw [List.mem_singleton] at hx
    subst hx
    rintro rfl
    exact hno ha
  · rcases hp.new k hk with h1 | h1
    · exact h.dnew k h1
    · have := h.bel.size; omega
  · rcases hp.new k hk with h1 | h1
    · exact h.sep k h1 hf
    · have := h.eng.lt k hf; omega
theorem mem_without {ys : List ByteArray} {x key : ByteArray} : x ∈ without ys key ↔ x ∈ ys ∧ x ≠ key := by simp [without]
end

theorem less_len_of_mem' {ys : List ByteArray} {k : ByteArray} (h : k ∈ ys) (hn : ys.Nodup) : (without ys k).length + 1 = ys.length := by
  obtain ⟨p, q, rfl⟩ := List.append_of_mem h
  rw [List.nodup_append, List.nodup_cons] at hn
  obtain ⟨-, ⟨n1, -⟩, n2⟩ := hn
  unfold without
  rw [List.filter_append, List.filter_cons_of_neg (by simp), List.filter_eq_self.2, List.filter_eq_self.2]
  · simp; omega
  · intro a ha
    refine decide_eq_true ?_
    rintro rfl
    exact n1 ha
  · intro a ha
    refine decide_eq_true ?_
    rintro rfl
    exact n2 a ha a (List.mem_cons_self ..) rfl

/-- The loop over who went: one key, or none. -/
def TRel (w0 : World) (b c : Nat) (F : Nat → Prop) (K : Ks) (ys : List ByteArray) (k : ByteArray) (v : Value) (w2 : World) (kk : Nat) (v6 v11 : Value) (w3 : World) : Prop :=
  (kk = 1 ∧ v6 = v ∧ v11 = .int .i64 0 ∧ w3 = w2) ∨ (kk = 0 ∧ v11 = .int .i64 1 ∧ ∃ D', Apart w0 b c F K D' v6 (without ys k) w3)

/-- The last loop: whoever is in the list is resident. -/
def LRel (w0 : World) (b c : Nat) (F : Nat → Prop) (K : Ks) (D : Nat → Prop) (v6 : Value) (ys : List ByteArray) (N : Nat) (k : Nat) (v12 : Value) (wr : World) : Prop :=
  ∃ j, j ≤ N ∧ k = N - j ∧ v12 = .int .i64 ((j : Nat) : Int) ∧ Beside w0 b c F K D v6 ys wr

end Go.Proofs.YtkeicfajlmhajaaGreat.Lw
