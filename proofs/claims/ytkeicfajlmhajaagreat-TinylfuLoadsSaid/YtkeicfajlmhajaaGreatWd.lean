/- The laws of an engine alone: Fits. -/
import Derived.Test.YtkeicfajlmhajaaGreatWc
namespace Go.Proofs.YtkeicfajlmhajaaGreat.Lw
open Go Go.RowKit Go.Proofs.YtkeicfajlmhajaaGreat.K Go.Proofs.YtkeicfajlmhajaaGreat.Sl
open Go.Proofs.YtkeicfajlmhajaaGreat.Li (more more_lt own_form')
open Go.Proofs.YtkeicfajlmhajaaGreat.Rw (cell_below cell_upd own_mono own_below)
open Go.Proofs.YtkeicfajlmhajaaGreat.Eg (Ks Eng access remove evict has stext res gho len cof init Inv AccPost Gone Texts)

/-- A list of keys of the law's own, beside an engine. -/
structure Beside (w0 : World) (b c : Nat) (F : Nat → Prop) (K : Ks) (D : Nat → Prop) (v : Value) (ys : List ByteArray) (w : World) : Prop where
  eng : Eng w b F c K
  sl : Sl w v D ys
  mem : ∀ x, x ∈ ys ↔ x ∈ res K
  nod : ys.Nodup
  fnew : ∀ k, F k → w0.heap.size ≤ k
  dnew : ∀ k, D k → w0.heap.size ≤ k
  dlt : ∀ k, D k → k < w.heap.size
  sep : ∀ k, D k → ¬ F k
  bel : Below w0.heap.size w0 w

def FRel (w0 : World) (b c N : Nat) (k : Nat) (v6 v7 : Value) (wr : World) : Prop :=
  ∃ F K D ys j, j ≤ N ∧ k = N - j ∧ v7 = .int .i64 ((j : Nat) : Int) ∧ ys.length ≤ j ∧ Beside w0 b c F K D v6 ys wr

theorem same_len {c : Nat} {K : Ks} (hi : Inv c K) {ys : List ByteArray} (hn : ys.Nodup) (h : ∀ x, x ∈ ys ↔ x ∈ res K) : ys.length = len K := by
  rw [← Eg.len_res]
  exact ((List.perm_ext_iff_of_nodup hn (Eg.res_nodup hi)).2 h).length_eq

section
variable {w0 w w' : World} {b c : Nat} {F F' D : Nat → Prop} {K K' : Ks} {v v' : Value} {ys : List ByteArray}

/-- The engine acted; the list is what it was, or fits again. -/
theorem Beside.eng' (h : Beside w0 b c F K D v ys w) (he : Eng w' b F' c K') (hs : Step F w F' w') (hm : ∀ x, x ∈ ys ↔ x ∈ res K') : Beside w0 b c F' K' D v ys w' := by
  have hb := Nat.le_trans h.bel.size (Nat.le_refl _)
  exact ⟨he, h.sl.upd hs.upd h.sep, hm, h.nod, hs.above h.bel.size h.fnew, h.dnew, fun k hk => Nat.lt_of_lt_of_le (h.dlt k hk) hs.upd.size, hs.apart h.sep h.dlt, h.bel.trans (hs.below h.bel.size h.fnew)⟩
theorem Beside.below (h : Beside w0 b c F K D v ys w) (hb : Below w.heap.size w w') : Beside w0 b c F K D v ys w' :=
  ⟨h.eng.below hb, h.sl.below hb, h.mem, h.nod, h.fnew, h.dnew, fun k hk => Nat.lt_of_lt_of_le (h.dlt k hk) hb.size, h.sep, h.bel.trans (hb.mono h.bel.size)⟩
/-- A key was appended, and the engine acted. -/
theorem Beside.push {key : ByteArray} {w2 : World} (h : Beside w0 b c F K D v ys w) (hp : Pushed w D ys key v' w') (hno : key ∉ ys) (he : Eng w2 b F' c K') (hs : Step F w' F' w2) (hm : ∀ x, x ∈ res K' ↔ x = key ∨ x ∈ res K) :
    Beside w0 b c F' K' (fun j => v'.ownBlock = some j) v' (ys ++ [key]) w2 := by
  have hsep : ∀ k, v'.ownBlock = some k → ¬ F k := fun k hk hf => by
    rcases hp.new k hk with h1 | h1
    · exact h.sep k h1 hf
    · have := h.eng.lt k hf; omega
  have hb' : Below w0.heap.size w0 w' := h.bel.trans (hp.upd.below h.bel.size h.dnew)
  refine ⟨he, hp.sl.upd hs.upd hsep, ?_, ?_, hs.above hb'.size h.fnew, fun k hk => ?_, fun k hk => Nat.lt_of_lt_of_le (hp.lt k hk) hs.upd.size, hs.apart hsep hp.lt, hb'.trans (hs.below hb'.size h.fnew)⟩
  · intro x
    rw [hm, List.mem_append, List.mem_singleton, h.mem]
    exact or_comm
  · rw [List.nodup_append]
    refine ⟨h.nod, by simp, ?_⟩
    intro a ha x hx
    rw [List.mem_singleton] at hx
    subst hx
    rintro rfl
    exact hno ha
  · rcases hp.new k hk with h1 | h1
    · exact h.dnew k h1
    · have := h.bel.size; omega
theorem Beside.eng_push {key : ByteArray} (h : Beside w0 b c F K D v ys w) (hp : Pushed w D ys key v' w') : Eng w' b F c K := h.eng.upd hp.upd (fun k hf hd => h.sep k hd hf)
end

end Go.Proofs.YtkeicfajlmhajaaGreat.Lw
