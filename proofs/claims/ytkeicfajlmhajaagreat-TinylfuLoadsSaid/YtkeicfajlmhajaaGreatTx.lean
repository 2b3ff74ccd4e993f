/- A row as a text. -/
import Derived.Test.YtkeicfajlmhajaaGreatSo
import Derived.Test.YtkeicfajlmhajaaGreatQc
namespace Go.Proofs.YtkeicfajlmhajaaGreat.Tx
open Go Go.RowKit Go.Proofs.YtkeicfajlmhajaaGreat.K Go.Proofs.YtkeicfajlmhajaaGreat.Sl
open Go.Proofs.YtkeicfajlmhajaaGreat.Li (more more_lt infoS own_form')
open Go.Proofs.YtkeicfajlmhajaaGreat.Rw (own_mono own_below cell_below)

/-- The bytes of a row's text behind its name. -/
def tail (ys : List ByteArray) : List UInt8 := ys.flatMap fun k => 32 :: k.data.toList
def txt (name : List UInt8) (ys : List ByteArray) : List UInt8 := name ++ 58 :: tail ys
def str (l : List UInt8) : ByteArray := ⟨l.toArray⟩

theorem join_tail (ys : List ByteArray) : Lib.join (([] : List UInt8) :: ys.map (·.data.toList)) [32] = tail ys := by
  rw [Lib.join_cons, List.nil_append]
  unfold Lib.joinTail tail
  rw [List.map_map, List.flatMap_def]
  rfl

theorem tail_len (ys : List ByteArray) (h : ∀ k ∈ ys, k.size ≤ 40) : (tail ys).length ≤ 41 * ys.length := by
  induction ys with
  | nil => simp [tail]
  | cons y ys ih =>
    have h1 := ih (fun k hk => h k (List.mem_cons_of_mem _ hk))
    have h2 := h y (List.mem_cons_self ..)
    have h3 : y.data.toList.length = y.size := Array.length_toList
    unfold tail at h1 ⊢
    rw [List.flatMap_cons, List.length_append, List.length_cons, h3, List.length_cons]
    omega

theorem text_str (name : ByteArray) (ys : List ByteArray) : name ++ ⟨#[58]⟩ ++ str (tail ys) = str (txt name.data.toList ys) := by
  unfold str txt
  apply ByteArray.ext
  rw [ByteArray.data_append, ByteArray.data_append]
  apply Array.ext'
  simp

section
variable {w : World} {A : Option Addr} {ys : List ByteArray} {cap : Nat} {F : Nat → Prop}

theorem join_own {B n : Nat} {v : Value} {xs : List ByteArray} (ho : w.ownsRow B 9 1 v n (xs.map .string)) (h0 : xs ≠ []) (h1 : xs.length ≤ 1000000) (sep : ByteArray) (hl : (Lib.join (xs.map (·.data.toList)) sep.data.toList).length ≤ 140737488355328) :
    Calls Tryz.prog 53 #[v, .string sep] w fun e w' => e = .returned (.string (str (Lib.join (xs.map (·.data.toList)) sep.data.toList))) ∧ Below w.heap.size w w' := by
  have hs := Sl.of_own (F := fun _ => True) ho (fun _ _ => trivial)
  rcases hs with ⟨_, h⟩ | ⟨g, o, cap, cur, rfl, h2, h3, h4, h5, h6, h7⟩
  · exact absurd h h0
  · exact Tryz.strings_Join g o cap xs sep w (fun j x hj => by rw [cell_of h2]; exact h6 j x hj) (lt_of_block h2) (by omega) h3 hl

theorem text_any (h : Sl w (.slice A ys.length cap) F ys) (hl : ys.length ≤ 3000) (hk : ∀ k ∈ ys, k.size ≤ 40) (name : ByteArray) (hn : name.size ≤ 10) :
    Calls Tryz.prog 54 #[.string name, .slice A ys.length cap] w fun e w' => e = .returned (.string (str (txt name.data.toList ys))) ∧ Below w.heap.size w w' := by
  have OW := Lib.hid (World.ownsRow_lit (base := w.heap.size) (e := 9) (size := 1) w #[.string ByteArray.empty] 1 (Nat.le_refl _) (by unfold maxLen; omega) rfl)
  have SL := Lib.hid (h.below ((Below.refl _ _).alloc (Nat.le_refl _) (.cells #[.string ByteArray.empty] 9)))
  have HT := Lib.hid (tail_len ys hk)
  have HJ : Hid ((Lib.join ((ByteArray.empty :: ys).map (·.data.toList)) (⟨#[32]⟩ : ByteArray).data.toList).length ≤ 140737488355328) := Lib.hid (by
    have e : Lib.join ((ByteArray.empty :: ys).map (·.data.toList)) (⟨#[32]⟩ : ByteArray).data.toList = tail ys := join_tail ys
    rw [e]
    have := tail_len ys hk
    omega)
  clear h hk
  go_enter Tryz.func54, Tryz.ntmps54
  go_wp2_with (at_builtin; refine wpList_cat rfl _ _ rfl OW.out (by simp) SL.out (by omega) (by omega) rfl rfl ?_; intro v' w2 ho hg; obtain ⟨A', c', hv⟩ := own_form' ho; subst hv; have HO := Lib.hid ho; have HG := Lib.hid hg; clear ho hg)
  have JN := Lib.hid (join_own (xs := ByteArray.empty :: ys) (w := w2) (B := w.heap.size) (v := .slice A' (1 + ys.length) c') (n := 1 + ys.length) HO.out (by simp) (by simp; omega) ⟨#[32]⟩ HJ.out)
  have HZ : Hid ((str (Lib.join ((ByteArray.empty :: ys).map (·.data.toList)) (⟨#[32]⟩ : ByteArray).data.toList)) = str (tail ys)) := Lib.hid (congrArg str (join_tail ys))
  rw [HZ.out] at JN
  have hz : (str (tail ys)).size ≤ 200000 := by
    have := HT.out
    show (tail ys).toArray.size ≤ _
    simp
    omega
  obtain ⟨z, hzz⟩ : ∃ z, z = str (tail ys) := ⟨_, rfl⟩
  rw [← hzz] at JN hz
  have HZZ := Lib.hid hzz
  clear hzz
  refine JN.out.mono ?_
  rintro e w3 ⟨rfl, hb3⟩
  have HB3 := Lib.hid hb3
  clear hb3
  go_wp2_with fail
  go_ret
  have hb : Below w.heap.size w w2 := ((Below.refl w.heap.size w).alloc (Nat.le_refl _) _).grown HG.out (by simp) (fun g hg => (OW.out.lt g hg).1)
  refine ⟨?_, hb.trans (HB3.out.mono hb.size)⟩
  rw [HZZ.out, text_str]
  rfl
end

/-- Three rows as one text. -/
def three (a b c : List UInt8) : List UInt8 := a ++ 59 :: (b ++ 59 :: c)
theorem join_three (a b c : List UInt8) : Lib.join [a, b, c] [59] = three a b c := by
  rw [Lib.join_cons]
  simp [Lib.joinTail, three]

end Go.Proofs.YtkeicfajlmhajaaGreat.Tx
