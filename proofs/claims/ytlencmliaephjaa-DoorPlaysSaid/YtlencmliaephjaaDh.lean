/- The heavy test of chapter 8's laws. -/
import Derived.Test.YtlencmliaephjaaDc
import Derived.Test.YtlencmliaephjaaStr
namespace Go.Proofs.Ytlencmliaephjaa.Do
open Go Go.RowKit Go.Proofs.Ytlencmliaephjaa.K

/-- Whether keys are more than is looked at. -/
def hv8 (l : List ByteArray) (k : Nat) : Bool := (l.take (min k 300)).any fun s => decide (60 < s.size)
def heavy8 (l : List ByteArray) : Bool := hv8 l l.length

theorem hv8_succ {l : List ByteArray} {k : Nat} {s : ByteArray} (h : l[k]? = some s) (hk : k < 300) : hv8 l (k + 1) = (hv8 l k || decide (60 < s.size)) := by
  obtain ⟨hl, rfl⟩ := List.getElem?_eq_some_iff.1 h
  unfold hv8
  rw [show min (k + 1) 300 = k + 1 by omega, show min k 300 = k by omega, List.take_succ_eq_append_getElem hl, List.any_append]
  simp
theorem heavy8_true {l : List ByteArray} {k : Nat} {s : ByteArray} (h : l[k]? = some s) (hk : k < 300) (hs : 60 < s.size) : heavy8 l = true := by
  unfold heavy8 hv8
  rw [List.any_eq_true]
  refine ⟨s, ?_, by simpa using hs⟩
  obtain ⟨hl, rfl⟩ := List.getElem?_eq_some_iff.1 h
  rw [List.mem_take_iff_getElem]
  exact ⟨k, by omega, rfl⟩
theorem heavy8_false {l : List ByteArray} (h : heavy8 l = false) : ∀ (j : Nat) s, j < 300 → l[j]? = some s → s.size ≤ 60 := fun j s hj hs => by
  rcases Nat.lt_or_ge 60 s.size with h' | h'
  · rw [heavy8_true hs hj h'] at h; cases h
  · exact h'

theorem heavy8_calls (A : Option Addr) (cap : Nat) (l : List ByteArray) (w : World) (hl : RStr w A l) :
    Calls Try.prog 17 #[.slice A l.length cap] w fun e w' => e = .returned (.bool (heavy8 l)) ∧ ∃ k, w' = w.drewN k := by
  have hlen := hl.len
  have HL := Lib.hid hl
  clear hl
  go_enter Try.func17, Try.ntmps17
  go_wp2_with fail
  go_loopw [3] (fun v3 wr => ∃ k : Nat, k ≤ l.length ∧ v3 = .int .i64 k ∧ hv8 l k = false ∧ ∃ q, wr = w.drewN q) (fun v3 wr => l.length - (intOf v3).toNat)
  case atStart => exact ⟨0, by omega, rfl, by simp [hv8], 0, rfl⟩
  case round =>
    obtain ⟨k, hk, rfl, hv, q, rfl⟩ := hrel
    have HV := Lib.hid hv
    clear hv
    by_cases hend : k < l.length ∧ k < 300
    · obtain ⟨hli, h3⟩ := hend
      obtain ⟨s, hsk⟩ : ∃ s, l[k]? = some s := ⟨_, List.getElem?_eq_getElem hli⟩
      obtain ⟨ab, ao, rfl, hcell⟩ := HL.out.get k s hsk
      have t1 : decide (k < l.length) = true := by simpa using hli
      have t2 : decide ((k : Int) < 300) = true := by simp; omega
      have HS := Lib.hid (hv8_succ hsk h3)
      have HT := Lib.hid (fun hs => heavy8_true hsk h3 hs)
      clear hsk
      by_cases hs : 60 < s.size
      · have t3 : decide ((60 : Int) < (s.size : Int)) = true := by simp; omega
        go_wp2_with fail
        go_ret
        exact ⟨ret_bool (HT.out hs).symm, _, rfl⟩
      · have t3 : decide ((60 : Int) < (s.size : Int)) = false := by simp; omega
        go_wp2_with fail
        go_roundw
        case rel => exact ⟨k + 1, by omega, by go_num, by rw [HS.out, HV.out]; simpa using hs, _, rfl⟩
        case measure => simp [intOf]; omega
    · have hends : decide (k < l.length) = true ∧ decide ((k : Int) < 300) = false ∨ decide (k < l.length) = false := by
        simp only [decide_eq_true_eq, decide_eq_false_iff_not]; omega
      have hf : heavy8 l = false := by
        have := HV.out
        unfold heavy8
        unfold hv8 at *
        by_cases e : k = l.length
        · subst e; exact this
        · rw [show min l.length 300 = min k 300 by omega]; exact this
      have HF := Lib.hid hf
      clear hf
      rcases hends with ⟨hli, hgd⟩ | hli
      all_goals
        go_wp2_with fail
        go_ret
        exact ⟨ret_bool HF.out.symm, _, rfl⟩

end Go.Proofs.Ytlencmliaephjaa.Do
