/- Rows of strings: where a key stands, a row without a key. -/
import Derived.Test.YtkeicfajlmhajaaSl
import Derived.Deep.LoopGhost
import Derived.OwnWalk
import Derived.Test.YtkeicfajlmhajaaOpen
import Derived.Deep.QuietTactic
import Derived.BigQuiet
namespace Go.Proofs.Ytkeicfajlmhajaa.Sl
open Go Go.RowKit Go.Proofs.Ytkeicfajlmhajaa.K
open Go.Proofs.Ytkeicfajlmhajaa.Li (more more_lt infoS own_form')

theorem ne_list {a b : ByteArray} (h : a ≠ b) : (a.toList == b.toList) = false := by
  rw [beq_eq_false_iff_ne]
  intro e
  rw [ByteArray.toList_eq, ByteArray.toList_eq] at e
  exact h (ByteArray.ext (Array.toList_inj.1 e))

/-- A row without a key. -/
def without (xs : List ByteArray) (key : ByteArray) : List ByteArray := xs.filter (fun k => decide (k ≠ key))
theorem without_take {xs : List ByteArray} {j : Nat} {s : ByteArray} (hs : xs[j]? = some s) (key : ByteArray) : without (xs.take (j + 1)) key = if s = key then without (xs.take j) key else without (xs.take j) key ++ [s] := by
  have hj := lt_of_getElem? hs
  have e : xs[j] = s := by rw [List.getElem?_eq_getElem hj] at hs; exact Option.some.inj hs
  unfold without
  rw [← List.take_append_getElem hj, List.filter_append, e]
  by_cases h : s = key
  · rw [if_pos h, List.filter_cons_of_neg (by simpa using h)]; simp
  · rw [if_neg h, List.filter_cons_of_pos (by simpa using h)]; simp
theorem without_le (xs : List ByteArray) (key : ByteArray) (j : Nat) : (without (xs.take j) key).length ≤ xs.length :=
  Nat.le_trans (List.length_filter_le _ _) (List.length_take_le' _ _)

def CutPost (xs : List ByteArray) (key : ByteArray) (w : World) (e : Ending) (w' : World) : Prop :=
  ∃ v, e = .returned v ∧ w'.ownsRow w.heap.size 9 1 v (without xs key).length ((without xs key).map .string) ∧ Below w.heap.size w w' ∧ (without xs key = [] → v = .slice none 0 0)
def CutRel (w : World) (xs : List ByteArray) (key : ByteArray) (N k : Nat) (v5 v6 : Value) (wr : World) : Prop :=
  ∃ j : Nat, j ≤ N ∧ k = N - j ∧ v6 = .int .i64 (j : Int) ∧ wr.ownsRow w.heap.size 9 1 v5 (without (xs.take j) key).length ((without (xs.take j) key).map .string) ∧ Below w.heap.size w wr ∧ (without (xs.take j) key = [] → v5 = .slice none 0 0)
def Some (N : Nat) (w : World) (e : Ending) (w' : World) : Prop := (∃ i : Nat, e = .returned (.int .i64 (i : Int)) ∧ i ≤ N) ∧ w = w'

end Go.Proofs.Ytkeicfajlmhajaa.Sl

/- Rows of strings: the laws' own words on them. -/
namespace Go.Proofs.Ytkeicfajlmhajaa.Sl
open Go Go.RowKit Go.Proofs.Ytkeicfajlmhajaa.K
open Go.Proofs.Ytkeicfajlmhajaa.Li (more more_lt infoS own_form')

section
variable {w : World} {A : Option Addr} {xs : List ByteArray} {cap : Nat}

theorem w_has_yes (h : RStr w A xs) (hc : xs.length ≤ cap) (hl : xs.length ≤ 1000000) {key : ByteArray} (hk : key ∈ xs) :
    Calls Try.prog 10 #[.slice A xs.length cap, .string key] w (fun e w' => e = .returned (.bool true) ∧ w = w') := by
  obtain ⟨N, hN⟩ : ∃ N, N = xs.length := ⟨_, rfl⟩
  rw [← hN] at hc hl ⊢
  have HN := Lib.hid hN
  have H := Lib.hid h
  have HK := Lib.hid hk
  clear h hN hk
  go_enter Try.func10, Try.ntmps10
  go_wp2_with fail
  go_loopg [5] N (fun k v5 wr => w = wr ∧ ∃ j : Nat, j ≤ N ∧ k = N - j ∧ v5 = .int .i64 (j : Int) ∧ ∀ i s, i < j → xs[i]? = some s → s ≠ key)
  case atStart => exact ⟨rfl, 0, by omega, by omega, rfl, fun i s hi => by omega⟩
  case round =>
    obtain ⟨rfl, j, hj, hgk, rfl, hno⟩ := hrel
    have HGK := Lib.hid hgk
    have HNO := Lib.hid hno
    clear hgk hno
    have hjl : j < N := by
      rcases Nat.eq_or_lt_of_le hj with rfl | h
      · obtain ⟨i, hi, he⟩ := List.mem_iff_getElem.1 HK.out
        exact absurd he (HNO.out i _ (by rw [HN.out]; exact hi) (List.getElem?_eq_getElem hi))
      · exact h
    obtain ⟨s, hs⟩ : ∃ s, xs[j]? = some s := ⟨_, List.getElem?_eq_getElem (by rw [← HN.out]; exact hjl)⟩
    obtain ⟨g, o, rfl, hcell⟩ := H.out.get j s hs
    have HS := Lib.hid hs
    clear hs
    have z0 : (0 : Int) ≤ (j : Int) := by omega
    have z1 : (j : Int) < (N : Int) := by omega
    by_cases e : s = key
    · subst e
      go_wp2_with fail
      go_ret
      exact ⟨rfl, rfl⟩
    · have dS := ne_list e
      go_wp2_with fail
      go_roundg (N - (j + 1))
      case measure => rw [HGK.out]; omega
      case rel => exact ⟨rfl, j + 1, hjl, rfl, rfl, fun i u hi hu => by
        rcases Nat.lt_or_eq_of_le (Nat.le_of_lt_succ hi) with h | rfl
        · exact HNO.out i u h hu
        · rw [HS.out] at hu; cases hu; exact e⟩

theorem w_has_no (h : RStr w A xs) (hc : xs.length ≤ cap) (hl : xs.length ≤ 1000000) {key : ByteArray} (hk : key ∉ xs) :
    Calls Try.prog 10 #[.slice A xs.length cap, .string key] w fun e w' => e = .returned (.bool false) ∧ w = w' := by
  obtain ⟨N, hN⟩ : ∃ N, N = xs.length := ⟨_, rfl⟩
  rw [← hN] at hc hl ⊢
  have HN := Lib.hid hN
  have H := Lib.hid h
  have HK := Lib.hid hk
  clear h hN hk
  go_enter Try.func10, Try.ntmps10
  go_wp2_with fail
  go_loopg [5] N (fun k v5 wr => w = wr ∧ ∃ j : Nat, j ≤ N ∧ k = N - j ∧ v5 = .int .i64 (j : Int))
  case atStart => exact ⟨rfl, 0, by omega, by omega, rfl⟩
  case round =>
    obtain ⟨rfl, j, hj, hgk, rfl⟩ := hrel
    have HGK := Lib.hid hgk
    clear hgk
    rcases Nat.eq_or_lt_of_le hj with rfl | hjl
    · go_wp2_with fail
      go_ret
      exact ⟨rfl, rfl⟩
    · obtain ⟨s, hs⟩ : ∃ s, xs[j]? = some s := ⟨_, List.getElem?_eq_getElem (by rw [← HN.out]; exact hjl)⟩
      obtain ⟨g, o, rfl, hcell⟩ := H.out.get j s hs
      have e : s ≠ key := by rintro rfl; exact HK.out (List.mem_of_getElem? hs)
      clear hs
      have z0 : (0 : Int) ≤ (j : Int) := by omega
      have z1 : (j : Int) < (N : Int) := by omega
      have dS := ne_list e
      go_wp2_with fail
      go_roundg (N - (j + 1))
      case measure => rw [HGK.out]; omega
      case rel => exact ⟨rfl, j + 1, hjl, rfl, rfl⟩

set_option maxHeartbeats 400000 in
theorem w_cut (h : RStr w A xs) (hc : xs.length ≤ cap) (hl : xs.length ≤ 1000000) (key : ByteArray) :
    Calls Try.prog 16 #[.slice A xs.length cap, .string key] w (CutPost xs key w) := by
  obtain ⟨i0, hi0, hz0, hz1, hz2⟩ := info_parts infoS
  obtain ⟨N, hN⟩ : ∃ N, N = xs.length := ⟨_, rfl⟩
  rw [← hN] at hc hl ⊢
  have HN := Lib.hid hN
  have H := Lib.hid h
  clear h hN
  go_enter Try.func16, Try.ntmps16
  go_wp2_with fail
  go_loopg [5, 6] N (fun k v5 v6 wr => CutRel w xs key N k v5 v6 wr)
  case atStart => exact ⟨0, by omega, by omega, rfl, World.ownsRow_nil _ _ _ _, Below.refl _ _, fun _ => rfl⟩
  case round =>
    obtain ⟨j, hj, hgk, rfl, ho, hb, hnil⟩ := hrel
    obtain ⟨gA, gc, rfl⟩ := own_form' ho
    have HGK := Lib.hid hgk
    have HO := Lib.hid ho
    have HB := Lib.hid hb
    have HNIL := Lib.hid hnil
    clear hgk ho hb hnil
    rcases Nat.eq_or_lt_of_le hj with rfl | hjl
    · go_wp2_with fail
      go_ret
      have e : xs.take j = xs := by rw [HN.out, List.take_length]
      have h1 := HO.out
      have h2 := HNIL.out
      rw [e] at h1 h2 ⊢
      exact ⟨_, rfl, h1, HB.out, h2⟩
    · obtain ⟨s, hs⟩ : ∃ s, xs[j]? = some s := ⟨_, List.getElem?_eq_getElem (by rw [← HN.out]; exact hjl)⟩
      obtain ⟨g, o, rfl, hcell⟩ := (H.out.below HB.out).get j s hs
      have z0 : (0 : Int) ≤ (j : Int) := by omega
      have z1 : (j : Int) < (N : Int) := by omega
      have hw := without_take hs key
      have hle := without_le xs key j
      rw [← HN.out] at hle
      by_cases e : s = key
      · subst e
        rw [if_pos rfl] at hw
        have HW := Lib.hid hw
        clear hw hs
        go_wp2_with fail
        go_roundg (N - (j + 1))
        case measure => rw [HGK.out]; omega
        case rel => exact ⟨j + 1, hjl, rfl, rfl, by rw [HW.out]; exact HO.out, HB.out, by rw [HW.out]; exact HNIL.out⟩
      · have dS := ne_list e
        rw [if_neg e] at hw
        have HW := Lib.hid hw
        have HWS := Lib.hid HB.out.size
        clear hw hs
        generalize hP : without (xs.take j) key = P at *
        clear hP
        obtain ⟨q, hq⟩ : ∃ q, q = P.length := ⟨_, rfl⟩
        rw [← hq] at hle HO ⊢
        have HQ := Lib.hid hq
        clear hq
        go_wp2_with (at_builtin; refine wpList_append_lies _ rfl _ _ 22 rfl w.heap.size 9 i0 (.string ByteArray.empty) 1 16 Try.underlying22 hi0 hz0 hz1 hz2 rfl (by decide) (.slice gA q gc) q _ rfl (HO.out.alloc _) ⟨wr.heap.size, 0, none⟩ 1 1 [.string s] rfl rfl (World.news_of_block (cs := #[.string s]) (heap_alloc_new wr _)) (by simp [Value.oneCell']) (by omega) (by unfold maxLen; omega) (by omega) (by simp; have := HWS.out; omega) (wr.heap.size + 1) (by simp) ?_; intro f' cf' w3 hown hgr hat hlt3; have hb3 := HB.out.grown (Li.grown_al hgr) HWS.out (fun g hg => (HO.out.lt g hg).1); have HO3 := Lib.hid hown; have HB3 := Lib.hid hb3; clear hown hgr hat hlt3 hb3)
        go_roundg (N - (j + 1))
        case measure => rw [HGK.out]; omega
        case rel => exact ⟨j + 1, hjl, rfl, rfl, by rw [HW.out, List.length_append, ← HQ.out, List.map_append]; exact HO3.out, HB3.out, fun e => by rw [HW.out] at e; simp at e⟩
end

end Go.Proofs.Ytkeicfajlmhajaa.Sl

/- The laws' own small functions: texts, long, heavy. -/
namespace Go.Proofs.Ytkeicfajlmhajaa.Lw
open Go Go.RowKit Go.Proofs.Ytkeicfajlmhajaa.K Go.Proofs.Ytkeicfajlmhajaa.Sl

section
variable {w : World} {A B : Option Addr} {xs : List ByteArray} {ca cb cap : Nat}

theorem texts_same (ha : RStr w A xs) (hb : RStr w B xs) (hca : xs.length ≤ ca) (hcb : xs.length ≤ cb) (hl : xs.length ≤ 1000000) :
    Calls Try.prog 14 #[.slice A xs.length ca, .slice B xs.length cb] w fun e w' => e = .returned (.bool true) ∧ Below w.heap.size w w' := by
  obtain ⟨N, hN⟩ : ∃ N, N = xs.length := ⟨_, rfl⟩
  rw [← hN] at hca hcb hl ⊢
  have HN := Lib.hid hN
  have HA := Lib.hid ha
  have HB := Lib.hid hb
  clear ha hb hN
  go_enter Try.func14, Try.ntmps14
  go_wp2_with fail
  go_loopg [5] N (fun k v5 wr => ∃ m, wr = w.drewN m ∧ ∃ j : Nat, j ≤ N ∧ k = N - j ∧ v5 = .int .i64 (j : Int))
  case atStart => exact ⟨0, rfl, 0, by omega, by omega, rfl⟩
  case round =>
    obtain ⟨m, rfl, j, hj, hgk, rfl⟩ := hrel
    have HGK := Lib.hid hgk
    clear hgk
    rcases Nat.eq_or_lt_of_le hj with rfl | hjl
    · go_wp2_with fail
      go_ret
      exact ⟨rfl, below_drewN (Below.refl _ _) m⟩
    · obtain ⟨s, hs⟩ : ∃ s, xs[j]? = some s := ⟨_, List.getElem?_eq_getElem (by rw [← HN.out]; exact hjl)⟩
      obtain ⟨g, o, rfl, hcell⟩ := HA.out.get j s hs
      obtain ⟨g2, o2, rfl, hcell2⟩ := HB.out.get j s hs
      clear hs
      have z0 : (0 : Int) ≤ (j : Int) := by omega
      have z1 : (j : Int) < (N : Int) := by omega
      go_wp2_with fail
      go_quiet (fail)
      go_wp2_with fail
      go_roundg (N - (j + 1))
      case measure => rw [HGK.out]; omega
      case rel => exact ⟨m + nq, rfl, j + 1, hjl, rfl, rfl⟩

/-- long tells: it is not said of keys that are short, and few. -/
theorem long_any (h : RStr w A xs) (hc : xs.length ≤ cap) (hl : xs.length ≤ 8796093021952) :
    ∃ r : Bool, (Calls Try.prog 8 #[.slice A xs.length cap] w fun e w' => e = .returned (.bool r) ∧ w = w') ∧ (r = false → xs.length ≤ 200 ∧ ∀ s ∈ xs, s.size ≤ 40) := by
  by_cases h200 : 200 < xs.length
  · refine ⟨true, ?_, fun e => by cases e⟩
    generalize xs.length = N at *
    have i1 : (200 : Int) < (N : Int) := by omega
    go_enter Try.func8, Try.ntmps8
    go_wp2_with fail
    go_ret
    exact ⟨rfl, rfl⟩
  · by_cases hb : ∃ s ∈ xs, 40 < s.size
    · refine ⟨true, ?_, fun e => by cases e⟩
      obtain ⟨N, hN⟩ : ∃ N, N = xs.length := ⟨_, rfl⟩
      rw [← hN] at hc h200 ⊢
      have HN := Lib.hid hN
      have H := Lib.hid h
      have HB := Lib.hid hb
      clear h hb hN hl
      go_enter Try.func8, Try.ntmps8
      go_wp2_with fail
      go_loopg [3] N (fun k v3 wr => w = wr ∧ ∃ j : Nat, j ≤ N ∧ k = N - j ∧ v3 = .int .i64 (j : Int) ∧ ∀ i s, i < j → xs[i]? = some s → s.size ≤ 40)
      case atStart => exact ⟨rfl, 0, by omega, by omega, rfl, fun i s hi => by omega⟩
      case round =>
        obtain ⟨rfl, j, hj, hgk, rfl, hno⟩ := hrel
        have HGK := Lib.hid hgk
        have HNO := Lib.hid hno
        clear hgk hno
        have hjl : j < N := by
          rcases Nat.eq_or_lt_of_le hj with rfl | h
          · obtain ⟨s, hs, h40⟩ := HB.out
            obtain ⟨i, hi, he⟩ := List.mem_iff_getElem.1 hs
            have := HNO.out i s (by rw [HN.out]; exact hi) (by rw [List.getElem?_eq_getElem hi, he])
            omega
          · exact h
        obtain ⟨s, hs⟩ : ∃ s, xs[j]? = some s := ⟨_, List.getElem?_eq_getElem (by rw [← HN.out]; exact hjl)⟩
        obtain ⟨g, o, rfl, hcell⟩ := H.out.get j s hs
        have HS := Lib.hid hs
        clear hs
        have z0 : (0 : Int) ≤ (j : Int) := by omega
        have z1 : (j : Int) < (N : Int) := by omega
        by_cases e : 40 < s.size
        · have e1 : (40 : Int) < (s.size : Int) := by omega
          go_wp2_with fail
          go_ret
          exact ⟨rfl, rfl⟩
        · have e1 : ¬ (40 : Int) < (s.size : Int) := by omega
          go_wp2_with fail
          go_roundg (N - (j + 1))
          case measure => rw [HGK.out]; omega
          case rel => exact ⟨rfl, j + 1, hjl, rfl, rfl, fun i u hi hu => by
            rcases Nat.lt_or_eq_of_le (Nat.le_of_lt_succ hi) with h | rfl
            · exact HNO.out i u h hu
            · rw [HS.out] at hu; cases hu; omega⟩
    · have hs40 : ∀ s ∈ xs, s.size ≤ 40 := fun s hs => Nat.le_of_not_lt (fun hh => hb ⟨s, hs, hh⟩)
      refine ⟨false, ?_, fun _ => ⟨by omega, hs40⟩⟩
      obtain ⟨N, hN⟩ : ∃ N, N = xs.length := ⟨_, rfl⟩
      rw [← hN] at hc h200 ⊢
      have HN := Lib.hid hN
      have H := Lib.hid h
      have HB := Lib.hid hs40
      clear h hb hN hl hs40
      go_enter Try.func8, Try.ntmps8
      go_wp2_with fail
      go_loopg [3] N (fun k v3 wr => w = wr ∧ ∃ j : Nat, j ≤ N ∧ k = N - j ∧ v3 = .int .i64 (j : Int))
      case atStart => exact ⟨rfl, 0, by omega, by omega, rfl⟩
      case round =>
        obtain ⟨rfl, j, hj, hgk, rfl⟩ := hrel
        have HGK := Lib.hid hgk
        clear hgk
        rcases Nat.eq_or_lt_of_le hj with rfl | hjl
        · go_wp2_with fail
          go_ret
          exact ⟨rfl, rfl⟩
        · obtain ⟨s, hs⟩ : ∃ s, xs[j]? = some s := ⟨_, List.getElem?_eq_getElem (by rw [← HN.out]; exact hjl)⟩
          obtain ⟨g, o, rfl, hcell⟩ := H.out.get j s hs
          have e := HB.out s (List.mem_of_getElem? hs)
          have e1 : ¬ (40 : Int) < (s.size : Int) := by omega
          clear hs
          have z0 : (0 : Int) ≤ (j : Int) := by omega
          have z1 : (j : Int) < (N : Int) := by omega
          go_wp2_with fail
          go_roundg (N - (j + 1))
          case measure => rw [HGK.out]; omega
          case rel => exact ⟨rfl, j + 1, hjl, rfl, rfl⟩

end

end Go.Proofs.Ytkeicfajlmhajaa.Lw
