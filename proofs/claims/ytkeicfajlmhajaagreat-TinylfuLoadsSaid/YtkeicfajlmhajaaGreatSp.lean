/- Rows of strings: the reference's has and cut. -/
import Derived.Test.YtkeicfajlmhajaaGreatSm
namespace Go.Proofs.YtkeicfajlmhajaaGreat.Sl
open Go Go.RowKit Go.Proofs.YtkeicfajlmhajaaGreat.K
open Go.Proofs.YtkeicfajlmhajaaGreat.Li (more more_lt infoS own_form')

section
variable {w : World} {A : Option Addr} {xs : List ByteArray} {cap : Nat}

theorem q_has_yes (h : RStr w A xs) (hc : xs.length ≤ cap) (hl : xs.length ≤ 1000000) {key : ByteArray} (hk : key ∈ xs) :
    Calls Tryz.prog 46 #[.slice A xs.length cap, .string key] w (Some xs.length w) := by
  obtain ⟨N, hN⟩ : ∃ N, N = xs.length := ⟨_, rfl⟩
  rw [← hN] at hc hl ⊢
  have HN := Lib.hid hN
  have H := Lib.hid h
  have HK := Lib.hid hk
  clear h hN hk
  go_enter Tryz.func46, Tryz.ntmps46
  go_wp2_with fail
  go_loopg [5] N (fun k v5 wr => w = wr ∧ ∃ j : Nat, j ≤ N ∧ k = N - j ∧ v5 = .int .i64 (j : Int) ∧ ∀ i s, i < j → xs[i]? = some s → s ≠ key)
  case atStart => exact ⟨rfl, 0, by omega, by omega, rfl, fun i s hi => by omega⟩
  case round =>
    obtain ⟨rfl, j, hj, hgk, rfl, hno⟩ := hrel
    have HGK := Lib.hid hgk
    have HNO := Lib.hid hno
    clear hgk hno
    have hjl : j < N := by
      rcases Nat.eq_or_lt_of_le hj with rfl | h
      · obtain ⟨i, hi, he⟩ := List.mem_iff_getElem.1 HK.out
        exact absurd he (HNO.out i _ (by rw [HN.out]; exact hi) (List.getElem?_eq_getElem hi))
      · exact h
    obtain ⟨s, hs⟩ : ∃ s, xs[j]? = some s := ⟨_, List.getElem?_eq_getElem (by rw [← HN.out]; exact hjl)⟩
    obtain ⟨g, o, rfl, hcell⟩ := H.out.get j s hs
    have HS := Lib.hid hs
    clear hs
    have z0 : (0 : Int) ≤ (j : Int) := by omega
    have z1 : (j : Int) < (N : Int) := by omega
    by_cases e : s = key
    · subst e
      go_wp2_with fail
      go_ret
      exact ⟨⟨j, rfl, hj⟩, rfl⟩
    · have dS := ne_list e
      go_wp2_with fail
      go_roundg (N - (j + 1))
      case measure => rw [HGK.out]; omega
      case rel => exact ⟨rfl, j + 1, hjl, rfl, rfl, fun i u hi hu => by
        rcases Nat.lt_or_eq_of_le (Nat.le_of_lt_succ hi) with h | rfl
        · exact HNO.out i u h hu
        · rw [HS.out] at hu; cases hu; exact e⟩

theorem q_has_no (h : RStr w A xs) (hc : xs.length ≤ cap) (hl : xs.length ≤ 1000000) {key : ByteArray} (hk : key ∉ xs) :
    Calls Tryz.prog 46 #[.slice A xs.length cap, .string key] w fun e w' => e = .returned (.int .i64 (-1)) ∧ w = w' := by
  obtain ⟨N, hN⟩ : ∃ N, N = xs.length := ⟨_, rfl⟩
  rw [← hN] at hc hl ⊢
  have HN := Lib.hid hN
  have H := Lib.hid h
  have HK := Lib.hid hk
  clear h hN hk
  go_enter Tryz.func46, Tryz.ntmps46
  go_wp2_with fail
  go_loopg [5] N (fun k v5 wr => w = wr ∧ ∃ j : Nat, j ≤ N ∧ k = N - j ∧ v5 = .int .i64 (j : Int))
  case atStart => exact ⟨rfl, 0, by omega, by omega, rfl⟩
  case round =>
    obtain ⟨rfl, j, hj, hgk, rfl⟩ := hrel
    have HGK := Lib.hid hgk
    clear hgk
    rcases Nat.eq_or_lt_of_le hj with rfl | hjl
    · go_wp2_with fail
      go_ret
      exact ⟨rfl, rfl⟩
    · obtain ⟨s, hs⟩ : ∃ s, xs[j]? = some s := ⟨_, List.getElem?_eq_getElem (by rw [← HN.out]; exact hjl)⟩
      obtain ⟨g, o, rfl, hcell⟩ := H.out.get j s hs
      have e : s ≠ key := by rintro rfl; exact HK.out (List.mem_of_getElem? hs)
      clear hs
      have z0 : (0 : Int) ≤ (j : Int) := by omega
      have z1 : (j : Int) < (N : Int) := by omega
      have dS := ne_list e
      go_wp2_with fail
      go_roundg (N - (j + 1))
      case measure => rw [HGK.out]; omega
      case rel => exact ⟨rfl, j + 1, hjl, rfl, rfl⟩

set_option maxHeartbeats 400000 in
theorem q_cut (h : RStr w A xs) (hc : xs.length ≤ cap) (hl : xs.length ≤ 1000000) (key : ByteArray) :
    Calls Tryz.prog 63 #[.slice A xs.length cap, .string key] w (CutPost xs key w) := by
  obtain ⟨i0, hi0, hz0, hz1, hz2⟩ := info_parts infoS
  obtain ⟨N, hN⟩ : ∃ N, N = xs.length := ⟨_, rfl⟩
  rw [← hN] at hc hl ⊢
  have HN := Lib.hid hN
  have H := Lib.hid h
  clear h hN
  go_enter Tryz.func63, Tryz.ntmps63
  go_wp2_with fail
  go_loopg [5, 6] N (fun k v5 v6 wr => CutRel w xs key N k v5 v6 wr)
  case atStart => exact ⟨0, by omega, by omega, rfl, World.ownsRow_nil _ _ _ _, Below.refl _ _, fun _ => rfl⟩
  case round =>
    obtain ⟨j, hj, hgk, rfl, ho, hb, hnil⟩ := hrel
    obtain ⟨gA, gc, rfl⟩ := own_form' ho
    have HGK := Lib.hid hgk
    have HO := Lib.hid ho
    have HB := Lib.hid hb
    have HNIL := Lib.hid hnil
    clear hgk ho hb hnil
    rcases Nat.eq_or_lt_of_le hj with rfl | hjl
    · go_wp2_with fail
      go_ret
      have e : xs.take j = xs := by rw [HN.out, List.take_length]
      have h1 := HO.out
      have h2 := HNIL.out
      rw [e] at h1 h2 ⊢
      exact ⟨_, rfl, h1, HB.out, h2⟩
    · obtain ⟨s, hs⟩ : ∃ s, xs[j]? = some s := ⟨_, List.getElem?_eq_getElem (by rw [← HN.out]; exact hjl)⟩
      obtain ⟨g, o, rfl, hcell⟩ := (H.out.below HB.out).get j s hs
      have z0 : (0 : Int) ≤ (j : Int) := by omega
      have z1 : (j : Int) < (N : Int) := by omega
      have hw := without_take hs key
      have hle := without_le xs key j
      rw [← HN.out] at hle
      by_cases e : s = key
      · subst e
        rw [if_pos rfl] at hw
        have HW := Lib.hid hw
        clear hw hs
        go_wp2_with fail
        go_roundg (N - (j + 1))
        case measure => rw [HGK.out]; omega
        case rel => exact ⟨j + 1, hjl, rfl, rfl, by rw [HW.out]; exact HO.out, HB.out, by rw [HW.out]; exact HNIL.out⟩
      · have dS := ne_list e
        rw [if_neg e] at hw
        have HW := Lib.hid hw
        have HWS := Lib.hid HB.out.size
        clear hw hs
        generalize hP : without (xs.take j) key = P at *
        clear hP
        obtain ⟨q, hq⟩ : ∃ q, q = P.length := ⟨_, rfl⟩
        rw [← hq] at hle HO ⊢
        have HQ := Lib.hid hq
        clear hq
        go_wp2_with (at_builtin; refine wpList_append_lies _ rfl _ _ 22 rfl w.heap.size 9 i0 (.string ByteArray.empty) 1 16 Tryz.underlying22 hi0 hz0 hz1 hz2 rfl (by decide) (.slice gA q gc) q _ rfl (HO.out.alloc _) ⟨wr.heap.size, 0, none⟩ 1 1 [.string s] rfl rfl (World.news_of_block (cs := #[.string s]) (heap_alloc_new wr _)) (by simp [Value.oneCell']) (by omega) (by unfold maxLen; omega) (by omega) (by simp; have := HWS.out; omega) (wr.heap.size + 1) (by simp) ?_; intro f' cf' w3 hown hgr hat hlt3; have hb3 := HB.out.grown (Li.grown_al hgr) HWS.out (fun g hg => (HO.out.lt g hg).1); have HO3 := Lib.hid hown; have HB3 := Lib.hid hb3; clear hown hgr hat hlt3 hb3)
        go_roundg (N - (j + 1))
        case measure => rw [HGK.out]; omega
        case rel => exact ⟨j + 1, hjl, rfl, rfl, by rw [HW.out, List.length_append, ← HQ.out, List.map_append]; exact HO3.out, HB3.out, fun e => by rw [HW.out] at e; simp at e⟩
end

end Go.Proofs.YtkeicfajlmhajaaGreat.Sl
