/- The laws' own small functions: texts, long, heavy. -/
import Derived.Test.YtkeicfajlmhajaaGreatSn
import Derived.Test.YtkeicfajlmhajaaGreatOpen
import Derived.Deep.QuietTactic
import Derived.BigQuiet
namespace Go.Proofs.YtkeicfajlmhajaaGreat.Lw
open Go Go.RowKit Go.Proofs.YtkeicfajlmhajaaGreat.K Go.Proofs.YtkeicfajlmhajaaGreat.Sl

section
variable {w : World} {A B : Option Addr} {xs : List ByteArray} {ca cb cap : Nat}

theorem texts_same (ha : RStr w A xs) (hb : RStr w B xs) (hca : xs.length ≤ ca) (hcb : xs.length ≤ cb) (hl : xs.length ≤ 1000000) :
    Calls Tryz.prog 29 #[.slice A xs.length ca, .slice B xs.length cb] w fun e w' => e = .returned (.bool true) ∧ Below w.heap.size w w' := by
  obtain ⟨N, hN⟩ : ∃ N, N = xs.length := ⟨_, rfl⟩
  rw [← hN] at hca hcb hl ⊢
  have HN := Lib.hid hN
  have HA := Lib.hid ha
  have HB := Lib.hid hb
  clear ha hb hN
  go_enter Tryz.func29, Tryz.ntmps29
  go_wp2_with fail
  go_loopg [5] N (fun k v5 wr => ∃ m, wr = w.drewN m ∧ ∃ j : Nat, j ≤ N ∧ k = N - j ∧ v5 = .int .i64 (j : Int))
  case atStart => exact ⟨0, rfl, 0, by omega, by omega, rfl⟩
  case round =>
    obtain ⟨m, rfl, j, hj, hgk, rfl⟩ := hrel
    have HGK := Lib.hid hgk
    clear hgk
    rcases Nat.eq_or_lt_of_le hj with rfl | hjl
    · go_wp2_with fail
      go_ret
      exact ⟨rfl, below_drewN (Below.refl _ _) m⟩
    · obtain ⟨s, hs⟩ : ∃ s, xs[j]? = some s := ⟨_, List.getElem?_eq_getElem (by rw [← HN.out]; exact hjl)⟩
      obtain ⟨g, o, rfl, hcell⟩ := HA.out.get j s hs
      obtain ⟨g2, o2, rfl, hcell2⟩ := HB.out.get j s hs
      clear hs
      have z0 : (0 : Int) ≤ (j : Int) := by omega
      have z1 : (j : Int) < (N : Int) := by omega
      go_wp2_with fail
      go_quiet (fail)
      go_wp2_with fail
      go_roundg (N - (j + 1))
      case measure => rw [HGK.out]; omega
      case rel => exact ⟨m + nq, rfl, j + 1, hjl, rfl, rfl⟩

/-- long tells: it is not said of keys that are short, and few. -/
theorem long_any (h : RStr w A xs) (hc : xs.length ≤ cap) (hl : xs.length ≤ 8796093021952) :
    ∃ r : Bool, (Calls Tryz.prog 10 #[.slice A xs.length cap] w fun e w' => e = .returned (.bool r) ∧ w = w') ∧ (r = false → xs.length ≤ 200 ∧ ∀ s ∈ xs, s.size ≤ 40) := by
  by_cases h200 : 200 < xs.length
  · refine ⟨true, ?_, fun e => by cases e⟩
    generalize xs.length = N at *
    have i1 : (200 : Int) < (N : Int) := by omega
    go_enter Tryz.func10, Tryz.ntmps10
    go_wp2_with fail
    go_ret
    exact ⟨rfl, rfl⟩
  · by_cases hb : ∃ s ∈ xs, 40 < s.size
    · refine ⟨true, ?_, fun e => by cases e⟩
      obtain ⟨N, hN⟩ : ∃ N, N = xs.length := ⟨_, rfl⟩
      rw [← hN] at hc h200 ⊢
      have HN := Lib.hid hN
      have H := Lib.hid h
      have HB := Lib.hid hb
      clear h hb hN hl
      go_enter Tryz.func10, Tryz.ntmps10
      go_wp2_with fail
      go_loopg [3] N (fun k v3 wr => w = wr ∧ ∃ j : Nat, j ≤ N ∧ k = N - j ∧ v3 = .int .i64 (j : Int) ∧ ∀ i s, i < j → xs[i]? = some s → s.size ≤ 40)
      case atStart => exact ⟨rfl, 0, by omega, by omega, rfl, fun i s hi => by omega⟩
      case round =>
        obtain ⟨rfl, j, hj, hgk, rfl, hno⟩ := hrel
        have HGK := Lib.hid hgk
        have HNO := Lib.hid hno
        clear hgk hno
        have hjl : j < N := by
          rcases Nat.eq_or_lt_of_le hj with rfl | h
          · obtain ⟨s, hs, h40⟩ := HB.out
            obtain ⟨i, hi, he⟩ := List.mem_iff_getElem.1 hs
            have := HNO.out i s (by rw [HN.out]; exact hi) (by rw [List.getElem?_eq_getElem hi, he])
            omega
          · exact h
        obtain ⟨s, hs⟩ : ∃ s, xs[j]? = some s := ⟨_, List.getElem?_eq_getElem (by rw [← HN.out]; exact hjl)⟩
        obtain ⟨g, o, rfl, hcell⟩ := H.out.get j s hs
        have HS := Lib.hid hs
        clear hs
        have z0 : (0 : Int) ≤ (j : Int) := by omega
        have z1 : (j : Int) < (N : Int) := by omega
        by_cases e : 40 < s.size
        · have e1 : (40 : Int) < (s.size : Int) := by omega
          go_wp2_with fail
          go_ret
          exact ⟨rfl, rfl⟩
        · have e1 : ¬ (40 : Int) < (s.size : Int) := by omega
          go_wp2_with fail
          go_roundg (N - (j + 1))
          case measure => rw [HGK.out]; omega
          case rel => exact ⟨rfl, j + 1, hjl, rfl, rfl, fun i u hi hu => by
            rcases Nat.lt_or_eq_of_le (Nat.le_of_lt_succ hi) with h | rfl
            · exact HNO.out i u h hu
            · rw [HS.out] at hu; cases hu; omega⟩
    · have hs40 : ∀ s ∈ xs, s.size ≤ 40 := fun s hs => Nat.le_of_not_lt (fun hh => hb ⟨s, hs, hh⟩)
      refine ⟨false, ?_, fun _ => ⟨by omega, hs40⟩⟩
      obtain ⟨N, hN⟩ : ∃ N, N = xs.length := ⟨_, rfl⟩
      rw [← hN] at hc h200 ⊢
      have HN := Lib.hid hN
      have H := Lib.hid h
      have HB := Lib.hid hs40
      clear h hb hN hl hs40
      go_enter Tryz.func10, Tryz.ntmps10
      go_wp2_with fail
      go_loopg [3] N (fun k v3 wr => w = wr ∧ ∃ j : Nat, j ≤ N ∧ k = N - j ∧ v3 = .int .i64 (j : Int))
      case atStart => exact ⟨rfl, 0, by omega, by omega, rfl⟩
      case round =>
        obtain ⟨rfl, j, hj, hgk, rfl⟩ := hrel
        have HGK := Lib.hid hgk
        clear hgk
        rcases Nat.eq_or_lt_of_le hj with rfl | hjl
        · go_wp2_with fail
          go_ret
          exact ⟨rfl, rfl⟩
        · obtain ⟨s, hs⟩ : ∃ s, xs[j]? = some s := ⟨_, List.getElem?_eq_getElem (by rw [← HN.out]; exact hjl)⟩
          obtain ⟨g, o, rfl, hcell⟩ := H.out.get j s hs
          have e := HB.out s (List.mem_of_getElem? hs)
          have e1 : ¬ (40 : Int) < (s.size : Int) := by omega
          clear hs
          have z0 : (0 : Int) ≤ (j : Int) := by omega
          have z1 : (j : Int) < (N : Int) := by omega
          go_wp2_with fail
          go_roundg (N - (j + 1))
          case measure => rw [HGK.out]; omega
          case rel => exact ⟨rfl, j + 1, hjl, rfl, rfl⟩

/-- How many acts are played. -/
def upto (n : Nat) : Nat := min n 200

theorem heavy_any {xs : List Act2} (h : RAct w A xs) (hc : xs.length ≤ cap) :
    ∃ r : Bool, (Calls Tryz.prog 18 #[.slice A xs.length cap] w fun e w' => e = .returned (.bool r) ∧ w = w') ∧ (r = false → ∀ i a, i < upto xs.length → xs[i]? = some a → a.key.size ≤ 40) := by
  by_cases hb : ∃ i a, i < upto xs.length ∧ xs[i]? = some a ∧ 40 < a.key.size
  · refine ⟨true, ?_, fun e => by cases e⟩
    obtain ⟨N, hN⟩ : ∃ N, N = xs.length := ⟨_, rfl⟩
    rw [← hN] at hc ⊢
    have HN := Lib.hid hN
    have H := Lib.hid h
    have HB := Lib.hid hb
    clear h hb hN
    go_enter Tryz.func18, Tryz.ntmps18
    go_wp2_with fail
    go_loopg [3] N (fun k v3 wr => w = wr ∧ ∃ j : Nat, j ≤ N ∧ j ≤ 200 ∧ k = N - j ∧ v3 = .int .i64 (j : Int) ∧ ∀ i a, i < j → xs[i]? = some a → a.key.size ≤ 40)
    case atStart => exact ⟨rfl, 0, by omega, by omega, by omega, rfl, fun i s hi => by omega⟩
    case round =>
      obtain ⟨rfl, j, hj, hj2, hgk, rfl, hno⟩ := hrel
      have HGK := Lib.hid hgk
      have HNO := Lib.hid hno
      clear hgk hno
      have hjl : j < N ∧ j < 200 := by
        obtain ⟨i, a, hi, ha, h40⟩ := HB.out
        rw [← HN.out] at hi
        unfold upto at hi
        have hij : j ≤ i := Nat.le_of_not_lt (fun hh => by have := HNO.out i a hh ha; omega)
        omega
      obtain ⟨hjl, hjm⟩ := hjl
      obtain ⟨a, ha⟩ : ∃ a, xs[j]? = some a := ⟨_, List.getElem?_eq_getElem (by rw [← HN.out]; exact hjl)⟩
      obtain ⟨g, o, rfl, hcell, -⟩ := H.out.get j a ha
      have hk : w.cell? ⟨g, o + j * 2 + 1, none⟩ = some (.string a.key) := hcell 1 _ rfl
      have HS := Lib.hid ha
      clear ha hcell
      have z0 : (0 : Int) ≤ (j : Int) := by omega
      have z1 : (j : Int) < (N : Int) := by omega
      have z2 : (j : Int) < 200 := by omega
      by_cases e : 40 < a.key.size
      · have e1 : (40 : Int) < (a.key.size : Int) := by omega
        go_wp2_with fail
        go_ret
        exact ⟨rfl, rfl⟩
      · have e1 : ¬ (40 : Int) < (a.key.size : Int) := by omega
        go_wp2_with fail
        go_roundg (N - (j + 1))
        case measure => rw [HGK.out]; omega
        case rel => exact ⟨rfl, j + 1, hjl, hjm, rfl, rfl, fun i u hi hu => by
          rcases Nat.lt_or_eq_of_le (Nat.le_of_lt_succ hi) with h | rfl
          · exact HNO.out i u h hu
          · rw [HS.out] at hu; cases hu; omega⟩
  · have hs40 : ∀ i a, i < upto xs.length → xs[i]? = some a → a.key.size ≤ 40 := fun i a hi ha => Nat.le_of_not_lt (fun hh => hb ⟨i, a, hi, ha, hh⟩)
    refine ⟨false, ?_, fun _ => hs40⟩
    obtain ⟨N, hN⟩ : ∃ N, N = xs.length := ⟨_, rfl⟩
    rw [← hN] at hc hs40 ⊢
    have HN := Lib.hid hN
    have H := Lib.hid h
    have HB := Lib.hid hs40
    clear h hb hN hs40
    go_enter Tryz.func18, Tryz.ntmps18
    go_wp2_with fail
    go_loopg [3] N (fun k v3 wr => w = wr ∧ ∃ j : Nat, j ≤ N ∧ j ≤ 200 ∧ k = N - j ∧ v3 = .int .i64 (j : Int))
    case atStart => exact ⟨rfl, 0, by omega, by omega, by omega, rfl⟩
    case round =>
      obtain ⟨rfl, j, hj, hj2, hgk, rfl⟩ := hrel
      have HGK := Lib.hid hgk
      clear hgk
      rcases Nat.eq_or_lt_of_le hj with rfl | hjl
      · go_wp2_with fail
        go_ret
        exact ⟨rfl, rfl⟩
      · rcases Nat.eq_or_lt_of_le hj2 with rfl | hjm
        · have z1 : (200 : Int) < (N : Int) := by omega
          go_wp2_with fail
          go_ret
          exact ⟨rfl, rfl⟩
        · obtain ⟨a, ha⟩ : ∃ a, xs[j]? = some a := ⟨_, List.getElem?_eq_getElem (by rw [← HN.out]; exact hjl)⟩
          obtain ⟨g, o, rfl, hcell, -⟩ := H.out.get j a ha
          have hk : w.cell? ⟨g, o + j * 2 + 1, none⟩ = some (.string a.key) := hcell 1 _ rfl
          have e := HB.out j a (by unfold upto; omega) ha
          have e1 : ¬ (40 : Int) < (a.key.size : Int) := by omega
          clear ha hcell
          have z0 : (0 : Int) ≤ (j : Int) := by omega
          have z1 : (j : Int) < (N : Int) := by omega
          have z2 : (j : Int) < 200 := by omega
          go_wp2_with fail
          go_roundg (N - (j + 1))
          case measure => rw [HGK.out]; omega
          case rel => exact ⟨rfl, j + 1, hjl, hjm, rfl, rfl⟩
end

end Go.Proofs.YtkeicfajlmhajaaGreat.Lw
