/- The rows of an engine: many. -/
import Derived.Test.YtkeicfajlmhajaaRe
import Derived.Deep.LoopGhost
namespace Go.Proofs.Ytkeicfajlmhajaa.Rw
open Go Go.RowKit Go.Proofs.Ytkeicfajlmhajaa.K
open Go.Proofs.Ytkeicfajlmhajaa.Li (Lst more more_lt hdl)
open Go.Proofs.Ytkeicfajlmhajaa.In (Idx V)

section
variable {R : Nat} {w : World} {v : Value} {F : Nat → Prop} {K : Nat → List ByteArray}

/-- How many keys these rows hold. -/
def total (K : Nat → List ByteArray) (rs : List Nat) : Nat := (rs.map fun r => (K r).length).sum

theorem total_take {rs : List Nat} {j r : Nat} (h : rs[j]? = some r) : total K (rs.take (j + 1)) = total K (rs.take j) + (K r).length := by
  have hj := lt_of_getElem? h
  have e : rs[j] = r := by rw [List.getElem?_eq_getElem hj] at h; exact Option.some.inj h
  unfold total
  rw [← List.take_append_getElem hj, List.map_append, List.sum_append, e]
  simp

theorem total_le (rs : List Nat) (j : Nat) : total K (rs.take j) ≤ total K rs := by
  have e := List.take_append_drop j rs
  unfold total
  conv => rhs; rw [← e, List.map_append, List.sum_append]
  omega

set_option maxHeartbeats 800000 in
theorem rows_many (h : Rows R w v F K) {rs : List Nat} {a c : Nat} (hrs : ∀ r ∈ rs, r < R) (ha : ∀ (j r : Nat), rs[j]? = some r → w.cell? ⟨a, j, none⟩ = some (.int .i64 (r : Int))) (hl : rs.length ≤ 1000) (ht : total K rs ≤ 1000000) :
    Calls Try.prog 30 #[v, .slice (some ⟨a, 0, none⟩) rs.length c] w fun e w' => e = .returned (.int .i64 (total K rs : Int)) ∧ Below w.heap.size w w' := by
  obtain ⟨s, cap, bx, n, l, X, Fx, Fr, M, rfl, h2, h3, h4, h5, h6, h7⟩ := h
  have hb2 : Below w.heap.size w (w.alloc (.cells #[.slice (some ⟨s, 0, none⟩) R cap, .pointer (some ⟨bx, 0, none⟩)] 42)) := (Below.refl _ _).alloc (Nat.le_refl _) _
  have HW2 : Hid (∀ r, r < R → (w.alloc (.cells #[.slice (some ⟨s, 0, none⟩) R cap, .pointer (some ⟨bx, 0, none⟩)] 42)).cell? ⟨s, r, none⟩ = some (.pointer (some ⟨l r, 0, none⟩))) :=
    Lib.hid (fun r hr => (h2.below (by omega) hb2).cell hr)
  have LN := Lib.hid (fun r (hr : r < R) => Li.lst_len ((h2.below (by omega) hb2).lst r hr))
  have HV := Lib.hid (block_new w (.cells #[.slice (some ⟨s, 0, none⟩) R cap, .pointer (some ⟨bx, 0, none⟩)] 42))
  have HA : Hid (∀ (j r : Nat), rs[j]? = some r → (w.alloc (.cells #[.slice (some ⟨s, 0, none⟩) R cap, .pointer (some ⟨bx, 0, none⟩)] 42)).cell? ⟨a, j, none⟩ = some (.int .i64 (r : Int))) :=
    Lib.hid (fun j r hj => cell_upd (Upd.of_below (F := fun _ => False) hb2 (fun k h1 h2 => by clear h7; omega)) id (ha j r hj))
  have HRS := Lib.hid hrs
  have HX : Hid (∀ r, r < R → (X r).length = (K r).length) := Lib.hid (fun r hr => by rw [h3 r hr, List.length_map])
  have HT := Lib.hid ht
  have HB2 := Lib.hid hb2
  obtain ⟨N, hN⟩ : ∃ N, N = rs.length := ⟨_, rfl⟩
  rw [← hN] at hl ⊢
  have HN := Lib.hid hN
  clear h2 h3 h4 h5 h6 h7 hb2 hrs ha hN ht
  unfold rv
  go_enter Try.func30, Try.ntmps30
  go_wp2_with fail
  generalize w.alloc (.cells #[.slice (some ⟨s, 0, none⟩) R cap, .pointer (some ⟨bx, 0, none⟩)] 42) = w2 at *
  obtain ⟨b0, b1, fb⟩ := In.two_cells HV.out
  go_loopg [5, 10] N (fun k v5 v10 wr => w2 = wr ∧ ∃ j : Nat, j ≤ N ∧ k = N - j ∧ v10 = .int .i64 (j : Int) ∧ v5 = .int .i64 (total K (rs.take j) : Int))
  case atStart => exact ⟨rfl, 0, by omega, by omega, rfl, by simp [total]⟩
  case round =>
    obtain ⟨rfl, j, hj, hgk, rfl, rfl⟩ := hrel
    have HGK := Lib.hid hgk
    clear hgk
    rcases Nat.eq_or_lt_of_le hj with rfl | hjl
    · have e : total K (rs.take j) = total K rs := by rw [HN.out, List.take_length]
      rw [e]
      go_wp2_with fail
      go_ret
      exact ⟨rfl, HB2.out⟩
    · obtain ⟨r, hr⟩ : ∃ r, rs[j]? = some r := ⟨_, List.getElem?_eq_getElem (by rw [← HN.out]; exact hjl)⟩
      have hrR : r < R := HRS.out r (List.mem_of_getElem? hr)
      have z0 : (0 : Int) ≤ (j : Int) := by omega
      have z1 : (j : Int) < (N : Int) := by omega
      have y0 : (0 : Int) ≤ (r : Int) := by omega
      have y1 : (r : Int) < (R : Int) := by omega
      have ca := HA.out j r hr
      have cs := HW2.out r hrR
      have L := Lib.hid (LN.out r hrR)
      have hx := HX.out r hrR
      rw [hx] at L
      have hn := total_take (K := K) hr
      have hle := total_le (K := K) rs (j + 1)
      have hall := HT.out
      have HNX := Lib.hid hn
      have b3 : total K (rs.take j) ≤ 1000000 := by omega
      have b4 : (K r).length ≤ 1000000 := by omega
      generalize total K (rs.take j) = T at *
      generalize (K r).length = U at *
      clear hn hle hall hr hx
      go_wp2_with (go_at_call 48; refine L.out.mono ?_; rintro e w4 ⟨rfl, rfl⟩)
      go_roundg (N - (j + 1))
      case measure => rw [HGK.out]; omega
      case rel => exact ⟨rfl, j + 1, hjl, rfl, rfl, by rw [HNX.out]; rfl⟩
end

end Go.Proofs.Ytkeicfajlmhajaa.Rw
