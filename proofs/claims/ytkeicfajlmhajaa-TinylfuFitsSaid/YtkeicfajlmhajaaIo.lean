/- The walks of package index: New, lays. -/
import Derived.Test.YtkeicfajlmhajaaIn
namespace Go.Proofs.Ytkeicfajlmhajaa.In
open Go Go.RowKit Go.Proofs.Ytkeicfajlmhajaa.K Go.Proofs.Ytkeicfajlmhajaa.Ix Go.Proofs.Ytkeicfajlmhajaa.Hb

section
variable {w : World} {b g N n used : Nat} {T : Tb}

theorem Good.emp (h : Good N T n used) : ∃ e : Nat, T[e]? = some .empty := empty_of_count (by rw [h.used_, h.len]; have := h.half; have := h.big; omega)
theorem Good.nle (h : Good N T n used) : n ≤ used := by rw [← h.n_, ← h.used_]; exact full_le_taken T

theorem find_yes (h : Xa w b g N T n used) (gd : Tab st T) (hem : ∃ e : Nat, T[e]? = some .empty) (h1 : 1 ≤ N) (h2 : N ≤ 1000000) {key : ByteArray} (hk : key.size ≤ 140737488351232) {i : Nat} {v : V} (hi : T[i]? = some (.full key v)) :
    Calls Try.prog 66 #[.pointer (some ⟨b, 0, none⟩), .string key] w fun e w' => e = .returned (.tuple #[.int .i64 (i : Int), .bool true]) ∧ ∃ q, w' = w.drewN q := by
  refine (find_any h gd hem h1 h2 key hk).mono ?_
  rintro e w' ⟨hq, (⟨j, u, rfl, hj⟩ | ⟨j, rfl, hs⟩)⟩
  · rw [gd.uniq _ _ _ _ _ hi hj]; exact ⟨rfl, hq⟩
  · exact absurd hi (hs.nowhere _ _)
def NoPost (T : Tb) (key : ByteArray) (w : World) (e : Ending) (w' : World) : Prop :=
  ∃ i : Nat, e = .returned (.tuple #[.int .i64 (i : Int), .bool false]) ∧ Spot st T key i ∧ ∃ q, w' = w.drewN q
theorem find_no (h : Xa w b g N T n used) (gd : Tab st T) (hem : ∃ e : Nat, T[e]? = some .empty) (h1 : 1 ≤ N) (h2 : N ≤ 1000000) {key : ByteArray} (hk : key.size ≤ 140737488351232) (hno : ∀ v, ¬ Has T key v) :
    Calls Try.prog 66 #[.pointer (some ⟨b, 0, none⟩), .string key] w (NoPost T key w) := by
  refine (find_any h gd hem h1 h2 key hk).mono ?_
  rintro e w' ⟨hq, (⟨j, u, rfl, hj⟩ | ⟨j, rfl, hs⟩)⟩
  · exact absurd ⟨j, hj⟩ (hno u)
  · exact ⟨j, rfl, hs, hq⟩

def BX (b g : Nat) : Nat → Prop := fun k => k = b ∨ k = g

theorem new_x (w : World) : Calls Try.prog 38 #[.int .u64 0] w fun e w' => e = .returned (.pointer (some ⟨w.heap.size + 1, 0, none⟩)) ∧
    Xa w' (w.heap.size + 1) w.heap.size 8 (List.replicate 8 .empty) 0 0 ∧ Below w.heap.size w w' := by
  have hmk : ∀ w : World, (Instr.makeSlice 86 (.int .i64 8) (.int .i64 8)).run Try.prog w = .ok (.slice (some ⟨w.heap.size, 0, none⟩) 8 8) (w.alloc (.cells (pls (List.replicate 8 .empty)).toArray 101)) := fun _ => by kernel_rfl
  go_enter Try.func38, Try.ntmps38
  go_wp2
  go_ret
  have hb0 := block_new w (.cells (pls (List.replicate 8 .empty)).toArray 101)
  exact ⟨by simp, ⟨block_new' (by simp) _, block_alloc hb0, rfl, by omega⟩, ((Below.refl _ _).alloc (Nat.le_refl _) _).alloc (by simp) _⟩

def LaysPost (b g N : Nat) (T : Tb) (n used i : Nat) (p : Pl V) (key : ByteArray) (r h : Nat) (w : World) (e : Ending) (w' : World) : Prop :=
  e = .returned (.tuple #[]) ∧ Xa w' b g N (T.set i (.full key (r, h))) (n + 1) (used + if p.taken then 0 else 1) ∧ Upd (BX b g) w w'

set_option maxHeartbeats 800000 in
theorem lays_x (hx : Xa w b g N T n used) {i r h : Nat} {key : ByteArray} {p : Pl V} (hi : i < N) (hp : T[i]? = some p) (hnf : p.isFull = false) (hn : n ≤ 1000000) (hu : used ≤ 1000000) :
    Calls Try.prog 67 #[.pointer (some ⟨b, 0, none⟩), .int .i64 (i : Int), .string key, .agg #[.int .i64 (r : Int), .int .i64 (h : Int)]] w (LaysPost b g N T n used i p key r h w) := by
  have z0 : (0 : Int) ≤ (i : Int) := by omega
  have z1 : (i : Int) < (N : Int) := by omega
  have HX := Lib.hid hx
  have HP := Lib.hid hp
  have hb2 : Below w.heap.size w (w.alloc (.cells #[.int .i64 (r : Int), .int .i64 (h : Int)] 62)) := (Below.refl _ _).alloc (Nat.le_refl _) _
  have HX2 := Lib.hid (hx.below hb2)
  have hv := block_new w (.cells #[.int .i64 (r : Int), .int .i64 (h : Int)] 62)
  have HU2 : Hid (Upd (BX b g) w (w.alloc (.cells #[.int .i64 (r : Int), .int .i64 (h : Int)] 62))) := Lib.hid ((Upd.refl _ w).alloc _)
  have hbl : b ≠ w.heap.size ∧ g ≠ w.heap.size := by
    have h1 := lt_of_block hx.obj
    have h2 := lt_of_block hx.row
    omega
  clear hx hb2 hp
  go_enter Try.func67, Try.ntmps67
  generalize hw2 : w.alloc (.cells #[.int .i64 (r : Int), .int .i64 (h : Int)] 62) = w2 at *
  obtain ⟨c0, c1, c2, c3, fr⟩ := cells4 HX2.out.obj
  have v0 : w2.cell? ⟨w.heap.size, 0, none⟩ = some (.int .i64 (r : Int)) := (cell_of hv 0).trans rfl
  have v1 : w2.cell? ⟨w.heap.size, 1, none⟩ = some (.int .i64 (h : Int)) := (cell_of hv 1).trans rfl
  have HV := Lib.hid hv
  have k0 := HX2.out.cellj HP.out (j := 0) (by omega)
  have k1 := HX2.out.cellj HP.out (j := 1) (by omega)
  have k2 := HX2.out.cellj HP.out (j := 2) (by omega)
  have k3 := HX2.out.cellj HP.out (j := 3) (by omega)
  rw [Nat.add_zero] at k0
  have fg := free_of HX2.out.row
  have bg := HX2.out.bg
  obtain ⟨n1, n2⟩ := hbl
  clear hv
  have hc : (p = .empty ∧ p.taken = false) ∨ (p = .gone ∧ p.taken = true) := by cases p <;> simp_all [Pl.isFull, Pl.taken]
  rcases hc with ⟨rfl, hpt⟩ | ⟨rfl, hpt⟩
  · have k0' : w2.cell? ⟨g, i * 4, none⟩ = some (.int .i64 0) := k0
    have k1' : w2.cell? ⟨g, i * 4 + 1, none⟩ = some (.string ByteArray.empty) := k1
    have k2' : w2.cell? ⟨g, i * 4 + 2, none⟩ = some (.int .i64 0) := k2
    have k3' : w2.cell? ⟨g, i * 4 + 3, none⟩ = some (.int .i64 0) := k3
    clear k0 k1 k2 k3
    go_wp2_with fail
    go_region
    go_wp2_with fail
    go_end0
    exact ⟨rfl, (((HX2.out.useds (used + 1)).put hi rfl).counts (n + 1)).drewN 1, ((((((HU2.out.setCell (p := ⟨b, 3, none⟩) (.inl (.inl rfl)) _).setCell (p := ⟨g, i * 4, none⟩) (.inl (.inr rfl)) _).setCell (p := ⟨g, i * 4 + 1, none⟩) (.inl (.inr rfl)) _).setCell (p := ⟨g, i * 4 + 2, none⟩) (.inl (.inr rfl)) _).setCell (p := ⟨g, i * 4 + 3, none⟩) (.inl (.inr rfl)) _).setCell (p := ⟨b, 2, none⟩) (.inl (.inl rfl)) _).drew⟩
  · have k0' : w2.cell? ⟨g, i * 4, none⟩ = some (.int .i64 1) := k0
    have k1' : w2.cell? ⟨g, i * 4 + 1, none⟩ = some (.string ByteArray.empty) := k1
    have k2' : w2.cell? ⟨g, i * 4 + 2, none⟩ = some (.int .i64 0) := k2
    have k3' : w2.cell? ⟨g, i * 4 + 3, none⟩ = some (.int .i64 0) := k3
    clear k0 k1 k2 k3
    go_wp2_with fail
    go_region
    go_wp2_with fail
    go_end0
    exact ⟨rfl, ((HX2.out.put hi rfl).counts (n + 1)).drewN 1, (((((HU2.out.setCell (p := ⟨g, i * 4, none⟩) (.inl (.inr rfl)) _).setCell (p := ⟨g, i * 4 + 1, none⟩) (.inl (.inr rfl)) _).setCell (p := ⟨g, i * 4 + 2, none⟩) (.inl (.inr rfl)) _).setCell (p := ⟨g, i * 4 + 3, none⟩) (.inl (.inr rfl)) _).setCell (p := ⟨b, 2, none⟩) (.inl (.inl rfl)) _).drew⟩
end

end Go.Proofs.Ytkeicfajlmhajaa.In
