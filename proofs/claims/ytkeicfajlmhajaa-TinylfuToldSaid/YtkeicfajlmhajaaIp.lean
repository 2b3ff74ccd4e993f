/- The walks of package index: Get, Delete. -/
import Derived.Test.YtkeicfajlmhajaaIo
namespace Go.Proofs.Ytkeicfajlmhajaa.In
open Go Go.RowKit Go.Proofs.Ytkeicfajlmhajaa.K Go.Proofs.Ytkeicfajlmhajaa.Ix Go.Proofs.Ytkeicfajlmhajaa.Hb

section
variable {w : World} {b g N n used : Nat} {T : Tb}

/-- Two cells of a block are written: what they hold. -/
theorem two_set {w : World} {k : Nat} {T : TypeId} {x y u v : Value} (h : w.heap[k]? = some (.cells #[x, y] T (0, 0))) :
    (w.setCell ⟨k, 0, none⟩ u).cell? ⟨k, 0, none⟩ = some u ∧ ((w.setCell ⟨k, 0, none⟩ u).setCell ⟨k, 1, none⟩ v).cell? ⟨k, 0, none⟩ = some u ∧ ((w.setCell ⟨k, 0, none⟩ u).setCell ⟨k, 1, none⟩ v).cell? ⟨k, 1, none⟩ = some v ∧
    ((w.setCell ⟨k, 0, none⟩ u).setCell ⟨k, 1, none⟩ v).heap[k]? = some (.cells #[u, v] T (0, 0)) := by
  have h1 := block_setCell (o := 0) (v := u) h
  have h2 := block_setCell (o := 1) (v := v) h1
  exact ⟨(cell_of h1 0).trans rfl, (cell_of h2 0).trans rfl, (cell_of h2 1).trans rfl, h2⟩

theorem get_yes (hx : Xa w b g N T n used) (gd : Good N T n used) {i : Nat} {key : ByteArray} {r h : Nat} (hi : T[i]? = some (.full key (r, h))) :
    Calls Try.prog 45 #[.pointer (some ⟨b, 0, none⟩), .string key] w fun e w' => e = .returned (.tuple #[.agg #[.int .i64 (r : Int), .int .i64 (h : Int)], .bool true]) ∧ Below w.heap.size w w' := by
  have hil : i < N := by rw [← gd.len]; exact lt_of_getElem? hi
  have z0 : (0 : Int) ≤ (i : Int) := by omega
  have z1 : (i : Int) < (N : Int) := by omega
  have hb2 : Below w.heap.size w (w.alloc (.cells #[.int .i64 0, .int .i64 0] 62)) := (Below.refl _ _).alloc (Nat.le_refl _) _
  have hx2 := hx.below hb2
  have F := Lib.hid (find_yes hx2 gd.tab gd.emp (by have := gd.big; omega) gd.top (gd.small i key _ hi) hi)
  obtain ⟨c0, c1, c2, c3, fr⟩ := cells4 hx2.obj
  have k2 : _ = some (Value.int .i64 (r : Int)) := hx2.cellj hi (j := 2) (by omega)
  have k3 : _ = some (Value.int .i64 (h : Int)) := hx2.cellj hi (j := 3) (by omega)
  have hv := block_new w (.cells #[.int .i64 0, .int .i64 0] 62)
  have HB2 := Lib.hid hb2
  clear hx2 hb2 hx gd hi
  go_enter Try.func45, Try.ntmps45
  go_wp2_with fail
  generalize w.alloc (.cells #[.int .i64 0, .int .i64 0] 62) = w2 at *
  have v0 : w2.cell? ⟨w.heap.size, 0, none⟩ = some (.int .i64 0) := (cell_of hv 0).trans rfl
  have v1 : w2.cell? ⟨w.heap.size, 1, none⟩ = some (.int .i64 0) := (cell_of hv 1).trans rfl
  have fv := free_of hv
  have HV := Lib.hid hv
  clear hv
  refine F.out.mono ?_
  rintro e w3 ⟨rfl, q, rfl⟩
  go_wp2_with fail
  obtain ⟨-, s1, s2, -⟩ := two_set (w := w2.drewN q) (u := .int .i64 (r : Int)) (v := .int .i64 (h : Int)) HV.out
  refine bodyPost_ret (v := .tuple #[.agg #[.int .i64 (r : Int), .int .i64 (h : Int)], .bool true]) (by simp [results, Try.results45, go_sem, s1, s2]) rfl ?_
  exact ⟨rfl, ((below_drewN HB2.out q).setCell (p := ⟨w.heap.size, 0, none⟩) (Nat.le_refl _) _).setCell (p := ⟨w.heap.size, 1, none⟩) (Nat.le_refl _) _⟩
theorem get_no (hx : Xa w b g N T n used) (gd : Good N T n used) {key : ByteArray} (hk : key.size ≤ 140737488351232) (hno : ∀ v, ¬ Has T key v) :
    Calls Try.prog 45 #[.pointer (some ⟨b, 0, none⟩), .string key] w fun e w' => e = .returned (.tuple #[.agg #[.int .i64 0, .int .i64 0], .bool false]) ∧ Below w.heap.size w w' := by
  have hb2 : Below w.heap.size w (w.alloc (.cells #[.int .i64 0, .int .i64 0] 62)) := (Below.refl _ _).alloc (Nat.le_refl _) _
  have hx2 := hx.below hb2
  have F := Lib.hid (find_no hx2 gd.tab gd.emp (by have := gd.big; omega) gd.top hk hno)
  have hv := block_new w (.cells #[.int .i64 0, .int .i64 0] 62)
  have HB2 := Lib.hid hb2
  have hsz : w.heap.size < (w.alloc (.cells #[.int .i64 0, .int .i64 0] 62)).heap.size := by simp
  clear hx2 hb2 hx gd hno
  go_enter Try.func45, Try.ntmps45
  go_wp2_with fail
  generalize w.alloc (.cells #[.int .i64 0, .int .i64 0] 62) = w2 at *
  have HV := Lib.hid hv
  have HZ := Lib.hid hsz
  clear hv hsz
  refine F.out.mono ?_
  rintro e w3 ⟨i, rfl, -, q, rfl⟩
  have v0 : w2.cell? ⟨w.heap.size, 0, none⟩ = some (.int .i64 0) := (cell_of HV.out 0).trans rfl
  have v1 : w2.cell? ⟨w.heap.size, 1, none⟩ = some (.int .i64 0) := (cell_of HV.out 1).trans rfl
  have fv := free_of HV.out
  have hz2 := HZ.out
  have n0 := World.new_ne (w2.drewN q) ⟨w.heap.size, 0, none⟩ v0
  have n1 := World.new_ne (w2.drewN q) ⟨w.heap.size, 1, none⟩ v1
  have hu := block_new (w2.drewN q) (.cells #[.int .i64 0, .int .i64 0] 62)
  have u0 : ((w2.drewN q).alloc (.cells #[.int .i64 0, .int .i64 0] 62)).cell? ⟨w2.heap.size, 0, none⟩ = some (.int .i64 0) := (cell_of hu 0).trans rfl
  have u1 : ((w2.drewN q).alloc (.cells #[.int .i64 0, .int .i64 0] 62)).cell? ⟨w2.heap.size, 1, none⟩ = some (.int .i64 0) := (cell_of hu 1).trans rfl
  have hne : w2.heap.size ≠ w.heap.size := n0
  have ho := block_alloc (o := .cells #[.int .i64 0, .int .i64 0] 62) (block_drewN (n := q) HV.out)
  have o0 : ((w2.drewN q).alloc (.cells #[.int .i64 0, .int .i64 0] 62)).cell? ⟨w.heap.size, 0, none⟩ = some (.int .i64 0) := (cell_of ho 0).trans rfl
  have o1 : ((w2.drewN q).alloc (.cells #[.int .i64 0, .int .i64 0] 62)).cell? ⟨w.heap.size, 1, none⟩ = some (.int .i64 0) := (cell_of ho 1).trans rfl
  have fo := free_of ho
  have fu := free_of hu
  have HU := Lib.hid hu
  clear hu ho
  go_wp2_with fail
  obtain ⟨-, s1, s2, -⟩ := two_set (w := (w2.drewN q).alloc (.cells #[.int .i64 0, .int .i64 0] 62)) (k := w.heap.size) (u := .int .i64 0) (v := .int .i64 0) (block_alloc HV.out)
  refine bodyPost_ret (v := .tuple #[.agg #[.int .i64 0, .int .i64 0], .bool false]) (by simp [results, Try.results45, go_sem, s1, s2]) rfl ?_
  exact ⟨rfl, (((below_drewN HB2.out q).alloc (by simp; omega) _).setCell (p := ⟨w.heap.size, 0, none⟩) (Nat.le_refl _) _).setCell (p := ⟨w.heap.size, 1, none⟩) (Nat.le_refl _) _⟩
end

end Go.Proofs.Ytkeicfajlmhajaa.In
