/- The walks of package index: Delete. -/
import Derived.Test.YtkeicfajlmhajaaIp
namespace Go.Proofs.Ytkeicfajlmhajaa.In
open Go Go.RowKit Go.Proofs.Ytkeicfajlmhajaa.K Go.Proofs.Ytkeicfajlmhajaa.Ix Go.Proofs.Ytkeicfajlmhajaa.Hb

section
variable {w : World} {b g N n used : Nat} {T : Tb}

theorem two_cells {w : World} {k : Nat} {T : TypeId} {x y : Value} (h : w.heap[k]? = some (.cells #[x, y] T (0, 0))) :
    w.cell? ⟨k, 0, none⟩ = some x ∧ w.cell? ⟨k, 1, none⟩ = some y ∧ (∀ o, w.frozen? ⟨k, o, none⟩ = false) := ⟨cell_of h 0, cell_of h 1, free_of h⟩

theorem del_no (hx : Xa w b g N T n used) (gd : Good N T n used) {key : ByteArray} (hk : key.size ≤ 140737488351232) (hno : ∀ v, ¬ Has T key v) :
    Calls Try.prog 53 #[.pointer (some ⟨b, 0, none⟩), .string key] w fun e w' => e = .returned (.tuple #[.agg #[.int .i64 0, .int .i64 0], .bool false]) ∧ Below w.heap.size w w' := by
  have hb2 : Below w.heap.size w (w.alloc (.cells #[.int .i64 0, .int .i64 0] 62)) := (Below.refl _ _).alloc (Nat.le_refl _) _
  have hx2 := hx.below hb2
  have F := Lib.hid (get_no hx2 gd hk hno)
  have HV := Lib.hid (block_new w (.cells #[.int .i64 0, .int .i64 0] 62))
  have HB2 := Lib.hid hb2
  have HZ : Hid (w.heap.size < (w.alloc (.cells #[.int .i64 0, .int .i64 0] 62)).heap.size) := Lib.hid (by simp)
  clear hx2 hb2 hx gd hno
  go_enter Try.func53, Try.ntmps53
  go_wp2_with fail
  generalize w.alloc (.cells #[.int .i64 0, .int .i64 0] 62) = w2 at *
  refine F.out.mono ?_
  rintro e w3 ⟨rfl, hb3⟩
  have hv3 : w3.heap[w.heap.size]? = _ := (hb3.block _ HZ.out).trans HV.out
  have hz3 : w.heap.size < w3.heap.size := Nat.lt_of_lt_of_le HZ.out hb3.size
  have HB3 := Lib.hid (HB2.out.trans (hb3.mono (Nat.le_of_lt HZ.out)))
  have HO := Lib.hid (block_alloc (o := .cells #[.int .i64 0, .int .i64 0] 62) hv3)
  have HU := Lib.hid (block_new w3 (.cells #[.int .i64 0, .int .i64 0] 62))
  have hne : w3.heap.size ≠ w.heap.size := by omega
  have hne' : w.heap.size ≠ w3.heap.size := by omega
  have HB4 := Lib.hid (HB3.out.alloc (Nat.le_of_lt hz3) (.cells #[.int .i64 0, .int .i64 0] 62))
  clear hb3 hv3 hz3 F HV HB2 HZ
  obtain ⟨o0, o1, fo⟩ := two_cells HO.out
  obtain ⟨u0, u1, fu⟩ := two_cells HU.out
  go_wp2_with fail
  obtain ⟨-, s1, s2, -⟩ := two_set (w := w3.alloc (.cells #[.int .i64 0, .int .i64 0] 62)) (k := w.heap.size) (u := .int .i64 0) (v := .int .i64 0) HO.out
  refine bodyPost_ret (v := .tuple #[.agg #[.int .i64 0, .int .i64 0], .bool false]) (by simp [results, Try.results53, go_sem, s1, s2]) rfl ?_
  exact ⟨rfl, (HB4.out.setCell (p := ⟨w.heap.size, 0, none⟩) (Nat.le_refl _) _).setCell (p := ⟨w.heap.size, 1, none⟩) (Nat.le_refl _) _⟩

/-- What Delete leaves. -/
def DelPost (b g N : Nat) (T : Tb) (m used i r h : Nat) (w : World) (e : Ending) (w' : World) : Prop :=
  e = .returned (.tuple #[.agg #[.int .i64 (r : Int), .int .i64 (h : Int)], .bool true]) ∧ Xa w' b g N (T.set i .gone) m used ∧ Upd (BX b g) w w'

set_option maxHeartbeats 800000 in
theorem del_yes {m : Nat} (hx : Xa w b g N T (m + 1) used) (gd : Good N T (m + 1) used) {i : Nat} {key : ByteArray} {r h : Nat} (hi : T[i]? = some (.full key (r, h))) :
    Calls Try.prog 53 #[.pointer (some ⟨b, 0, none⟩), .string key] w (DelPost b g N T m used i r h w) := by
  have hil : i < N := by rw [← gd.len]; exact lt_of_getElem? hi
  have hm : m ≤ 1000000 := by have := gd.nle; have := gd.half; have := gd.top; omega
  have z0 : (0 : Int) ≤ (i : Int) := by omega
  have z1 : (i : Int) < (N : Int) := by omega
  have hb2 : Below w.heap.size w (w.alloc (.cells #[.int .i64 0, .int .i64 0] 62)) := (Below.refl _ _).alloc (Nat.le_refl _) _
  have hx2 := hx.below hb2
  have F := Lib.hid (get_yes hx2 gd hi)
  have HF := Lib.hid (fun (w : World) (h : Xa w b g N T (m + 1) used) => find_yes h gd.tab gd.emp (by have := gd.big; omega) gd.top (gd.small i key _ hi) hi)
  have HV := Lib.hid (block_new w (.cells #[.int .i64 0, .int .i64 0] 62))
  have HB2 := Lib.hid hb2
  have HX2 := Lib.hid hx2
  have HI := Lib.hid hi
  have hbl : b < w.heap.size ∧ g < w.heap.size := ⟨lt_of_block hx.obj, lt_of_block hx.row⟩
  have HZ : Hid (w.heap.size < (w.alloc (.cells #[.int .i64 0, .int .i64 0] 62)).heap.size) := Lib.hid (by simp)
  have bg := hx.bg
  clear hx2 hb2 hx gd hi
  go_enter Try.func53, Try.ntmps53
  go_wp2_with fail
  generalize w.alloc (.cells #[.int .i64 0, .int .i64 0] 62) = w2 at *
  refine F.out.mono ?_
  rintro e w3 ⟨rfl, hb3⟩
  have hv3 : w3.heap[w.heap.size]? = _ := (hb3.block _ HZ.out).trans HV.out
  have hz3 : w.heap.size < w3.heap.size := Nat.lt_of_lt_of_le HZ.out hb3.size
  have HB3 := Lib.hid (HB2.out.trans (hb3.mono (Nat.le_of_lt HZ.out)))
  have HX3 := Lib.hid (HX2.out.below hb3)
  have HO := Lib.hid (block_alloc (o := .cells #[.int .i64 (r : Int), .int .i64 (h : Int)] 62) hv3)
  have HU := Lib.hid (block_new w3 (.cells #[.int .i64 (r : Int), .int .i64 (h : Int)] 62))
  have hne : w3.heap.size ≠ w.heap.size := by omega
  have hne' : w.heap.size ≠ w3.heap.size := by omega
  have HB4 := Lib.hid (HB3.out.alloc (Nat.le_of_lt hz3) (.cells #[.int .i64 (r : Int), .int .i64 (h : Int)] 62))
  have HX4 := Lib.hid (HX3.out.below ((Below.refl _ _).alloc (Nat.le_refl _) (.cells #[.int .i64 (r : Int), .int .i64 (h : Int)] 62)))
  have HSZ := Lib.hid HB3.out.size
  clear hb3 hv3 hz3 F HV HB2 HZ HX2 HX3
  go_wp2_with fail
  generalize w3.alloc (.cells #[.int .i64 (r : Int), .int .i64 (h : Int)] 62) = w4 at *
  obtain ⟨c0, c1, c2, c3, fr⟩ := cells4 HX4.out.obj
  obtain ⟨o0, o1, fo⟩ := two_cells HO.out
  obtain ⟨u0, u1, fu⟩ := two_cells HU.out
  have k0 := HX4.out.cellj HI.out (j := 0) (by omega)
  have k1 := HX4.out.cellj HI.out (j := 1) (by omega)
  have k2 := HX4.out.cellj HI.out (j := 2) (by omega)
  have k3 := HX4.out.cellj HI.out (j := 3) (by omega)
  rw [Nat.add_zero] at k0
  have k0' : w4.cell? ⟨g, i * 4, none⟩ = some (.int .i64 2) := k0
  have k1' : w4.cell? ⟨g, i * 4 + 1, none⟩ = some (.string key) := k1
  have k2' : w4.cell? ⟨g, i * 4 + 2, none⟩ = some (.int .i64 (r : Int)) := k2
  have k3' : w4.cell? ⟨g, i * 4 + 3, none⟩ = some (.int .i64 (h : Int)) := k3
  have fg := free_of HX4.out.row
  obtain ⟨hb, hg⟩ := hbl
  have hs := HSZ.out
  have n1 : b ≠ w.heap.size := by omega
  have n2 : g ≠ w.heap.size := by omega
  have n3 : b ≠ w3.heap.size := by omega
  have n4 : g ≠ w3.heap.size := by omega
  have n5 : w.heap.size ≠ b := by omega
  have n6 : w.heap.size ≠ g := by omega
  have n7 : w3.heap.size ≠ b := by omega
  have n8 : w3.heap.size ≠ g := by omega
  have e1 : ((m + 1 : Nat) : Int) - 1 = (m : Int) := by omega
  clear k0 k1 k2 k3 hb hg hs
  refine (HF.out _ HX4.out).mono ?_
  rintro e w5 ⟨rfl, q, rfl⟩
  go_wp2_with fail
  have hx5 := ((HX4.out.drewN q).put (i := i) (p := .gone) hil rfl).counts m
  have ho5 := block_other (p := ⟨b, 2, none⟩) (v := .int .i64 (m : Int)) n5 (block_other (p := ⟨g, i * 4 + 3, none⟩) (v := .int .i64 0) n6 (block_other (p := ⟨g, i * 4 + 2, none⟩) (v := .int .i64 0) n6 (block_other (p := ⟨g, i * 4 + 1, none⟩) (v := .string ByteArray.empty) n6 (block_other (p := ⟨g, i * 4, none⟩) (v := .int .i64 1) n6 (block_drewN (n := q) HO.out)))))
  have hu4 : Upd (BX b g) w w4 := Upd.of_below HB4.out (fun k h1 h2 => by omega)
  have hu5 := (((((hu4.drewN q).setCell (p := ⟨g, i * 4, none⟩) (.inl (.inr rfl)) (.int .i64 1)).setCell (p := ⟨g, i * 4 + 1, none⟩) (.inl (.inr rfl)) (.string ByteArray.empty)).setCell (p := ⟨g, i * 4 + 2, none⟩) (.inl (.inr rfl)) (.int .i64 0)).setCell (p := ⟨g, i * 4 + 3, none⟩) (.inl (.inr rfl)) (.int .i64 0)).setCell (p := ⟨b, 2, none⟩) (.inl (.inl rfl)) (.int .i64 (m : Int))
  have he : (ByteArray.empty : ByteArray) = { data := #[] } := rfl
  rw [he] at hx5 ho5 hu5
  generalize (((((w4.drewN q).setCell ⟨g, i * 4, none⟩ (.int .i64 1)).setCell ⟨g, i * 4 + 1, none⟩ (.string { data := #[] })).setCell ⟨g, i * 4 + 2, none⟩ (.int .i64 0)).setCell ⟨g, i * 4 + 3, none⟩ (.int .i64 0)).setCell ⟨b, 2, none⟩ (.int .i64 (m : Int)) = w6 at *
  obtain ⟨-, s1, s2, -⟩ := two_set (w := w6) (k := w.heap.size) (u := .int .i64 (r : Int)) (v := .int .i64 (h : Int)) ho5
  refine bodyPost_ret (v := .tuple #[.agg #[.int .i64 (r : Int), .int .i64 (h : Int)], .bool true]) (by simp [results, Try.results53, go_sem, s1, s2]) rfl ?_
  exact ⟨rfl, ⟨block_other n1 (block_other n1 hx5.obj), block_other n2 (block_other n2 hx5.row), hx5.len, bg⟩, (hu5.setCell (p := ⟨w.heap.size, 0, none⟩) (.inr (Nat.le_refl _)) _).setCell (p := ⟨w.heap.size, 1, none⟩) (.inr (Nat.le_refl _)) _⟩
end

end Go.Proofs.Ytkeicfajlmhajaa.In
