/- The walks of package list, over an arena. -/
import Derived.Test.YtkeicfajlmhajaaGreatAr
import Derived.Test.YtkeicfajlmhajaaGreatFl
import Derived.Test.YtkeicfajlmhajaaGreatProg
import Derived.Lib.Hide
import Derived.BigRegion
import Derived.OwnWalk
import Derived.Laws.OwnMore
import Derived.Deep.AppendLies
import Derived.Deep.RegionHeld3
import Derived.Deep.LoopGhost
namespace Go.Proofs.YtkeicfajlmhajaaGreat.Li
open Go Go.RowKit Go.Proofs.YtkeicfajlmhajaaGreat.K Go.Proofs.YtkeicfajlmhajaaGreat.Ar

def lkc (k : Lk) : List Value := [.string k.v, .int .i64 (k.prev : Int), .int .i64 (k.next : Int), .bool k.there]
theorem lk4 (k : Lk) : (lkc k).length = 4 := rfl
def lks (L : List Lk) : List Value := L.flatMap lkc
def nts (l : List Nat) : List Value := l.map fun n : Nat => Value.int .i64 (n : Int)

/-- The list at b: its arena at g, its free places in vf. -/
structure La (w : World) (b g : Nat) (vf : Value) (cap N : Nat) (L : List Lk) (free : List Nat) (n : Nat) : Prop where
  obj : w.heap[b]? = some (.cells #[.slice (some ⟨g, 0, none⟩) N cap, vf, .int .i64 (n : Int)] 115 (0, 0))
  row : w.ownsRow 0 121 4 (.slice (some ⟨g, 0, none⟩) N cap) N (lks L)
  fr : w.ownsRow 0 3 1 vf free.length (nts free)
  len : L.length = N
  bg : b ≠ g
  bf : vf.ownBlock ≠ some b
  gf : vf.ownBlock ≠ some g

/-- What it owns. -/
def Fp (b g : Nat) (vf : Value) : Nat → Prop := fun k => k = b ∨ k = g ∨ vf.ownBlock = some k

theorem add_pl {b o i : Nat} : (⟨b, o, none⟩ : Addr).add i = ⟨b, o + i, none⟩ := by unfold Addr.add; split <;> simp_all

theorem own_setN {w : World} {base : Nat} {e : TypeId} {g n cap size : Nat} {xs : List Value} (h : w.ownsRow base e size (.slice (some ⟨g, 0, none⟩) n cap) n xs) (j : Nat) (u : Value) :
    (w.setCell ⟨g, j, none⟩ u).ownsRow base e size (.slice (some ⟨g, 0, none⟩) n cap) n (xs.set j u) := by
  rcases h.2 with ⟨hh, _⟩ | ⟨g', cap', cur, hv, hB, hg, hnc, hcm, hcs, htake⟩
  · cases hh
  · injection hv with h1 _ h3
    injection h1 with h1
    injection h1 with h1
    subst h1 h3
    refine ⟨by rw [List.length_set]; exact h.1, .inr ⟨g, cap, cur.setIfInBounds j u, rfl, hB, block_setCell hg, hnc, hcm, by rw [Array.size_setIfInBounds]; exact hcs, ?_⟩⟩
    rw [Array.toList_setIfInBounds, List.take_set, htake]
theorem own_block {w : World} {base : Nat} {e : TypeId} {g n cap size : Nat} {xs : List Value} (h : w.ownsRow base e size (.slice (some ⟨g, 0, none⟩) n cap) n xs) :
    ∃ cur, w.heap[g]? = some (.cells cur e (0, 0)) ∧ n ≤ cap ∧ cap ≤ maxLen := by
  rcases h.2 with ⟨hh, _⟩ | ⟨g', cap', cur, hv, hB, hg, hnc, hcm, hcs, htake⟩
  · cases hh
  · injection hv with h1 _ h3
    injection h1 with h1
    injection h1 with h1
    subst h1 h3
    exact ⟨cur, hg, hnc, hcm⟩

section
variable {w : World} {b g cap N n : Nat} {vf : Value} {L : List Lk} {free : List Nat}

theorem La.drewN (h : La w b g vf cap N L free n) (k : Nat) : La (w.drewN k) b g vf cap N L free n := ⟨h.obj, h.row, h.fr, h.len, h.bg, h.bf, h.gf⟩
theorem La.lt (h : La w b g vf cap N L free n) : ∀ k, Fp b g vf k → k < w.heap.size := by
  rintro k (rfl | rfl | hk)
  · exact lt_of_block h.obj
  · obtain ⟨cur, hc, _⟩ := own_block h.row; exact lt_of_block hc
  · exact (h.fr.lt k hk).2
theorem La.upd {w' : World} {F : Nat → Prop} (h : La w b g vf cap N L free n) (hu : Upd F w w') (hF : ∀ k, Fp b g vf k → ¬ F k) : La w' b g vf cap N L free n :=
  ⟨hu.get h.obj (hF b (.inl rfl)), own_upd h.row hu (fun k hk => hF k (.inr (.inl (by simpa [Value.ownBlock] using hk.symm)))), own_upd h.fr hu (fun k hk => hF k (.inr (.inr hk))), h.len, h.bg, h.bf, h.gf⟩
theorem La.below {w' : World} (h : La w b g vf cap N L free n) (hb : Below w.heap.size w w') : La w' b g vf cap N L free n :=
  h.upd (Upd.of_below (F := fun _ => False) hb (fun i h1 h2 => by omega)) (fun _ _ => id)

theorem at_some {i : Nat} (hi : i < L.length) : L[i]? = some (at' L i) := by
  unfold at'
  rw [List.getD_eq_getElem?_getD, List.getElem?_eq_getElem hi]; rfl

theorem La.cellj (h : La w b g vf cap N L free n) {i j : Nat} (hi : i < N) (hj : j < 4) : w.cell? ⟨g, i * 4 + j, none⟩ = (lkc (at' L i))[j]? := by
  have hl := h.len
  have e := flat_get lk4 (at_some (L := L) (i := i) (by omega)) hj
  have hj' : (lkc (at' L i))[j]? = some ((lkc (at' L i))[j]'(by rw [lk4]; exact hj)) := List.getElem?_eq_getElem _
  have := h.row.cells (g := g) rfl (i * 4 + j) _ (e.trans hj')
  rw [add_pl, Nat.zero_add] at this
  rw [this, hj']

theorem La.cells (h : La w b g vf cap N L free n) {i : Nat} (hi : i < N) :
    w.cell? ⟨g, i * 4, none⟩ = some (.string (at' L i).v) ∧ w.cell? ⟨g, i * 4 + 1, none⟩ = some (.int .i64 ((at' L i).prev : Int)) ∧
    w.cell? ⟨g, i * 4 + 2, none⟩ = some (.int .i64 ((at' L i).next : Int)) ∧ w.cell? ⟨g, i * 4 + 3, none⟩ = some (.bool (at' L i).there) :=
  ⟨h.cellj hi (j := 0) (by omega), h.cellj hi (by omega), h.cellj hi (by omega), h.cellj hi (by omega)⟩
theorem La.free_ (h : La w b g vf cap N L free n) : ∀ o, w.frozen? ⟨g, o, none⟩ = false := by
  obtain ⟨cur, hc, _⟩ := own_block h.row; exact free_of hc

theorem modify_eq_set {L : List Lk} {i : Nat} {f : Lk → Lk} (hi : i < L.length) : L.modify i f = L.set i (f (at' L i)) := by
  apply List.ext_getElem
  · simp
  · intro j h1 h2
    rw [List.getElem_modify, List.getElem_set]
    split
    · rename_i e; subst e; simp [at', List.getD_eq_getElem?_getD, hi]
    · rfl

/-- One cell of a link is written. -/
theorem La.set1 (h : La w b g vf cap N L free n) {i j : Nat} {u : Value} {k' : Lk} (hi : i < N) (hj : j < 4) (he : lkc k' = (lkc (at' L i)).set j u) :
    La (w.setCell ⟨g, i * 4 + j, none⟩ u) b g vf cap N (L.set i k') free n := by
  have hl := h.len
  have := own_setN h.row (i * 4 + j) u
  unfold lks at this
  rw [flat_set1 lk4 hj (at_some (by omega)) he] at this
  exact ⟨block_other h.bg h.obj, this, ownsRow_setCell_other h.fr h.gf _, by simpa using hl, h.bg, h.bf, h.gf⟩
theorem La.prev (h : La w b g vf cap N L free n) {i p : Nat} (hi : i < N) : La (w.setCell ⟨g, i * 4 + 1, none⟩ (.int .i64 (p : Int))) b g vf cap N (setPrev L i p) free n := by
  unfold setPrev
  rw [modify_eq_set (by rw [h.len]; exact hi)]
  exact h.set1 hi (by omega) rfl
theorem La.next (h : La w b g vf cap N L free n) {i p : Nat} (hi : i < N) : La (w.setCell ⟨g, i * 4 + 2, none⟩ (.int .i64 (p : Int))) b g vf cap N (setNext L i p) free n := by
  unfold setNext
  rw [modify_eq_set (by rw [h.len]; exact hi)]
  exact h.set1 hi (by omega) rfl
theorem prev_next_comm (L : List Lk) (i p j q : Nat) : setPrev (setNext L j q) i p = setNext (setPrev L i p) j q := by
  apply List.ext_getElem
  · simp
  · intro x h1 h2
    simp only [setPrev, setNext, List.getElem_modify]
    split <;> split <;> rfl

/-- Whether a handle is there. -/
theorem has_yes (h : La w b g vf cap N L free n) {i : Nat} (h0 : i ≠ 0) (hi : i < N) (ht : (at' L i).there = true) :
    Calls Tryz.prog 91 #[.pointer (some ⟨b, 0, none⟩), .int .i64 (i : Int)] w fun e w' => e = .returned (.bool true) ∧ w = w' := by
  obtain ⟨c0, c1, c2, fr⟩ := cells3 h.obj
  obtain ⟨-, -, -, k3⟩ := h.cells hi
  rw [ht] at k3
  have z0 : (0 : Int) ≤ (i : Int) := by omega
  have z1 : (i : Int) < (N : Int) := by omega
  have t1 : decide (0 < i) = true := by simp; omega
  have t2 : decide (i < N) = true := by simpa using hi
  clear h ht
  go_enter Tryz.func91, Tryz.ntmps91
  go_wp2
  go_ret
  exact ⟨rfl, rfl⟩
theorem has_zero (b : Nat) (w : World) :
    Calls Tryz.prog 91 #[.pointer (some ⟨b, 0, none⟩), .int .i64 0] w fun e w' => e = .returned (.bool false) ∧ w = w' := by
  go_enter Tryz.func91, Tryz.ntmps91
  go_wp2
  go_ret
  exact ⟨rfl, rfl⟩

/-- A handle's value. -/
theorem get_yes (h : La w b g vf cap N L free n) {i : Nat} (h0 : i ≠ 0) (hi : i < N) (ht : (at' L i).there = true) :
    Calls Tryz.prog 70 #[.pointer (some ⟨b, 0, none⟩), .int .i64 (i : Int)] w fun e w' => e = .returned (.tuple #[.string (at' L i).v, .bool true]) ∧ w = w' := by
  have A := Lib.hid (has_yes h h0 hi ht)
  obtain ⟨c0, c1, c2, fr⟩ := cells3 h.obj
  obtain ⟨k0, -, -, -⟩ := h.cells hi
  have z0 : (0 : Int) ≤ (i : Int) := by omega
  have z1 : (i : Int) < (N : Int) := by omega
  clear h ht
  go_enter Tryz.func70, Tryz.ntmps70
  go_wp2_with (go_at_call 91; refine A.out.mono ?_; rintro e w' ⟨rfl, rfl⟩)
  go_ret2
  exact ⟨rfl, rfl⟩
theorem get_zero (b : Nat) (w : World) :
    Calls Tryz.prog 70 #[.pointer (some ⟨b, 0, none⟩), .int .i64 0] w fun e w' => e = .returned (.tuple #[.string ByteArray.empty, .bool false]) ∧ w = w' := by
  go_enter Tryz.func70, Tryz.ntmps70
  go_wp2_with (go_at_call 91; refine (has_zero b _).mono ?_; rintro e w' ⟨rfl, rfl⟩)
  go_ret2
  exact ⟨rfl, rfl⟩

theorem front (h : La w b g vf cap N L free n) (h0 : 0 < N) :
    Calls Tryz.prog 71 #[.pointer (some ⟨b, 0, none⟩)] w fun e w' => e = .returned (.int .i64 ((at' L 0).next : Int)) ∧ w = w' := by
  obtain ⟨c0, c1, c2, fr⟩ := cells3 h.obj
  obtain ⟨-, -, k2, -⟩ := h.cells h0
  have z1 : (0 : Int) < (N : Int) := by omega
  clear h
  go_enter Tryz.func71, Tryz.ntmps71
  go_wp2
  go_ret
  exact ⟨rfl, rfl⟩
theorem next_ (h : La w b g vf cap N L free n) {i : Nat} (h0 : i ≠ 0) (hi : i < N) (ht : (at' L i).there = true) :
    Calls Tryz.prog 90 #[.pointer (some ⟨b, 0, none⟩), .int .i64 (i : Int)] w fun e w' => e = .returned (.int .i64 ((at' L i).next : Int)) ∧ w = w' := by
  have A := Lib.hid (has_yes h h0 hi ht)
  obtain ⟨c0, c1, c2, fr⟩ := cells3 h.obj
  obtain ⟨-, -, k2, -⟩ := h.cells hi
  have z0 : (0 : Int) ≤ (i : Int) := by omega
  have z1 : (i : Int) < (N : Int) := by omega
  clear h ht
  go_enter Tryz.func90, Tryz.ntmps90
  go_wp2_with (go_at_call 91; refine A.out.mono ?_; rintro e w' ⟨rfl, rfl⟩)
  go_ret
  exact ⟨rfl, rfl⟩
theorem len_ (h : La w b g vf cap N L free n) :
    Calls Tryz.prog 74 #[.pointer (some ⟨b, 0, none⟩)] w fun e w' => e = .returned (.int .i64 (n : Int)) ∧ w = w' := by
  obtain ⟨c0, c1, c2, fr⟩ := cells3 h.obj
  clear h
  go_enter Tryz.func74, Tryz.ntmps74
  go_wp2
  go_ret
  exact ⟨rfl, rfl⟩

theorem far_cell {w : World} {b g k o n : Nat} {u v : Value} (hne : b ≠ g) (h : w.cell? ⟨b, o, none⟩ = some v) : ((w.drewN n).setCell ⟨g, k, none⟩ u).cell? ⟨b, o, none⟩ = some v := by
  have hb : ((w.drewN n).setCell ⟨g, k, none⟩ u).heap[b]? = w.heap[b]? := block_other (p := ⟨g, k, none⟩) hne rfl
  unfold World.cell? at h ⊢
  simp only [hb]
  exact h

theorem far_set {w : World} {b g k o : Nat} {u v : Value} (hne : b ≠ g) (h : w.cell? ⟨b, o, none⟩ = some v) : (w.setCell ⟨g, k, none⟩ u).cell? ⟨b, o, none⟩ = some v := by
  have hb : (w.setCell ⟨g, k, none⟩ u).heap[b]? = w.heap[b]? := block_other (p := ⟨g, k, none⟩) hne rfl
  unfold World.cell? at h ⊢
  simp only [hb]
  exact h
theorem far_set' {w : World} {b g k o : Nat} {u v : Value} (hne : b ≠ g) (h : w.cell? ⟨b, o, none⟩ = some v) : (w.setCell ⟨g, k, none⟩ u).drew.cell? ⟨b, o, none⟩ = some v := far_set hne h

theorem lays_ (h : La w b g vf cap N L free n) {i p q : Nat} (hi : i < N) (hp : p < N) (hq : q < N) :
    Calls Tryz.prog 96 #[.pointer (some ⟨b, 0, none⟩), .int .i64 (i : Int), .int .i64 (p : Int), .int .i64 (q : Int)] w fun e w' =>
      e = .returned (.tuple #[]) ∧ La w' b g vf cap N (lays L i p q) free n ∧ Upd (· = g) w w' := by
  obtain ⟨c0, c1, c2, fr⟩ := cells3 h.obj
  obtain ⟨i0, i1, i2, i3⟩ := h.cells hi
  obtain ⟨p0, p1, p2, p3⟩ := h.cells hp
  obtain ⟨q0, q1, q2, q3⟩ := h.cells hq
  have fg := h.free_
  have bg := h.bg
  have y0 : (0 : Int) ≤ (i : Int) := by omega
  have y1 : (i : Int) < (N : Int) := by omega
  have H := Lib.hid h
  clear h
  go_enter Tryz.func96, Tryz.ntmps96
  go_wp2_with fail
  go_region_held3 (fun w' => w'.cell? ⟨b, 0, none⟩ = some (.slice (some ⟨g, 0, none⟩) N cap))
    (first | (go_keep; done) | exact far_set bg (by assumption) | exact far_set' bg (by assumption) | exact far_set bg (far_set' bg c0) | exact far_set' bg (far_set' bg c0))
    (fail)
  have H1 : Hid (La ((w.setCell ⟨g, i * 4 + 1, none⟩ (.int .i64 (p : Int))).setCell ⟨g, i * 4 + 2, none⟩ (.int .i64 (q : Int))).drew b g vf cap N (setNext (setPrev L i p) i q) free n) :=
    Lib.hid (((H.out.prev hi).next hi).drewN 1)
  have U1 : Hid (Upd (· = g) w ((w.setCell ⟨g, i * 4 + 1, none⟩ (.int .i64 (p : Int))).setCell ⟨g, i * 4 + 2, none⟩ (.int .i64 (q : Int))).drew) := Lib.hid ((((Upd.refl _ w).setB).setB).drew)
  clear c0 c1 c2 fr i0 i1 i2 i3 p0 p1 p2 p3 q0 q1 q2 q3 fg
  generalize ((w.setCell ⟨g, i * 4 + 1, none⟩ (.int .i64 (p : Int))).setCell ⟨g, i * 4 + 2, none⟩ (.int .i64 (q : Int))).drew = w1 at *
  obtain ⟨c0, c1, c2, fr⟩ := cells3 H1.out.obj
  obtain ⟨p0, p1, p2, p3⟩ := H1.out.cells hp
  obtain ⟨q0, q1, q2, q3⟩ := H1.out.cells hq
  have fg := H1.out.free_
  have x0 : (0 : Int) ≤ (p : Int) := by omega
  have x1 : (p : Int) < (N : Int) := by omega
  have v0 : (0 : Int) ≤ (q : Int) := by omega
  have v1 : (q : Int) < (N : Int) := by omega
  go_wp2_with fail
  go_region_held3 (fun w' => w'.cell? ⟨b, 0, none⟩ = some (.slice (some ⟨g, 0, none⟩) N cap))
    (first | (go_keep; done) | exact far_set bg (by assumption) | exact far_set' bg (by assumption) | exact far_set bg (far_set' bg c0) | exact far_set' bg (far_set' bg c0))
    (fail)
  go_wp2_with fail
  go_end0
  refine ⟨rfl, ?_, U1.out.trans ((((Upd.refl _ w1).setB).setB).drew)⟩
  exact ((H1.out.next hp).prev hq).drewN 1
end

end Go.Proofs.YtkeicfajlmhajaaGreat.Li

/- The walks of package list: lifts, take. -/
namespace Go.Proofs.YtkeicfajlmhajaaGreat.Li
open Go Go.RowKit Go.Proofs.YtkeicfajlmhajaaGreat.K Go.Proofs.YtkeicfajlmhajaaGreat.Ar

section
variable {w : World} {b g cap N n : Nat} {vf : Value} {L : List Lk} {free : List Nat}

theorem lifts_ (h : La w b g vf cap N L free n) {i : Nat} (hi : i < N) (hp : (at' L i).prev < N) (hq : (at' L i).next < N) :
    Calls Tryz.prog 92 #[.pointer (some ⟨b, 0, none⟩), .int .i64 (i : Int)] w fun e w' =>
      e = .returned (.tuple #[]) ∧ La w' b g vf cap N (lifts L i) free n ∧ Upd (· = g) w w' := by
  obtain ⟨c0, c1, c2, fr⟩ := cells3 h.obj
  obtain ⟨i0, i1, i2, i3⟩ := h.cells hi
  have bg := h.bg
  have y0 : (0 : Int) ≤ (i : Int) := by omega
  have y1 : (i : Int) < (N : Int) := by omega
  have H := Lib.hid h
  have HL : Hid (lifts L i = setPrev (setNext L (at' L i).prev (at' L i).next) (at' L i).next (at' L i).prev) := Lib.hid rfl
  obtain ⟨p0, p1, p2, p3⟩ := h.cells hp
  obtain ⟨q0, q1, q2, q3⟩ := h.cells hq
  have fg := h.free_
  generalize (at' L i).prev = p at *
  generalize (at' L i).next = q at *
  have x0 : (0 : Int) ≤ (p : Int) := by omega
  have x1 : (p : Int) < (N : Int) := by omega
  have v0 : (0 : Int) ≤ (q : Int) := by omega
  have v1 : (q : Int) < (N : Int) := by omega
  clear h
  go_enter Tryz.func92, Tryz.ntmps92
  go_wp2_with fail
  go_quiet (fail)
  go_wp2_with fail
  go_region_held3 (fun w' => w'.cell? ⟨b, 0, none⟩ = some (.slice (some ⟨g, 0, none⟩) N cap))
    (first | (go_keep; done) | exact far_set bg (by assumption) | exact far_set' bg (by assumption) | exact far_set bg (far_set' bg c0) | exact far_set' bg (far_set' bg c0))
    (fail)
  go_wp2_with fail
  go_end0
  rw [HL.out]
  exact ⟨rfl, ((H.out.drewN _).next hp).prev hq, (((Upd.refl _ w).drewN _).setB).setB⟩

/-- A link is written whole. -/
theorem La.put (h : La w b g vf cap N L free n) {i : Nat} (k : Lk) (hi : i < N) :
    La ((((w.setCell ⟨g, i * 4, none⟩ (.string k.v)).setCell ⟨g, i * 4 + 1, none⟩ (.int .i64 (k.prev : Int))).setCell ⟨g, i * 4 + 2, none⟩ (.int .i64 (k.next : Int))).setCell ⟨g, i * 4 + 3, none⟩ (.bool k.there))
      b g vf cap N (L.set i k) free n := by
  have hl := h.len
  have s : ∀ (M : List Lk) (x y : Lk), M = L.set i x → M.length = N → at' M i = x ∧ M.set i y = L.set i y := fun M x y hM hMl => by
    subst hM
    exact ⟨by rw [at_set (by omega), if_pos rfl], by rw [List.set_set]⟩
  have h1 := h.set1 (j := 0) (u := .string k.v) (k' := ⟨k.v, (at' L i).prev, (at' L i).next, (at' L i).there⟩) hi (by omega) rfl
  obtain ⟨a1, b1⟩ := s _ _ ⟨k.v, k.prev, (at' L i).next, (at' L i).there⟩ rfl h1.len
  have h2 := h1.set1 (j := 1) (u := .int .i64 (k.prev : Int)) (k' := ⟨k.v, k.prev, (at' L i).next, (at' L i).there⟩) hi (by omega) (by rw [a1]; rfl)
  rw [b1] at h2
  obtain ⟨a2, b2⟩ := s _ _ ⟨k.v, k.prev, k.next, (at' L i).there⟩ rfl h2.len
  have h3 := h2.set1 (j := 2) (u := .int .i64 (k.next : Int)) (k' := ⟨k.v, k.prev, k.next, (at' L i).there⟩) hi (by omega) (by rw [a2]; rfl)
  rw [b2] at h3
  obtain ⟨a3, b3⟩ := s _ _ k rfl h3.len
  have h4 := h3.set1 (j := 3) (u := .bool k.there) (k' := k) hi (by omega) (by rw [a3]; rfl)
  rw [b3] at h4
  exact h4

theorem La.count (h : La w b g vf cap N L free n) (n' : Nat) : La (w.setCell ⟨b, 2, none⟩ (.int .i64 (n' : Int))) b g vf cap N L free n' :=
  ⟨block_setCell h.obj, ownsRow_setCell_other h.row (by simpa [Value.ownBlock] using h.bg.symm) _, ownsRow_setCell_other h.fr h.bf _, h.len, h.bg, h.bf, h.gf⟩

theorem nts_dropLast (l : List Nat) (m : Nat) (hm : l.length = m + 1) : (nts l).take (m * 1) = nts l.dropLast := by
  unfold nts
  rw [Nat.mul_one, List.dropLast_eq_take, hm, Nat.add_sub_cancel, List.map_take]

theorem La.cutfree {gf cf m : Nat} (h : La w b g (.slice (some ⟨gf, 0, none⟩) (m + 1) cf) cap N L free n) (hm : free.length = m + 1) :
    La (w.setCell ⟨b, 1, none⟩ (.slice (some ⟨gf, 0, none⟩) m cf)) b g (.slice (some ⟨gf, 0, none⟩) m cf) cap N L free.dropLast n := by
  have hd : free.dropLast.length = m := by simp [hm]
  have hf := h.fr
  rw [hm] at hf
  have hc := own_cut hf (m := m) (by omega)
  rw [nts_dropLast _ _ hm] at hc
  refine ⟨block_setCell h.obj, ownsRow_setCell_other h.row (by simpa [Value.ownBlock] using h.bg.symm) _, ?_, h.len, h.bg, h.bf, h.gf⟩
  rw [hd]
  exact ownsRow_setCell_other hc (by simpa [Value.ownBlock] using h.bf) _

theorem infoL : (Tryz.prog.info? 121).map (fun i => (i.zero, i.size, i.bytes)) = some (some (.agg #[.string ByteArray.empty, .int .i64 0, .int .i64 0, .bool false]), 4, 40) := by kernel_rfl

/-- What take leaves. -/
def TakePost (b g : Nat) (vf : Value) (n : Nat) (L : List Lk) (free : List Nat) (v : ByteArray) (w : World) (e : Ending) (w' : World) : Prop :=
  e = .returned (.int .i64 ((took L free v).1 : Int)) ∧ ∃ g' vf' cap', La w' b g' vf' cap' (took L free v).2.1.length (took L free v).2.1 (took L free v).2.2 (n + 1) ∧
    (g' = g ∨ w.heap.size ≤ g') ∧ (∀ k, vf'.ownBlock = some k → vf.ownBlock = some k) ∧ Upd (Fp b g vf) w w'

theorem took_some {i : Nat} (v : ByteArray) (hf : free.getLast? = some i) : took L free v = (i, L.set i (fresh v), free.dropLast) := by unfold took; rw [hf]
theorem took_none (v : ByteArray) (hf : free = []) : took L free v = (L.length, L ++ [fresh v], []) := by subst hf; rfl

theorem take_old (h : La w b g vf cap N L free n) (v : ByteArray) {i : Nat} (hf : free.getLast? = some i) (hi : i < N) (hn : n ≤ 1000000) (hfl : free.length ≤ 1000000) :
    Calls Tryz.prog 95 #[.pointer (some ⟨b, 0, none⟩), .string v] w (TakePost b g vf n L free v w) := by
  have hpos : 0 < free.length := by
    cases free with
    | nil => simp at hf
    | cons x l => simp
  obtain ⟨gf, cf, rfl⟩ : ∃ gf cf, vf = .slice (some ⟨gf, 0, none⟩) free.length cf := by
    rcases h.fr.2 with ⟨_, h0⟩ | ⟨g', cap', cur, hv, _⟩
    · omega
    · exact ⟨g', cap', hv⟩
  have hfc : w.cell? ⟨gf, free.length - 1, none⟩ = some (.int .i64 (i : Int)) := by
    have := h.fr.cells (g := gf) rfl (free.length - 1) (.int .i64 (i : Int)) (by
      unfold nts
      rw [List.getElem?_map, ← List.getLast?_eq_getElem?, hf]; rfl)
    rw [add_pl, Nat.zero_add] at this
    exact this
  obtain ⟨c0, c1, c2, fr⟩ := cells3 h.obj
  obtain ⟨i0, i1, i2, i3⟩ := h.cells hi
  have fg := h.free_
  have bg := h.bg
  obtain ⟨m, hm⟩ : ∃ m, free.length = m + 1 := ⟨free.length - 1, by omega⟩
  have H := Lib.hid h
  have HM := Lib.hid hm
  have HT := Lib.hid (took_some (L := L) v hf)
  rw [hm, Nat.add_sub_cancel] at hfc
  rw [hm] at c1
  have y0 : (0 : Int) ≤ (i : Int) := by omega
  have y1 : (i : Int) < (N : Int) := by omega
  have e1 : ((m + 1 : Nat) : Int) - 1 = (m : Int) := by omega
  have z0 : (0 : Int) ≤ (m : Int) := by omega
  have z1 : (m : Int) < ((m + 1 : Nat) : Int) := by omega
  have z2 : (m : Int) ≤ (cf : Int) := by
    obtain ⟨cur, _, h1, _⟩ := own_block h.fr
    omega
  rw [hm] at hfl
  clear h hf hpos hm
  go_enter Tryz.func95, Tryz.ntmps95
  go_wp2_with fail
  go_ret
  have h := H.out
  have hm := HM.out
  rw [hm] at h
  have h1 := ((h.cutfree hm).put (fresh v) hi).count (n + 1)
  unfold TakePost
  rw [HT.out]
  refine ⟨rfl, g, .slice (some ⟨gf, 0, none⟩) m cf, cap, ?_, .inl rfl, fun k hk => by simpa [Value.ownBlock] using hk, ?_⟩
  · show La _ b g _ cap (L.set i (fresh v)).length _ _ _
    rw [List.length_set, h.len]
    exact h1
  have u1 : Upd (Fp b g (.slice (some ⟨gf, 0, none⟩) (m + 1) cf)) w (w.setCell ⟨b, 1, none⟩ (.slice (some ⟨gf, 0, none⟩) m cf)) := (Upd.refl _ w).setCell (.inl (.inl rfl)) _
  rw [hm]
  exact ((((u1.setCell (p := ⟨g, i * 4, none⟩) (.inl (.inr (.inl rfl))) _).setCell (p := ⟨g, i * 4 + 1, none⟩) (.inl (.inr (.inl rfl))) _).setCell (p := ⟨g, i * 4 + 2, none⟩) (.inl (.inr (.inl rfl))) _).setCell
    (p := ⟨g, i * 4 + 3, none⟩) (.inl (.inr (.inl rfl))) _).setCell (p := ⟨b, 2, none⟩) (.inl (.inl rfl)) _

theorem lk_zero : lkc Lk.zero = [.string ByteArray.empty, .int .i64 0, .int .i64 0, .bool false] := rfl

/-- The arena has a new place. -/
theorem La.grow {g' cap' : Nat} {w1 : World} (h : La w b g vf cap N L free n) (hg : w.grownBy w1 (some g)) (hat : g' = g ∨ w.heap.size ≤ g')
    (hown : w1.ownsRow 0 121 4 (.slice (some ⟨g', 0, none⟩) (N + 1) cap') (N + 1) (lks L ++ lkc Lk.zero)) :
    La (w1.setCell ⟨b, 0, none⟩ (.slice (some ⟨g', 0, none⟩) (N + 1) cap')) b g' vf cap' (N + 1) (L ++ [Lk.zero]) free n := by
  have hlt := lt_of_block h.obj
  have hb1 : w1.heap[b]? = _ := (hg.block b hlt (by simpa using h.bg)).trans h.obj
  have hb2 : b ≠ g' := by
    rcases hat with e | e
    · rw [e]; exact h.bg
    · omega
  have hf1 := h.fr.kept hg (.inr h.gf)
  have hf2 : vf.ownBlock ≠ some g' := by
    rcases hat with e | e
    · rw [e]; exact h.gf
    · intro e2; have := (h.fr.lt _ e2).2; omega
  refine ⟨block_setCell hb1, ?_, ownsRow_setCell_other hf1 h.bf _, by simp [h.len], hb2, h.bf, hf2⟩
  have : lks (L ++ [Lk.zero]) = lks L ++ lkc Lk.zero := by simp [lks]
  rw [this]
  exact ownsRow_setCell_other hown (by simpa [Value.ownBlock] using hb2.symm) _

theorem grown_al {w w' : World} {row : Option Nat} {x : Obj} (hg : (w.alloc x).grownBy w' row) : w.grownBy w' row := by
  refine ⟨hg.os, hg.tape, hg.output, ?_, fun i hi hne => ?_⟩
  · have := hg.size; simp at this; omega
  · rw [hg.block i (by simp; omega) hne]; exact Below.heap_alloc w _ i hi

theorem grow_facts {g' cap' : Nat} {w1 : World} {x : Obj} (h : La w b g vf cap N L free n) (hg : (w.alloc x).grownBy w1 (some g)) (hat : some g = some g' ∨ g' = w.heap.size + 1)
    (hown : w1.ownsRow 0 121 4 (.slice (some ⟨g', 0, none⟩) (N + 1) cap') (N + 1) (lks L ++ lkc Lk.zero)) :
    La (w1.setCell ⟨b, 0, none⟩ (.slice (some ⟨g', 0, none⟩) (N + 1) cap')) b g' vf cap' (N + 1) (L ++ [Lk.zero]) free n ∧ (g' = g ∨ w.heap.size ≤ g') ∧ b ≠ g' ∧
    w1.cell? ⟨b, 0, none⟩ = some (.slice (some ⟨g, 0, none⟩) N cap) ∧ w1.cell? ⟨b, 1, none⟩ = some vf ∧ w1.cell? ⟨b, 2, none⟩ = some (.int .i64 (n : Int)) ∧ (∀ o, w1.frozen? ⟨b, o, none⟩ = false) ∧
    (w1.cell? ⟨g', N * 4, none⟩ = some (.string ByteArray.empty) ∧ w1.cell? ⟨g', N * 4 + 1, none⟩ = some (.int .i64 0) ∧ w1.cell? ⟨g', N * 4 + 2, none⟩ = some (.int .i64 0) ∧ w1.cell? ⟨g', N * 4 + 3, none⟩ = some (.bool false)) ∧
    (∀ o, w1.frozen? ⟨g', o, none⟩ = false) ∧ Upd (Fp b g vf) w w1 := by
  have hgw := grown_al hg
  have hat' : g' = g ∨ w.heap.size ≤ g' := by
    rcases hat with e | e
    · left; injection e with e; exact e.symm
    · right; omega
  have hl := h.grow hgw hat' hown
  have hb1 : w1.heap[b]? = _ := (hgw.block b (lt_of_block h.obj) (by simpa using h.bg)).trans h.obj
  obtain ⟨d0, d1, d2, dfr⟩ := cells3 hb1
  obtain ⟨cur, hc, _⟩ := own_block hown
  have hlen : (lks L).length = N * 4 := by unfold lks; rw [flat_length lk4, h.len]
  have ck : ∀ j u, (lkc Lk.zero)[j]? = some u → w1.cell? ⟨g', N * 4 + j, none⟩ = some u := fun j u hu => by
    have := hown.cells (g := g') rfl (N * 4 + j) u (by rw [List.getElem?_append_right (by omega), hlen, Nat.add_sub_cancel_left]; exact hu)
    rw [add_pl, Nat.zero_add] at this
    exact this
  exact ⟨hl, hat', hl.bg, d0, d1, d2, dfr, ⟨ck 0 _ rfl, ck 1 _ rfl, ck 2 _ rfl, ck 3 _ rfl⟩, free_of hc, (Upd.of_grown hgw).mono (fun i _ hi => .inr (.inl (by injection hi with e; exact e.symm)))⟩

theorem take_new (h : La w b g vf cap N L free n) (v : ByteArray) (hf : free = []) (hN : N ≤ 1000000) (hn : n ≤ 1000000) :
    Calls Tryz.prog 95 #[.pointer (some ⟨b, 0, none⟩), .string v] w (TakePost b g vf n L free v w) := by
  have HT := Lib.hid (took_none (L := L) v hf)
  subst hf
  obtain ⟨A, cf, hvf⟩ : ∃ A cf, vf = .slice A 0 cf := by
    rcases h.fr.2 with ⟨h1, _⟩ | ⟨g', cap', cur, hv, _⟩
    · exact ⟨none, 0, h1⟩
    · exact ⟨_, _, hv⟩
  obtain ⟨c0, c1, c2, fr⟩ := cells3 h.obj
  obtain ⟨i0, hi0, hz0, hz1, hz2⟩ := info_parts infoL
  have H := Lib.hid h
  have HV := Lib.hid hvf
  rw [hvf] at c1
  clear h hvf
  go_enter Tryz.func95, Tryz.ntmps95
  go_wp2_with (at_builtin; refine wpList_append_lies _ rfl _ _ 113 rfl 0 121 i0 (.agg #[.string ByteArray.empty, .int .i64 0, .int .i64 0, .bool false]) 4 40 Tryz.underlying113 hi0 hz0 hz1 hz2 rfl (by decide) (.slice (some ⟨g, 0, none⟩) N cap) N (lks L) rfl (H.out.row.alloc _) ⟨w.heap.size, 0, none⟩ 1 1 (lkc Lk.zero) rfl rfl (World.news_of_block (cs := #[.string ByteArray.empty, .int .i64 0, .int .i64 0, .bool false]) (heap_alloc_new w _)) (by simp [lk_zero, Value.oneCell']) (by omega) (by unfold maxLen; omega) (by omega) (by omega) (w.heap.size + 1) (by simp) ?_; intro g' cap' w1 hown hgr hat hlt; obtain ⟨hla, hat', bg', d0, d1, d2, dfr, ⟨k0, k1, k2, k3⟩, kf, hu⟩ := grow_facts H.out hgr hat hown; have HLA := Lib.hid hla; have HAT := Lib.hid hat'; have HU := Lib.hid hu; have z0 : (0 : Int) ≤ (N : Int) := Int.natCast_nonneg _; have z1 : (N : Int) < ((N + 1 : Nat) : Int) := Int.ofNat_lt.2 (Nat.lt_succ_self N); clear hla hat' hu hat hown hgr hlt)
  go_ret
  unfold TakePost
  rw [HT.out]
  have hl := H.out.len
  have h1 := ((HLA.out.put (i := N) (fresh v) (by omega)).count (n + 1))
  have e : (L ++ [Lk.zero]).set N (fresh v) = L ++ [fresh v] := by
    rw [← hl, List.set_append_right _ _ (Nat.le_refl _), Nat.sub_self]; rfl
  rw [e] at h1
  have hg' : Fp b g vf g' ∨ w.heap.size ≤ g' := by
    rcases HAT.out with e | e
    · exact .inl (.inr (.inl e))
    · exact .inr e
  refine ⟨by rw [hl]; rfl, g', vf, cap', ?_, HAT.out, fun k hk => hk, ?_⟩
  · show La _ b g' vf cap' (L ++ [fresh v]).length _ _ _
    rw [List.length_append, hl]
    exact h1
  exact (((((HU.out.setCell (p := ⟨b, 0, none⟩) (.inl (.inl rfl)) _).setCell (p := ⟨g', N * 4, none⟩) hg' _).setCell (p := ⟨g', N * 4 + 1, none⟩) hg' _).setCell (p := ⟨g', N * 4 + 2, none⟩) hg' _).setCell
    (p := ⟨g', N * 4 + 3, none⟩) hg' _).setCell (p := ⟨b, 2, none⟩) (.inl (.inl rfl)) _

theorem take_any (h : La w b g vf cap N L free n) (v : ByteArray) (hfree : ∀ i ∈ free, i < N) (hN : N ≤ 1000000) (hn : n ≤ 1000000) (hfl : free.length ≤ 1000000) :
    Calls Tryz.prog 95 #[.pointer (some ⟨b, 0, none⟩), .string v] w (TakePost b g vf n L free v w) := by
  cases hf : free.getLast? with
  | none => exact take_new h v (by simpa using hf) hN hn
  | some i => exact take_old h v hf (hfree i (List.mem_of_getLast? hf)) hn hfl
end

end Go.Proofs.YtkeicfajlmhajaaGreat.Li

/- Package list as rows of handles and values: New, PushBack, Remove, Get, Front, Next, Len. -/
namespace Go.Proofs.YtkeicfajlmhajaaGreat.Li
open Go Go.RowKit Go.Proofs.YtkeicfajlmhajaaGreat.K Go.Proofs.YtkeicfajlmhajaaGreat.Ar

/-- The list at b, all its memory in F: its handles and values. -/
def Lst (w : World) (b : Nat) (F : Nat → Prop) (xs : List (Nat × ByteArray)) : Prop :=
  ∃ g vf cap L free, La w b g vf cap L.length L free xs.length ∧ Ok L free (xs.map (·.1)) ∧ (∀ x ∈ xs, (at' L x.1).v = x.2) ∧ L.length ≤ 100000 ∧ (∀ k, Fp b g vf k → F k) ∧ ∀ k, F k → k < w.heap.size

/-- What a step may have made besides. -/
def more (F : Nat → Prop) (w w' : World) : Nat → Prop := fun k => F k ∨ (w.heap.size ≤ k ∧ k < w'.heap.size)

section
variable {w : World} {b : Nat} {F : Nat → Prop} {xs : List (Nat × ByteArray)}

theorem Lst.lt (h : Lst w b F xs) : ∀ k, F k → k < w.heap.size := by obtain ⟨g, vf, cap, L, free, _, _, _, _, _, h⟩ := h; exact h
theorem Lst.self (h : Lst w b F xs) : F b := by obtain ⟨g, vf, cap, L, free, _, _, _, _, h, _⟩ := h; exact h b (.inl rfl)
theorem Lst.drewN (h : Lst w b F xs) (k : Nat) : Lst (w.drewN k) b F xs := by
  obtain ⟨g, vf, cap, L, free, h1, h2, h3, h4, h5, h6⟩ := h
  exact ⟨g, vf, cap, L, free, h1.drewN k, h2, h3, h4, h5, h6⟩
theorem Lst.upd {w' : World} {G : Nat → Prop} (h : Lst w b F xs) (hu : Upd G w w') (hG : ∀ k, F k → ¬ G k) : Lst w' b F xs := by
  obtain ⟨g, vf, cap, L, free, h1, h2, h3, h4, h5, h6⟩ := h
  exact ⟨g, vf, cap, L, free, h1.upd hu (fun k hk => hG k (h5 k hk)), h2, h3, h4, h5, fun k hk => Nat.lt_of_lt_of_le (h6 k hk) hu.size⟩
theorem Lst.below {w' : World} (h : Lst w b F xs) (hb : Below w.heap.size w w') : Lst w' b F xs :=
  h.upd (Upd.of_below (F := fun _ => False) hb (fun i h1 h2 => by omega)) (fun _ _ => id)
theorem Lst.mono {G : Nat → Prop} (h : Lst w b F xs) (hG : ∀ k, F k → G k) (hlt : ∀ k, G k → k < w.heap.size) : Lst w b G xs := by
  obtain ⟨g, vf, cap, L, free, h1, h2, h3, h4, h5, h6⟩ := h
  exact ⟨g, vf, cap, L, free, h1, h2, h3, h4, fun k hk => hG k (h5 k hk), hlt⟩
theorem Lst.nodup (h : Lst w b F xs) : (xs.map (·.1)).Nodup := by
  obtain ⟨g, vf, cap, L, free, _, h2, _⟩ := h
  have := h2.nodup
  rw [List.cons_append, List.nodup_cons, List.nodup_append] at this
  exact this.2.1
theorem Lst.pos (h : Lst w b F xs) : ∀ x ∈ xs, x.1 ≠ 0 := by
  obtain ⟨g, vf, cap, L, free, _, h2, _⟩ := h
  intro x hx e
  have := h2.nodup
  rw [List.cons_append, List.nodup_cons] at this
  exact this.1 (List.mem_append_left _ (e ▸ List.mem_map_of_mem hx))

theorem more_lt {w' : World} (h : ∀ k, F k → k < w.heap.size) (hs : w.heap.size ≤ w'.heap.size) : ∀ k, more F w w' k → k < w'.heap.size := by
  rintro k (hk | hk)
  · exact Nat.lt_of_lt_of_le (h k hk) hs
  · exact hk.2

/-- A handle of the row is there. -/
theorem there {L : List Lk} {free : List Nat} (hok : Ok L free (xs.map (·.1))) {x : Nat × ByteArray} (hx : x ∈ xs) : x.1 ≠ 0 ∧ x.1 < L.length ∧ (at' L x.1).there = true := by
  have hm : x.1 ∈ xs.map (·.1) := List.mem_map_of_mem hx
  have := hok.nodup
  rw [List.cons_append, List.nodup_cons] at this
  exact ⟨fun e => this.1 (List.mem_append_left _ (e ▸ hm)), hok.lt _ hm⟩

theorem lst_get (h : Lst w b F xs) {x : Nat × ByteArray} (hx : x ∈ xs) :
    Calls Tryz.prog 70 #[.pointer (some ⟨b, 0, none⟩), .int .i64 (x.1 : Int)] w fun e w' => e = .returned (.tuple #[.string x.2, .bool true]) ∧ w = w' := by
  obtain ⟨g, vf, cap, L, free, h1, h2, h3, h4, h5, h6⟩ := h
  obtain ⟨t1, t2, t3⟩ := there h2 hx
  rw [← h3 x hx]
  exact get_yes h1 t1 t2 t3
theorem lst_len (h : Lst w b F xs) : Calls Tryz.prog 74 #[.pointer (some ⟨b, 0, none⟩)] w fun e w' => e = .returned (.int .i64 (xs.length : Int)) ∧ w = w' := by
  obtain ⟨g, vf, cap, L, free, h1, h2, h3, h4, h5, h6⟩ := h
  exact len_ h1
/-- The handle at the head of a row; 0: it is empty. -/
def hdl (s : List (Nat × ByteArray)) : Nat := (s.map (·.1)).headD 0

/-- The handle at the front; 0: there is none. -/
theorem lst_front (h : Lst w b F xs) : Calls Tryz.prog 71 #[.pointer (some ⟨b, 0, none⟩)] w fun e w' => e = .returned (.int .i64 (hdl xs : Int)) ∧ w = w' := by
  obtain ⟨g, vf, cap, L, free, h1, h2, h3, h4, h5, h6⟩ := h
  unfold hdl
  rw [← chain_first h2.chain]
  exact front h1 h2.pos
/-- The handle behind. -/
theorem lst_next {p s : List (Nat × ByteArray)} {x : Nat × ByteArray} (h : Lst w b F (p ++ x :: s)) :
    Calls Tryz.prog 90 #[.pointer (some ⟨b, 0, none⟩), .int .i64 (x.1 : Int)] w fun e w' => e = .returned (.int .i64 (hdl s : Int)) ∧ w = w' := by
  obtain ⟨g, vf, cap, L, free, h1, h2, h3, h4, h5, h6⟩ := h
  unfold hdl
  obtain ⟨t1, t2, t3⟩ := there h2 (x := x) (by simp)
  have hc := h2.chain
  rw [List.map_append, List.map_cons] at hc
  rw [← chain_first (chain_append.1 hc).2]
  exact next_ h1 t1 t2 t3

theorem lst_cell {x : Nat × ByteArray} (h : Lst w b F xs) (hx : x ∈ xs) :
    ∃ g cap N, w.cell? ⟨b, 0, none⟩ = some (.slice (some ⟨g, 0, none⟩) N cap) ∧ w.cell? ⟨g, x.1 * 4, none⟩ = some (.string x.2) ∧ x.1 < N := by
  obtain ⟨g, vf, cap, L, free, h1, h2, h3, h4, h5, h6⟩ := h
  obtain ⟨t1, t2, t3⟩ := there h2 hx
  refine ⟨g, cap, L.length, (cells3 h1.obj).1, ?_, t2⟩
  rw [← h3 x hx]
  exact (h1.cells t2).1

/-- A list with nothing. -/
theorem lst_new (w : World) : Calls Tryz.prog 57 #[] w fun e w' => e = .returned (.pointer (some ⟨w.heap.size + 1, 0, none⟩)) ∧
    Lst w' (w.heap.size + 1) (fun k => w.heap.size ≤ k ∧ k < w'.heap.size) [] ∧ Below w.heap.size w w' := by
  have hmk : ∀ w : World, (Instr.makeSlice 113 (.int .i64 1) (.int .i64 1)).run Tryz.prog w = .ok (.slice (some ⟨w.heap.size, 0, none⟩) 1 1) (w.alloc (.cells #[.string ByteArray.empty, .int .i64 0, .int .i64 0, .bool false] 121)) := fun _ => by kernel_rfl
  go_enter Tryz.func57, Tryz.ntmps57
  go_wp2
  go_ret
  have hb0 := block_new w (.cells #[.string ByteArray.empty, .int .i64 0, .int .i64 0, .bool false] 121)
  have hb1 := block_alloc (o := .cells #[.slice (some ⟨w.heap.size, 0, none⟩) 1 1, .slice none 0 0, .int .i64 0] 115) hb0
  refine ⟨rfl, ⟨w.heap.size, .slice none 0 0, 1, [Lk.zero], [], ⟨block_new' (by simp) _, ⟨rfl, .inr ⟨w.heap.size, 1, _, rfl, Nat.zero_le _, hb1, Nat.le_refl _, by unfold maxLen; omega, rfl, rfl⟩⟩, World.ownsRow_nil _ _ _ _, rfl, by omega, by simp [Value.ownBlock], by simp [Value.ownBlock]⟩,
    ok_new, by simp, by simp, ?_, fun k hk => hk.2⟩, ((Below.refl _ _).alloc (Nat.le_refl _) _).alloc (by simp) _⟩
  rintro k (rfl | rfl | hk)
  · simp
  · simp; omega
  · simp [Value.ownBlock] at hk

/-- What PushBack leaves. -/
def PushPost (b : Nat) (F : Nat → Prop) (xs : List (Nat × ByteArray)) (v : ByteArray) (w : World) (e : Ending) (w' : World) : Prop :=
  ∃ i : Nat, e = .returned (.int .i64 (i : Int)) ∧ i ∉ xs.map (·.1) ∧ Lst w' b (more F w w') (xs ++ [(i, v)]) ∧ Upd F w w'

theorem push_end {g g' cap' : Nat} {vf vf' : Value} {L : List Lk} {free : List Nat} {v : ByteArray} {w1 w2 : World} (hlt : ∀ k, F k → k < w.heap.size) (hF : ∀ k, Fp b g vf k → F k) (ok : Ok L free (xs.map (·.1))) (hv : ∀ x ∈ xs, (at' L x.1).v = x.2) (hL : L.length ≤ 100000) (hx : xs.length ≤ 90000)
    (h1 : La w1 b g' vf' cap' (took L free v).2.1.length (took L free v).2.1 (took L free v).2.2 (xs.length + 1)) (hg : g' = g ∨ w.heap.size ≤ g') (hvf : ∀ k, vf'.ownBlock = some k → vf.ownBlock = some k) (hu : Upd (Fp b g vf) w w1)
    (h2 : La w2 b g' vf' cap' (took L free v).2.1.length (pushed L free v) (took L free v).2.2 (xs.length + 1)) (hu2 : Upd (· = g') w1 w2) :
    (took L free v).1 ∉ xs.map (·.1) ∧ Lst w2 b (more F w w2) (xs ++ [((took L free v).1, v)]) ∧ Upd F w w2 := by
  obtain ⟨o1, o2, o3, _, _, o6⟩ := ok.push v
  have tk := ok.take v
  have hU : Upd F w w2 := (hu.mono (fun i _ hi => hF i hi)).then hu2 (fun i hi e => by
    rcases hg with e2 | e2
    · exact hF i (.inr (.inl (e.trans e2)))
    · have : i = g' := e
      omega)
  have hg1 := h1.lt g' (.inr (.inl rfl))
  refine ⟨tk.new, ⟨g', vf', cap', pushed L free v, (took L free v).2.2, ?_, ?_, ?_, ?_, ?_, more_lt hlt hU.size⟩, hU⟩
  · rw [o6, List.length_append]; exact h2
  · rw [List.map_append]; exact o1
  · intro x hx
    rcases List.mem_append.1 hx with hx | hx
    · rw [o2 _ (List.mem_map_of_mem hx)]; exact hv x hx
    · rw [List.mem_singleton] at hx; subst hx; exact o3
  · rw [o6]
    exact tk.few 100000 hL (by simp; omega)
  · rintro k (rfl | rfl | hk)
    · exact .inl (hF _ (.inl rfl))
    · rcases hg with e | e
      · exact .inl (hF _ (.inr (.inl e)))
      · exact .inr ⟨e, Nat.lt_of_lt_of_le hg1 hu2.size⟩
    · exact .inl (hF _ (.inr (.inr (hvf k hk))))

theorem lst_push (h : Lst w b F xs) (v : ByteArray) (hx : xs.length ≤ 90000) :
    Calls Tryz.prog 76 #[.pointer (some ⟨b, 0, none⟩), .string v] w (PushPost b F xs v w) := by
  obtain ⟨g, vf, cap, L, free, h1, h2, h3, h4, h5, h6⟩ := h
  obtain ⟨o1, o2, o3, o4, o5, o6⟩ := h2.push v
  have tk := h2.take v
  have T := Lib.hid (take_any h1 v (fun i hi => (h2.freelt i hi).1) (by omega) (by omega) (by have := h2.size; omega))
  have E := Lib.hid (fun (g' cap' : Nat) (vf' : Value) (w1 w2 : World) => push_end (w := w) (g' := g') (cap' := cap') (vf' := vf') (w1 := w1) (w2 := w2) h6 h5 h2 h3 h4 hx (v := v))
  have TL := Lib.hid tk.lt
  have O4 := Lib.hid o4
  have O5 := Lib.hid o5
  have HP : Hid (pushed L free v = lays (took L free v).2.1 (took L free v).1 (at' (took L free v).2.1 0).prev 0) := Lib.hid rfl
  clear h1 h2 h3 h4 h5 h6 o1 o2 o3 o4 o5 o6 tk
  go_enter Tryz.func76, Tryz.ntmps76
  go_wp2_with fail
  refine T.out.mono ?_
  rintro e w1 ⟨rfl, g', vf', cap', hla, hg, hvf, hu⟩
  obtain ⟨c0, c1, c2, fr⟩ := cells3 hla.obj
  obtain ⟨-, k1, -, -⟩ := hla.cells O5.out
  rw [Nat.zero_mul] at k1
  have LY := lays_ hla TL.out O4.out O5.out
  rw [← HP.out] at LY
  have EE := Lib.hid (fun w2 => E.out g' cap' vf' w1 w2 hla hg hvf hu)
  have z1 : (0 : Int) < ((took L free v).2.1.length : Int) := Int.ofNat_lt.2 O5.out
  generalize (at' (took L free v).2.1 0).prev = p at *
  generalize (took L free v).2.1.length = N at *
  generalize (took L free v).1 = i at *
  have HLY := Lib.hid LY
  clear LY hla hg hvf hu T E TL O4 O5 HP
  go_wp2_with fail
  refine HLY.out.mono ?_
  rintro e w2 ⟨rfl, hl2, hu2⟩
  have HE := Lib.hid (EE.out w2 hl2 hu2)
  clear hl2 hu2
  go_wp2_with fail
  go_ret
  exact ⟨i, rfl, HE.out⟩
end

end Go.Proofs.YtkeicfajlmhajaaGreat.Li

/- Package list: Remove, All. -/
namespace Go.Proofs.YtkeicfajlmhajaaGreat.Li
open Go Go.RowKit Go.Proofs.YtkeicfajlmhajaaGreat.K Go.Proofs.YtkeicfajlmhajaaGreat.Ar

theorem infoI : (Tryz.prog.info? 3).map (fun i => (i.zero, i.size, i.bytes)) = some (some (.int .i64 0), 1, 8) := by kernel_rfl

section
variable {w : World} {b g cap N n : Nat} {vf : Value} {L : List Lk} {free : List Nat}

/-- Behind the append to the free places. -/
theorem free_facts {i f' cf' : Nat} {w1 : World} {x : Obj} (h : La w b g vf cap N L free n) (hg : (w.alloc x).grownBy w1 vf.ownBlock) (hat : vf.ownBlock = some f' ∨ f' = w.heap.size + 1)
    (hown : w1.ownsRow 0 3 1 (.slice (some ⟨f', 0, none⟩) (free.length + 1) cf') (free.length + 1) (nts free ++ [.int .i64 (i : Int)])) :
    La (w1.setCell ⟨b, 1, none⟩ (.slice (some ⟨f', 0, none⟩) (free.length + 1) cf')) b g (.slice (some ⟨f', 0, none⟩) (free.length + 1) cf') cap N L (free ++ [i]) n ∧ (vf.ownBlock = some f' ∨ w.heap.size ≤ f') ∧
    w1.cell? ⟨b, 0, none⟩ = some (.slice (some ⟨g, 0, none⟩) N cap) ∧ w1.cell? ⟨b, 1, none⟩ = some vf ∧ w1.cell? ⟨b, 2, none⟩ = some (.int .i64 (n : Int)) ∧ (∀ o, w1.frozen? ⟨b, o, none⟩ = false) ∧ Upd (Fp b g vf) w w1 := by
  have hgw := grown_al hg
  have hb1 : w1.heap[b]? = _ := (hgw.block b (lt_of_block h.obj) (fun e => h.bf e.symm)).trans h.obj
  obtain ⟨d0, d1, d2, dfr⟩ := cells3 hb1
  have hr := h.row.kept hgw (.inr (by intro e; exact h.gf (by rw [← e]; rfl)))
  have hat' : vf.ownBlock = some f' ∨ w.heap.size ≤ f' := hat.imp id (fun e => by omega)
  have gl := h.lt g (.inr (.inl rfl))
  have bl := lt_of_block h.obj
  have nb : f' ≠ b := by
    rintro rfl
    rcases hat' with e | e
    · exact h.bf e
    · omega
  have ng : f' ≠ g := by
    rintro rfl
    rcases hat' with e | e
    · exact h.gf e
    · omega
  refine ⟨⟨block_setCell hb1, ownsRow_setCell_other hr (by simpa [Value.ownBlock] using h.bg.symm) _, ?_, h.len, h.bg, by simpa [Value.ownBlock] using nb, by simpa [Value.ownBlock] using ng⟩, hat', d0, d1, d2, dfr,
    (Upd.of_grown hgw).mono (fun k _ hk => .inr (.inr hk))⟩
  have e : nts (free ++ [i]) = nts free ++ [.int .i64 (i : Int)] := by simp [nts]
  rw [e, List.length_append]
  exact ownsRow_setCell_other hown (by simpa [Value.ownBlock] using nb) _
end

section
variable {w : World} {b : Nat} {F : Nat → Prop}

/-- What Remove leaves. -/
def RemPost (b : Nat) (F : Nat → Prop) (xs : List (Nat × ByteArray)) (v : ByteArray) (w : World) (e : Ending) (w' : World) : Prop :=
  e = .returned (.tuple #[.string v, .bool true]) ∧ Lst w' b (more F w w') xs ∧ Upd F w w'

set_option maxHeartbeats 800000 in
theorem lst_remove {p s : List (Nat × ByteArray)} {x : Nat × ByteArray} (h : Lst w b F (p ++ x :: s)) :
    Calls Tryz.prog 73 #[.pointer (some ⟨b, 0, none⟩), .int .i64 (x.1 : Int)] w (RemPost b F (p ++ s) x.2 w) := by
  have G := Lib.hid (lst_get h (x := x) (by simp))
  obtain ⟨g, vf, cap, L, free, h1, h2, h3, h4, h5, h6⟩ := h
  obtain ⟨t1, t2, t3⟩ := there h2 (x := x) (by simp)
  rw [List.map_append, List.map_cons] at h2
  obtain ⟨e1, e2, l1, l2, -⟩ := h2.lifts
  obtain ⟨k1, k2⟩ := h2.remove
  have LF := Lib.hid (lifts_ h1 t2 l1 l2)
  have hfl : free.length ≤ 100000 := by have := h2.size; omega
  have hlen : (p ++ x :: s).length = (p ++ s).length + 1 := by simp; omega
  have hlen2 : (p ++ s).length ≤ 100000 := by have := h2.size; simp at this ⊢; omega
  have K1 := Lib.hid k1
  have K2 := Lib.hid k2
  have H3 := Lib.hid h3
  have H5 := Lib.hid h5
  have H6 := Lib.hid h6
  have hrm : Hid (removed L x.1 = (lifts L x.1).set x.1 Lk.zero) := Lib.hid rfl
  rw [hlen] at LF
  obtain ⟨i0, hi0, hz0, hz1, hz2⟩ := info_parts infoI
  generalize hm : (p ++ s).length = m at *
  have HM := Lib.hid hm
  have hvx : Hid ((at' L x.1).v = x.2) := Lib.hid (h3 x (by simp))
  generalize x.2 = v at *
  obtain ⟨i, hi⟩ : ∃ i, i = x.1 := ⟨_, rfl⟩
  rw [← hi] at G LF K1 K2 hrm t1 t2 ⊢
  have HI := Lib.hid hi
  obtain ⟨N, hN⟩ : ∃ N, N = L.length := ⟨_, rfl⟩
  rw [← hN] at LF t2 h4
  have HNN := Lib.hid hN
  have y0 : (0 : Int) ≤ (i : Int) := by omega
  have y1 : (i : Int) < (N : Int) := by omega
  clear h1 h2 h3 h5 h6 e1 e2 l1 l2 k1 k2 t1 t3 hlen hm hi hN
  go_enter Tryz.func73, Tryz.ntmps73
  go_wp2_with (go_at_call 70; refine G.out.mono ?_; rintro e w' ⟨rfl, rfl⟩)
  refine LF.out.mono ?_
  rintro e w1 ⟨rfl, hla, hu⟩
  obtain ⟨c0, c1, c2, fr⟩ := cells3 hla.obj
  obtain ⟨j0, j1, j2, j3⟩ := hla.cells t2
  have fg := hla.free_
  have bg := hla.bg
  have hpt := hla.put (i := i) Lk.zero t2
  rw [← hrm.out] at hpt
  have HPT := Lib.hid hpt
  have HU := Lib.hid hu
  clear hla hpt hu G LF
  have e1 : ((m + 1 : Nat) : Int) - 1 = (m : Int) := by omega
  go_wp2_with (at_builtin; refine wpList_append_lies _ rfl _ _ 92 rfl 0 3 i0 (.int .i64 0) 1 8 Tryz.underlying92 hi0 hz0 hz1 hz2 rfl (by decide) vf free.length (nts free) rfl (HPT.out.fr.alloc _) ⟨w1.heap.size, 0, none⟩ 1 1 [.int .i64 (i : Int)] rfl rfl (World.news_of_block (cs := #[.int .i64 (i : Int)]) (block_new' (by simp) _)) (by simp [Value.oneCell']) (by omega) (by unfold maxLen; omega) (by omega) (by omega) (w1.heap.size + 1) (by simp) ?_; intro f' cf' w3 hown hgr hat hlt; obtain ⟨hla, hat', d0, d1, d2, dfr, hu3⟩ := free_facts HPT.out hgr (hat.imp id (fun e => by rw [e]; simp)) hown; have HLA := Lib.hid hla; have HAT := Lib.hid hat'; have HU3 := Lib.hid hu3; clear hla hat' hu3 hat hown hgr hlt)
  go_ret2
  have hend := HLA.out.count m
  have hg : Fp b g vf g := .inr (.inl rfl)
  have hb' : Fp b g vf b := .inl rfl
  have u1 : Upd (Fp b g vf) w w1 := HU.out.mono (fun k _ hk => .inr (.inl hk))
  have u2 := (((u1.setCell (p := ⟨g, i * 4, none⟩) (.inl hg) (.string Lk.zero.v)).setCell (p := ⟨g, i * 4 + 1, none⟩) (.inl hg) (.int .i64 (Lk.zero.prev : Int))).setCell (p := ⟨g, i * 4 + 2, none⟩) (.inl hg) (.int .i64 (Lk.zero.next : Int))).setCell (p := ⟨g, i * 4 + 3, none⟩) (.inl hg) (.bool Lk.zero.there)
  have u3 := ((u2.trans HU3.out).setCell (p := ⟨b, 1, none⟩) (.inl hb') (.slice (some ⟨f', 0, none⟩) (free.length + 1) cf')).setCell (p := ⟨b, 2, none⟩) (.inl hb') (.int .i64 (m : Int))
  have hU := u3.mono (fun k _ hk => H5.out k hk)
  have hs2 := u2.size
  have hrl : (removed L i).length = L.length := by rw [hrm.out]; simp
  refine ⟨rfl, ⟨g, .slice (some ⟨f', 0, none⟩) (free.length + 1) cf', cap, removed L i, free ++ [i], ?_, ?_, ?_, ?_, ?_, more_lt H6.out hU.size⟩, hU⟩
  · rw [hrl, ← HNN.out, HM.out]; exact hend
  · rw [List.map_append]; exact K1.out
  · intro y hy
    have hy' : y ∈ p ++ x :: s := by
      rcases List.mem_append.1 hy with e | e
      · exact List.mem_append_left _ e
      · exact List.mem_append_right _ (List.mem_cons_of_mem _ e)
    rw [← H3.out y hy']
    refine K2.out _ ?_
    rw [← List.map_append]
    exact List.mem_map_of_mem hy
  · rw [hrl, ← HNN.out]; exact h4
  · rintro k (rfl | rfl | hk)
    · exact .inl (H5.out _ hb')
    · exact .inl (H5.out _ hg)
    · rcases HAT.out with e | e
      · have : f' = k := by simpa [Value.ownBlock] using hk
        subst this
        exact .inl (H5.out _ (.inr (.inr e)))
      · have hk2 := hend.lt k (.inr (.inr hk))
        have : f' = k := by simpa [Value.ownBlock] using hk
        subst this
        exact .inr ⟨Nat.le_trans hs2 e, hk2⟩

/-- What All leaves. -/
def AllPost (xs : List (Nat × ByteArray)) (w : World) (e : Ending) (w' : World) : Prop :=
  ∃ v, e = .returned v ∧ w'.ownsRow w.heap.size 9 1 v xs.length (xs.map fun x => Value.string x.2) ∧ Below w.heap.size w w' ∧ (xs = [] → v = .slice none 0 0)

theorem infoS : (Tryz.prog.info? 9).map (fun i => (i.zero, i.size, i.bytes)) = some (some (.string ByteArray.empty), 1, 16) := by kernel_rfl

theorem own_form' {w : World} {B e size n : Nat} {v : Value} {xs : List Value} (h : w.ownsRow B e size v n xs) : ∃ A c, v = .slice A n c := by
  rcases h.2 with ⟨rfl, h0⟩ | ⟨g, cap, cur, rfl, _⟩
  · exact ⟨none, 0, by rw [h0]⟩
  · exact ⟨_, _, rfl⟩

set_option maxHeartbeats 800000 in
theorem lst_all {xs : List (Nat × ByteArray)} (h : Lst w b F xs) : Calls Tryz.prog 69 #[.pointer (some ⟨b, 0, none⟩)] w (AllPost xs w) := by
  have FR := Lib.hid (lst_front h)
  obtain ⟨i0, hi0, hz0, hz1, hz2⟩ := info_parts infoS
  have H := Lib.hid h
  have hx : xs.length ≤ 100000 := by
    obtain ⟨g, vf, cap, L, free, h1, h2, h3, h4, h5, h6⟩ := h
    have := h2.size
    simp at this
    omega
  clear h
  go_enter Tryz.func69, Tryz.ntmps69
  go_wp2_with (go_at_call 71; refine FR.out.mono ?_; rintro e w' ⟨rfl, rfl⟩)
  go_loopg [3, 4] xs.length (fun k v3 v4 wr => ∃ p s, xs = p ++ s ∧ k = s.length ∧ v4 = .int .i64 (hdl s : Int) ∧ wr.ownsRow w.heap.size 9 1 v3 p.length (p.map fun x => Value.string x.2) ∧ Below w.heap.size w wr ∧ (p = [] → v3 = .slice none 0 0))
  case atStart => exact ⟨[], xs, rfl, rfl, rfl, World.ownsRow_nil _ _ _ _, Below.refl _ _, fun _ => rfl⟩
  case round =>
    obtain ⟨p, s, hxs, hk, rfl, ho, hb, hnil⟩ := hrel
    obtain ⟨gA, gc, rfl⟩ := own_form' ho
    have HO := Lib.hid ho
    have HB := Lib.hid hb
    have HBS := Lib.hid hb.size
    have HXS := Lib.hid hxs
    have HNIL := Lib.hid hnil
    clear ho hb hxs hnil
    cases s with
    | nil =>
      have e : hdl [] = 0 := rfl
      rw [e]
      go_wp2_with fail
      go_ret
      have h1 := HXS.out
      rw [List.append_nil] at h1
      subst h1
      exact ⟨_, rfl, HO.out, HB.out, HNIL.out⟩
    | cons x s =>
      have e : hdl (x :: s) = x.1 := rfl
      rw [e]
      have hp : x.1 ≠ 0 := H.out.pos x (by rw [HXS.out]; simp)
      have hl := H.out.below HB.out
      obtain ⟨g, cap, N, c0, k0, hlt⟩ := lst_cell hl (x := x) (by rw [HXS.out]; simp)
      have hpl : p.length ≤ 100000 := by rw [HXS.out] at hx; simp at hx; omega
      have NX := Lib.hid (fun (w2 : World) (hb2 : Below w.heap.size w w2) => lst_next (p := p) (s := s) (x := x) (w := w2) (b := b) (F := F) (by rw [← HXS.out]; exact H.out.below hb2))
      obtain ⟨i, hi⟩ : ∃ i, i = x.1 := ⟨_, rfl⟩
      rw [← hi] at hp k0 hlt NX ⊢
      have HI := Lib.hid hi
      have t1 : ((i : Int) != 0) = true := by simp; omega
      have z0 : (0 : Int) ≤ (i : Int) := by omega
      have z1 : (i : Int) < (N : Int) := by omega
      clear hl hi e hp
      go_wp2_with (at_builtin; refine wpList_append_lies _ rfl _ _ 22 rfl w.heap.size 9 i0 (.string ByteArray.empty) 1 16 Tryz.underlying22 hi0 hz0 hz1 hz2 rfl (by decide) (.slice gA p.length gc) p.length _ rfl (HO.out.alloc _) ⟨wr.heap.size, 0, none⟩ 1 1 [.string x.2] rfl rfl (World.news_of_block (cs := #[.string x.2]) (heap_alloc_new wr _)) (by simp [Value.oneCell']) (by omega) (by unfold maxLen; omega) (by omega) (by simp; have := HBS.out; omega) (wr.heap.size + 1) (by simp) ?_; intro f' cf' w3 hown hgr hat hlt3; have hb3 := HB.out.grown (grown_al hgr) HBS.out (fun g hg => (HO.out.lt g hg).1); have HO3 := Lib.hid hown; have HB3 := Lib.hid hb3; clear hown hgr hat hlt3 hb3)
      refine (NX.out _ HB3.out).mono ?_
      rintro e w4 ⟨rfl, rfl⟩
      go_wp2_with fail
      go_roundg s.length
      case measure => rw [hk]; simp
      case rel => exact ⟨p ++ [x], s, by rw [HXS.out]; simp, rfl, rfl, by simpa using HO3.out, HB3.out, fun e => by simp at e⟩
end

end Go.Proofs.YtkeicfajlmhajaaGreat.Li
