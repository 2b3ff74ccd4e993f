/- The walks of package list, over an arena. -/
import Derived.Test.YtkeicfajlmhajaaAr
import Derived.Test.YtkeicfajlmhajaaFl
import Derived.Test.YtkeicfajlmhajaaProg
import Derived.Lib.Hide
import Derived.BigRegion
import Derived.OwnWalk
import Derived.Laws.OwnMore
import Derived.Deep.AppendLies
import Derived.Deep.RegionHeld3
namespace Go.Proofs.Ytkeicfajlmhajaa.Li
open Go Go.RowKit Go.Proofs.Ytkeicfajlmhajaa.K Go.Proofs.Ytkeicfajlmhajaa.Ar

def lkc (k : Lk) : List Value := [.string k.v, .int .i64 (k.prev : Int), .int .i64 (k.next : Int), .bool k.there]
theorem lk4 (k : Lk) : (lkc k).length = 4 := rfl
def lks (L : List Lk) : List Value := L.flatMap lkc
def nts (l : List Nat) : List Value := l.map fun n : Nat => Value.int .i64 (n : Int)

/-- The list at b: its arena at g, its free places in vf. -/
structure La (w : World) (b g : Nat) (vf : Value) (cap N : Nat) (L : List Lk) (free : List Nat) (n : Nat) : Prop where
  obj : w.heap[b]? = some (.cells #[.slice (some ⟨g, 0, none⟩) N cap, vf, .int .i64 (n : Int)] 91 (0, 0))
  row : w.ownsRow 0 105 4 (.slice (some ⟨g, 0, none⟩) N cap) N (lks L)
  fr : w.ownsRow 0 3 1 vf free.length (nts free)
  len : L.length = N
  bg : b ≠ g
  bf : vf.ownBlock ≠ some b
  gf : vf.ownBlock ≠ some g

/-- What it owns. -/
def Fp (b g : Nat) (vf : Value) : Nat → Prop := fun k => k = b ∨ k = g ∨ vf.ownBlock = some k

theorem add_pl {b o i : Nat} : (⟨b, o, none⟩ : Addr).add i = ⟨b, o + i, none⟩ := by unfold Addr.add; split <;> simp_all

theorem own_setN {w : World} {base : Nat} {e : TypeId} {g n cap size : Nat} {xs : List Value} (h : w.ownsRow base e size (.slice (some ⟨g, 0, none⟩) n cap) n xs) (j : Nat) (u : Value) :
    (w.setCell ⟨g, j, none⟩ u).ownsRow base e size (.slice (some ⟨g, 0, none⟩) n cap) n (xs.set j u) := by
  rcases h.2 with ⟨hh, _⟩ | ⟨g', cap', cur, hv, hB, hg, hnc, hcm, hcs, htake⟩
  · cases hh
  · injection hv with h1 _ h3
    injection h1 with h1
    injection h1 with h1
    subst h1 h3
    refine ⟨by rw [List.length_set]; exact h.1, .inr ⟨g, cap, cur.setIfInBounds j u, rfl, hB, block_setCell hg, hnc, hcm, by rw [Array.size_setIfInBounds]; exact hcs, ?_⟩⟩
    rw [Array.toList_setIfInBounds, List.take_set, htake]
theorem own_block {w : World} {base : Nat} {e : TypeId} {g n cap size : Nat} {xs : List Value} (h : w.ownsRow base e size (.slice (some ⟨g, 0, none⟩) n cap) n xs) :
    ∃ cur, w.heap[g]? = some (.cells cur e (0, 0)) ∧ n ≤ cap ∧ cap ≤ maxLen := by
  rcases h.2 with ⟨hh, _⟩ | ⟨g', cap', cur, hv, hB, hg, hnc, hcm, hcs, htake⟩
  · cases hh
  · injection hv with h1 _ h3
    injection h1 with h1
    injection h1 with h1
    subst h1 h3
    exact ⟨cur, hg, hnc, hcm⟩

section
variable {w : World} {b g cap N n : Nat} {vf : Value} {L : List Lk} {free : List Nat}

theorem La.drewN (h : La w b g vf cap N L free n) (k : Nat) : La (w.drewN k) b g vf cap N L free n := ⟨h.obj, h.row, h.fr, h.len, h.bg, h.bf, h.gf⟩
theorem La.lt (h : La w b g vf cap N L free n) : ∀ k, Fp b g vf k → k < w.heap.size := by
  rintro k (rfl | rfl | hk)
  · exact lt_of_block h.obj
  · obtain ⟨cur, hc, _⟩ := own_block h.row; exact lt_of_block hc
  · exact (h.fr.lt k hk).2
theorem La.upd {w' : World} {F : Nat → Prop} (h : La w b g vf cap N L free n) (hu : Upd F w w') (hF : ∀ k, Fp b g vf k → ¬ F k) : La w' b g vf cap N L free n :=
  ⟨hu.get h.obj (hF b (.inl rfl)), own_upd h.row hu (fun k hk => hF k (.inr (.inl (by simpa [Value.ownBlock] using hk.symm)))), own_upd h.fr hu (fun k hk => hF k (.inr (.inr hk))), h.len, h.bg, h.bf, h.gf⟩
theorem La.below {w' : World} (h : La w b g vf cap N L free n) (hb : Below w.heap.size w w') : La w' b g vf cap N L free n :=
  h.upd (Upd.of_below (F := fun _ => False) hb (fun i h1 h2 => by omega)) (fun _ _ => id)

theorem at_some {i : Nat} (hi : i < L.length) : L[i]? = some (at' L i) := by
  unfold at'
  rw [List.getD_eq_getElem?_getD, List.getElem?_eq_getElem hi]; rfl

theorem La.cellj (h : La w b g vf cap N L free n) {i j : Nat} (hi : i < N) (hj : j < 4) : w.cell? ⟨g, i * 4 + j, none⟩ = (lkc (at' L i))[j]? := by
  have hl := h.len
  have e := flat_get lk4 (at_some (L := L) (i := i) (by omega)) hj
  have hj' : (lkc (at' L i))[j]? = some ((lkc (at' L i))[j]'(by rw [lk4]; exact hj)) := List.getElem?_eq_getElem _
  have := h.row.cells (g := g) rfl (i * 4 + j) _ (e.trans hj')
  rw [add_pl, Nat.zero_add] at this
  rw [this, hj']

theorem La.cells (h : La w b g vf cap N L free n) {i : Nat} (hi : i < N) :
    w.cell? ⟨g, i * 4, none⟩ = some (.string (at' L i).v) ∧ w.cell? ⟨g, i * 4 + 1, none⟩ = some (.int .i64 ((at' L i).prev : Int)) ∧
    w.cell? ⟨g, i * 4 + 2, none⟩ = some (.int .i64 ((at' L i).next : Int)) ∧ w.cell? ⟨g, i * 4 + 3, none⟩ = some (.bool (at' L i).there) :=
  ⟨h.cellj hi (j := 0) (by omega), h.cellj hi (by omega), h.cellj hi (by omega), h.cellj hi (by omega)⟩
theorem La.free_ (h : La w b g vf cap N L free n) : ∀ o, w.frozen? ⟨g, o, none⟩ = false := by
  obtain ⟨cur, hc, _⟩ := own_block h.row; exact free_of hc

theorem modify_eq_set {L : List Lk} {i : Nat} {f : Lk → Lk} (hi : i < L.length) : L.modify i f = L.set i (f (at' L i)) := by
  apply List.ext_getElem
  · simp
  · intro j h1 h2
    rw [List.getElem_modify, List.getElem_set]
    split
    · rename_i e; subst e; simp [at', List.getD_eq_getElem?_getD, hi]
    · rfl

/-- One cell of a link is written. -/
theorem La.set1 (h : La w b g vf cap N L free n) {i j : Nat} {u : Value} {k' : Lk} (hi : i < N) (hj : j < 4) (he : lkc k' = (lkc (at' L i)).set j u) :
    La (w.setCell ⟨g, i * 4 + j, none⟩ u) b g vf cap N (L.set i k') free n := by
  have hl := h.len
  have := own_setN h.row (i * 4 + j) u
  unfold lks at this
  rw [flat_set1 lk4 hj (at_some (by omega)) he] at this
  exact ⟨block_other h.bg h.obj, this, ownsRow_setCell_other h.fr h.gf _, by simpa using hl, h.bg, h.bf, h.gf⟩
theorem La.prev (h : La w b g vf cap N L free n) {i p : Nat} (hi : i < N) : La (w.setCell ⟨g, i * 4 + 1, none⟩ (.int .i64 (p : Int))) b g vf cap N (setPrev L i p) free n := by
  unfold setPrev
  rw [modify_eq_set (by rw [h.len]; exact hi)]
  exact h.set1 hi (by omega) rfl
theorem La.next (h : La w b g vf cap N L free n) {i p : Nat} (hi : i < N) : La (w.setCell ⟨g, i * 4 + 2, none⟩ (.int .i64 (p : Int))) b g vf cap N (setNext L i p) free n := by
  unfold setNext
  rw [modify_eq_set (by rw [h.len]; exact hi)]
  exact h.set1 hi (by omega) rfl
theorem prev_next_comm (L : List Lk) (i p j q : Nat) : setPrev (setNext L j q) i p = setNext (setPrev L i p) j q := by
  apply List.ext_getElem
  · simp
  · intro x h1 h2
    simp only [setPrev, setNext, List.getElem_modify]
    split <;> split <;> rfl

/-- Whether a handle is there. -/
theorem has_yes (h : La w b g vf cap N L free n) {i : Nat} (h0 : i ≠ 0) (hi : i < N) (ht : (at' L i).there = true) :
    Calls Try.prog 71 #[.pointer (some ⟨b, 0, none⟩), .int .i64 (i : Int)] w fun e w' => e = .returned (.bool true) ∧ w = w' := by
  obtain ⟨c0, c1, c2, fr⟩ := cells3 h.obj
  obtain ⟨-, -, -, k3⟩ := h.cells hi
  rw [ht] at k3
  have z0 : (0 : Int) ≤ (i : Int) := by omega
  have z1 : (i : Int) < (N : Int) := by omega
  have t1 : decide (0 < i) = true := by simp; omega
  have t2 : decide (i < N) = true := by simpa using hi
  clear h ht
  go_enter Try.func71, Try.ntmps71
  go_wp2
  go_ret
  exact ⟨rfl, rfl⟩
theorem has_zero (b : Nat) (w : World) :
    Calls Try.prog 71 #[.pointer (some ⟨b, 0, none⟩), .int .i64 0] w fun e w' => e = .returned (.bool false) ∧ w = w' := by
  go_enter Try.func71, Try.ntmps71
  go_wp2
  go_ret
  exact ⟨rfl, rfl⟩

/-- A handle's value. -/
theorem get_yes (h : La w b g vf cap N L free n) {i : Nat} (h0 : i ≠ 0) (hi : i < N) (ht : (at' L i).there = true) :
    Calls Try.prog 49 #[.pointer (some ⟨b, 0, none⟩), .int .i64 (i : Int)] w fun e w' => e = .returned (.tuple #[.string (at' L i).v, .bool true]) ∧ w = w' := by
  have A := Lib.hid (has_yes h h0 hi ht)
  obtain ⟨c0, c1, c2, fr⟩ := cells3 h.obj
  obtain ⟨k0, -, -, -⟩ := h.cells hi
  have z0 : (0 : Int) ≤ (i : Int) := by omega
  have z1 : (i : Int) < (N : Int) := by omega
  clear h ht
  go_enter Try.func49, Try.ntmps49
  go_wp2_with (go_at_call 71; refine A.out.mono ?_; rintro e w' ⟨rfl, rfl⟩)
  go_ret2
  exact ⟨rfl, rfl⟩
theorem get_zero (b : Nat) (w : World) :
    Calls Try.prog 49 #[.pointer (some ⟨b, 0, none⟩), .int .i64 0] w fun e w' => e = .returned (.tuple #[.string ByteArray.empty, .bool false]) ∧ w = w' := by
  go_enter Try.func49, Try.ntmps49
  go_wp2_with (go_at_call 71; refine (has_zero b _).mono ?_; rintro e w' ⟨rfl, rfl⟩)
  go_ret2
  exact ⟨rfl, rfl⟩

theorem front (h : La w b g vf cap N L free n) (h0 : 0 < N) :
    Calls Try.prog 50 #[.pointer (some ⟨b, 0, none⟩)] w fun e w' => e = .returned (.int .i64 ((at' L 0).next : Int)) ∧ w = w' := by
  obtain ⟨c0, c1, c2, fr⟩ := cells3 h.obj
  obtain ⟨-, -, k2, -⟩ := h.cells h0
  have z1 : (0 : Int) < (N : Int) := by omega
  clear h
  go_enter Try.func50, Try.ntmps50
  go_wp2
  go_ret
  exact ⟨rfl, rfl⟩
theorem next_ (h : La w b g vf cap N L free n) {i : Nat} (h0 : i ≠ 0) (hi : i < N) (ht : (at' L i).there = true) :
    Calls Try.prog 72 #[.pointer (some ⟨b, 0, none⟩), .int .i64 (i : Int)] w fun e w' => e = .returned (.int .i64 ((at' L i).next : Int)) ∧ w = w' := by
  have A := Lib.hid (has_yes h h0 hi ht)
  obtain ⟨c0, c1, c2, fr⟩ := cells3 h.obj
  obtain ⟨-, -, k2, -⟩ := h.cells hi
  have z0 : (0 : Int) ≤ (i : Int) := by omega
  have z1 : (i : Int) < (N : Int) := by omega
  clear h ht
  go_enter Try.func72, Try.ntmps72
  go_wp2_with (go_at_call 71; refine A.out.mono ?_; rintro e w' ⟨rfl, rfl⟩)
  go_ret
  exact ⟨rfl, rfl⟩
theorem len_ (h : La w b g vf cap N L free n) :
    Calls Try.prog 48 #[.pointer (some ⟨b, 0, none⟩)] w fun e w' => e = .returned (.int .i64 (n : Int)) ∧ w = w' := by
  obtain ⟨c0, c1, c2, fr⟩ := cells3 h.obj
  clear h
  go_enter Try.func48, Try.ntmps48
  go_wp2
  go_ret
  exact ⟨rfl, rfl⟩

theorem far_cell {w : World} {b g k o n : Nat} {u v : Value} (hne : b ≠ g) (h : w.cell? ⟨b, o, none⟩ = some v) : ((w.drewN n).setCell ⟨g, k, none⟩ u).cell? ⟨b, o, none⟩ = some v := by
  have hb : ((w.drewN n).setCell ⟨g, k, none⟩ u).heap[b]? = w.heap[b]? := block_other (p := ⟨g, k, none⟩) hne rfl
  unfold World.cell? at h ⊢
  simp only [hb]
  exact h

theorem far_set {w : World} {b g k o : Nat} {u v : Value} (hne : b ≠ g) (h : w.cell? ⟨b, o, none⟩ = some v) : (w.setCell ⟨g, k, none⟩ u).cell? ⟨b, o, none⟩ = some v := by
  have hb : (w.setCell ⟨g, k, none⟩ u).heap[b]? = w.heap[b]? := block_other (p := ⟨g, k, none⟩) hne rfl
  unfold World.cell? at h ⊢
  simp only [hb]
  exact h
theorem far_set' {w : World} {b g k o : Nat} {u v : Value} (hne : b ≠ g) (h : w.cell? ⟨b, o, none⟩ = some v) : (w.setCell ⟨g, k, none⟩ u).drew.cell? ⟨b, o, none⟩ = some v := far_set hne h

theorem lays_ (h : La w b g vf cap N L free n) {i p q : Nat} (hi : i < N) (hp : p < N) (hq : q < N) :
    Calls Try.prog 70 #[.pointer (some ⟨b, 0, none⟩), .int .i64 (i : Int), .int .i64 (p : Int), .int .i64 (q : Int)] w fun e w' =>
      e = .returned (.tuple #[]) ∧ La w' b g vf cap N (lays L i p q) free n ∧ Upd (· = g) w w' := by
  obtain ⟨c0, c1, c2, fr⟩ := cells3 h.obj
  obtain ⟨i0, i1, i2, i3⟩ := h.cells hi
  obtain ⟨p0, p1, p2, p3⟩ := h.cells hp
  obtain ⟨q0, q1, q2, q3⟩ := h.cells hq
  have fg := h.free_
  have bg := h.bg
  have y0 : (0 : Int) ≤ (i : Int) := by omega
  have y1 : (i : Int) < (N : Int) := by omega
  have H := Lib.hid h
  clear h
  go_enter Try.func70, Try.ntmps70
  go_wp2_with fail
  go_region_held3 (fun w' => w'.cell? ⟨b, 0, none⟩ = some (.slice (some ⟨g, 0, none⟩) N cap))
    (first | (go_keep; done) | exact far_set bg (by assumption) | exact far_set' bg (by assumption) | exact far_set bg (far_set' bg c0) | exact far_set' bg (far_set' bg c0))
    (fail)
  have H1 : Hid (La ((w.setCell ⟨g, i * 4 + 1, none⟩ (.int .i64 (p : Int))).setCell ⟨g, i * 4 + 2, none⟩ (.int .i64 (q : Int))).drew b g vf cap N (setNext (setPrev L i p) i q) free n) :=
    Lib.hid (((H.out.prev hi).next hi).drewN 1)
  have U1 : Hid (Upd (· = g) w ((w.setCell ⟨g, i * 4 + 1, none⟩ (.int .i64 (p : Int))).setCell ⟨g, i * 4 + 2, none⟩ (.int .i64 (q : Int))).drew) := Lib.hid ((((Upd.refl _ w).setB).setB).drew)
  clear c0 c1 c2 fr i0 i1 i2 i3 p0 p1 p2 p3 q0 q1 q2 q3 fg
  generalize ((w.setCell ⟨g, i * 4 + 1, none⟩ (.int .i64 (p : Int))).setCell ⟨g, i * 4 + 2, none⟩ (.int .i64 (q : Int))).drew = w1 at *
  obtain ⟨c0, c1, c2, fr⟩ := cells3 H1.out.obj
  obtain ⟨p0, p1, p2, p3⟩ := H1.out.cells hp
  obtain ⟨q0, q1, q2, q3⟩ := H1.out.cells hq
  have fg := H1.out.free_
  have x0 : (0 : Int) ≤ (p : Int) := by omega
  have x1 : (p : Int) < (N : Int) := by omega
  have v0 : (0 : Int) ≤ (q : Int) := by omega
  have v1 : (q : Int) < (N : Int) := by omega
  go_wp2_with fail
  go_region_held3 (fun w' => w'.cell? ⟨b, 0, none⟩ = some (.slice (some ⟨g, 0, none⟩) N cap))
    (first | (go_keep; done) | exact far_set bg (by assumption) | exact far_set' bg (by assumption) | exact far_set bg (far_set' bg c0) | exact far_set' bg (far_set' bg c0))
    (fail)
  go_wp2_with fail
  go_end0
  refine ⟨rfl, ?_, U1.out.trans ((((Upd.refl _ w1).setB).setB).drew)⟩
  exact ((H1.out.next hp).prev hq).drewN 1
end

end Go.Proofs.Ytkeicfajlmhajaa.Li
