/- An index as a relation of keys and places, all its memory in F. -/
import Derived.Test.YtkeicfajlmhajaaIs
import Derived.Test.YtkeicfajlmhajaaLk
namespace Go.Proofs.Ytkeicfajlmhajaa.In
open Go Go.RowKit Go.Proofs.Ytkeicfajlmhajaa.K Go.Proofs.Ytkeicfajlmhajaa.Ix Go.Proofs.Ytkeicfajlmhajaa.Hb
open Go.Proofs.Ytkeicfajlmhajaa.Li (more more_lt)

/-- The index at b, all its memory in F: n keys; M says which key has which place. -/
def Idx (w : World) (b : Nat) (F : Nat → Prop) (M : ByteArray → V → Prop) (n : Nat) : Prop :=
  ∃ g N T used, Xa w b g N T n used ∧ Good N T n used ∧ (∀ k v, Has T k v ↔ M k v) ∧ F b ∧ F g ∧ ∀ k, F k → k < w.heap.size

section
variable {w : World} {b n : Nat} {F : Nat → Prop} {M : ByteArray → V → Prop}

theorem Idx.lt (h : Idx w b F M n) : ∀ k, F k → k < w.heap.size := by obtain ⟨g, N, T, used, _, _, _, _, _, h⟩ := h; exact h
theorem Idx.self (h : Idx w b F M n) : F b := by obtain ⟨g, N, T, used, _, _, _, h, _, _⟩ := h; exact h
theorem Idx.drewN (h : Idx w b F M n) (k : Nat) : Idx (w.drewN k) b F M n := by
  obtain ⟨g, N, T, used, h1, h2⟩ := h
  exact ⟨g, N, T, used, h1.drewN k, h2⟩
theorem Idx.upd {w' : World} {G : Nat → Prop} (h : Idx w b F M n) (hu : Upd G w w') (hG : ∀ k, F k → ¬ G k) : Idx w' b F M n := by
  obtain ⟨g, N, T, used, h1, h2, h3, h4, h5, h6⟩ := h
  exact ⟨g, N, T, used, h1.upd hu (hG b h4) (hG g h5), h2, h3, h4, h5, fun k hk => Nat.lt_of_lt_of_le (h6 k hk) hu.size⟩
theorem Idx.below {w' : World} (h : Idx w b F M n) (hb : Below w.heap.size w w') : Idx w' b F M n :=
  h.upd (Upd.of_below (F := fun _ => False) hb (fun i h1 h2 => by omega)) (fun _ _ => id)
theorem Idx.mono {G : Nat → Prop} (h : Idx w b F M n) (hG : ∀ k, F k → G k) (hlt : ∀ k, G k → k < w.heap.size) : Idx w b G M n := by
  obtain ⟨g, N, T, used, h1, h2, h3, h4, h5, h6⟩ := h
  exact ⟨g, N, T, used, h1, h2, h3, hG _ h4, hG _ h5, hlt⟩
theorem Idx.same {M' : ByteArray → V → Prop} (h : Idx w b F M n) (hM : ∀ k v, M k v ↔ M' k v) : Idx w b F M' n := by
  obtain ⟨g, N, T, used, h1, h2, h3, h4⟩ := h
  exact ⟨g, N, T, used, h1, h2, fun k v => (h3 k v).trans (hM k v), h4⟩
theorem Idx.one (h : Idx w b F M n) {k : ByteArray} {v v' : V} (h1 : M k v) (h2 : M k v') : v = v' := by
  obtain ⟨g, N, T, used, _, gd, hm, _⟩ := h
  obtain ⟨i, hi⟩ := (hm k v).2 h1
  obtain ⟨j, hj⟩ := (hm k v').2 h2
  have e := gd.tab.uniq _ _ _ _ _ hi hj
  subst e
  rw [hi] at hj
  cases hj
  rfl
theorem Idx.pos (h : Idx w b F M n) {k : ByteArray} {v : V} (h1 : M k v) : 1 ≤ n := by
  obtain ⟨g, N, T, used, _, gd, hm, _⟩ := h
  obtain ⟨i, hi⟩ := (hm k v).2 h1
  rw [← gd.n_]
  exact List.countP_pos_iff.2 ⟨_, List.mem_of_getElem? hi, rfl⟩

theorem idx_new (w : World) : Calls Try.prog 38 #[.int .u64 0] w fun e w' => e = .returned (.pointer (some ⟨w.heap.size + 1, 0, none⟩)) ∧
    Idx w' (w.heap.size + 1) (fun k => w.heap.size ≤ k ∧ k < w'.heap.size) (fun _ _ => False) 0 ∧ Below w.heap.size w w' := by
  refine (new_x w).mono ?_
  rintro e w' ⟨he, hx, hb⟩
  have l1 := lt_of_block hx.obj
  refine ⟨he, ⟨_, _, _, _, hx, ⟨tab_new st 8 (by omega), by simp, (count_new 8).1, (count_new 8).2, by omega, by omega, by omega, ?_⟩, fun k v => ⟨fun h => has_new 8 k v h, False.elim⟩, ⟨by omega, l1⟩, ⟨by omega, by omega⟩, fun k hk => hk.2⟩, hb⟩
  intro i k v h
  exact absurd ⟨i, h⟩ (has_new 8 k v)

theorem idx_get_yes (h : Idx w b F M n) {key : ByteArray} {r h' : Nat} (hm : M key (r, h')) :
    Calls Try.prog 45 #[.pointer (some ⟨b, 0, none⟩), .string key] w fun e w' => e = .returned (.tuple #[.agg #[.int .i64 (r : Int), .int .i64 (h' : Int)], .bool true]) ∧ Below w.heap.size w w' := by
  obtain ⟨g, N, T, used, h1, gd, h3, _⟩ := h
  obtain ⟨i, hi⟩ := (h3 _ _).2 hm
  exact get_yes h1 gd hi
theorem idx_get_no (h : Idx w b F M n) {key : ByteArray} (hk : key.size ≤ 140737488351232) (hm : ∀ v, ¬ M key v) :
    Calls Try.prog 45 #[.pointer (some ⟨b, 0, none⟩), .string key] w fun e w' => e = .returned (.tuple #[.agg #[.int .i64 0, .int .i64 0], .bool false]) ∧ Below w.heap.size w w' := by
  obtain ⟨g, N, T, used, h1, gd, h3, _⟩ := h
  exact get_no h1 gd hk (fun v hv => hm v ((h3 _ _).1 hv))
theorem idx_del_no (h : Idx w b F M n) {key : ByteArray} (hk : key.size ≤ 140737488351232) (hm : ∀ v, ¬ M key v) :
    Calls Try.prog 53 #[.pointer (some ⟨b, 0, none⟩), .string key] w fun e w' => e = .returned (.tuple #[.agg #[.int .i64 0, .int .i64 0], .bool false]) ∧ Below w.heap.size w w' := by
  obtain ⟨g, N, T, used, h1, gd, h3, _⟩ := h
  exact del_no h1 gd hk (fun v hv => hm v ((h3 _ _).1 hv))

def IDelPost (b : Nat) (F : Nat → Prop) (M : ByteArray → V → Prop) (m : Nat) (key : ByteArray) (r h : Nat) (w : World) (e : Ending) (w' : World) : Prop :=
  e = .returned (.tuple #[.agg #[.int .i64 (r : Int), .int .i64 (h : Int)], .bool true]) ∧ Idx w' b F (fun k v => k ≠ key ∧ M k v) m ∧ Upd F w w'

theorem idx_del_yes {m : Nat} (h : Idx w b F M (m + 1)) {key : ByteArray} {r h' : Nat} (hm : M key (r, h')) :
    Calls Try.prog 53 #[.pointer (some ⟨b, 0, none⟩), .string key] w (IDelPost b F M m key r h' w) := by
  obtain ⟨g, N, T, used, h1, gd, h3, h4, h5, h6⟩ := h
  obtain ⟨i, hi⟩ := (h3 _ _).2 hm
  refine (del_yes h1 gd hi).mono ?_
  rintro e w' ⟨he, hx, hu⟩
  have hil := lt_of_getElem? hi
  have c1 := countP_set (p := Pl.isFull) (y := (.gone : Pl V)) hi
  have c2 := countP_set (p := Pl.taken) (y := (.gone : Pl V)) hi
  rw [gd.n_] at c1
  rw [gd.used_] at c2
  have hU : Upd F w w' := hu.mono (fun k _ hk => by rcases hk with rfl | rfl <;> assumption)
  refine ⟨he, ⟨g, N, _, used, hx, ⟨gd.tab.del hi, by simpa using gd.len, ?_, ?_, gd.half, gd.big, gd.top, ?_⟩, ?_, h4, h5, fun k hk => Nat.lt_of_lt_of_le (h6 k hk) hU.size⟩, hU⟩
  · simp [Pl.isFull] at c1; omega
  · simp [Pl.taken] at c2; omega
  · intro a k v ha
    rw [get_set hil] at ha
    split at ha
    · cases ha
    · exact gd.small a k v ha
  · intro k v
    rw [gd.tab.has_del hi, h3]

def IPutPost (b : Nat) (F : Nat → Prop) (M : ByteArray → V → Prop) (n : Nat) (key : ByteArray) (v : V) (w : World) (e : Ending) (w' : World) : Prop :=
  e = .returned (.bool true) ∧ Idx w' b (more F w w') (fun k u => (k = key ∧ u = v) ∨ M k u) (n + 1) ∧ Upd F w w'

theorem idx_put (h : Idx w b F M n) {key : ByteArray} (hk : key.size ≤ 140737488351232) (hm : ∀ v, ¬ M key v) (hn : n ≤ 240000) {r h' : Nat} :
    Calls Try.prog 46 #[.pointer (some ⟨b, 0, none⟩), .string key, .agg #[.int .i64 (r : Int), .int .i64 (h' : Int)]] w (IPutPost b F M n key (r, h') w) := by
  obtain ⟨g, N, T, used, h1, gd, h3, h4, h5, h6⟩ := h
  refine (put_new h1 gd hk (fun v hv => hm v ((h3 _ _).1 hv)) hn).mono ?_
  rintro e w' ⟨he, g', N', T', used', hx, gd', hh, hg, hu⟩
  have hU : Upd F w w' := hu.mono (fun k _ hk => by rcases hk with rfl | rfl <;> assumption)
  refine ⟨he, ⟨g', N', T', used', hx, gd', fun k u => ?_, .inl h4, ?_, more_lt h6 hU.size⟩, hU⟩
  · rw [hh, h3]
  · rcases hg with rfl | hg
    · exact .inl h5
    · exact .inr ⟨hg, lt_of_block hx.row⟩
end

end Go.Proofs.Ytkeicfajlmhajaa.In
