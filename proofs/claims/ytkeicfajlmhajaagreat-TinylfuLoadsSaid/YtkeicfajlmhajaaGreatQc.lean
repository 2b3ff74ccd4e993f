/- TinyLFU in memory: an engine. Its methods that only tell. -/
import Derived.Test.YtkeicfajlmhajaaGreatQb
import Derived.Deep.LoopGhost
namespace Go.Proofs.YtkeicfajlmhajaaGreat.Eg
open Go Go.RowKit Go.Proofs.YtkeicfajlmhajaaGreat.K
open Go.Proofs.YtkeicfajlmhajaaGreat.Li (more more_lt)
open Go.Proofs.YtkeicfajlmhajaaGreat.Rw

theorem cells_row {w : World} {b : Nat} {cs : List Value} {T : TypeId} (h : w.heap[b]? = some (.cells cs.toArray T (0, 0))) (j : Nat) : w.cell? ⟨b, j, none⟩ = cs[j]? := by
  rw [cell_of h]; simp

/-- A slice of row numbers, just built. -/
theorem nums_at {w : World} {a : Nat} {rs : List Nat} {T : TypeId} (h : w.heap[a]? = some (.cells (rs.map fun r : Nat => Value.int .i64 (r : Int)).toArray T (0, 0))) (j r : Nat) (hj : rs[j]? = some r) : w.cell? ⟨a, j, none⟩ = some (.int .i64 (r : Int)) := by
  rw [cells_row h, List.getElem?_map, hj]; rfl

section
variable {R : Nat} {w w' : World} {v : Value} {F : Nat → Prop} {K : Rs}

/-- many, of a slice of row numbers that was just built, in a world behind. -/
theorem many_at (h : Rw.Rows R w v F K) (hb : Below w.heap.size w w') (rs : List Nat) (hrs : ∀ r ∈ rs, r < R) {a m : Nat} (hm : m = rs.length) (c : Nat) {T : TypeId} (ha : w'.heap[a]? = some (.cells (rs.map fun r : Nat => Value.int .i64 (r : Int)).toArray T (0, 0))) (hl : rs.length ≤ 1000) (ht : total K rs ≤ 1000000) :
    Calls Tryz.prog 51 #[v, .slice (some ⟨a, 0, none⟩) m c] w' fun e w'' => e = .returned (.int .i64 (total K rs : Int)) ∧ Below w'.heap.size w' w'' := by
  subst hm
  exact rows_many (h.below hb) hrs (nums_at ha) hl ht

theorem keys_at (h : Rw.Rows R w v F K) (hb : Below w.heap.size w w') (rs : List Nat) (hrs : ∀ r ∈ rs, r < R) {a m : Nat} (hm : m = rs.length) (c : Nat) {T : TypeId} (ha : w'.heap[a]? = some (.cells (rs.map fun r : Nat => Value.int .i64 (r : Int)).toArray T (0, 0))) (hl : rs.length ≤ 1000) (ht : (cat K rs).length ≤ 1000000) :
    Calls Tryz.prog 47 #[v, .slice (some ⟨a, 0, none⟩) m c] w' (KeysPost K rs w') := by
  subst hm
  exact rows_keys (h.below hb) hrs (nums_at ha) hl ht
end

/-- A sketch and a door, in H: what they were told is N. -/
structure Nts (w : World) (kb db c : Nat) (H : Nat → Prop) (N : Nt) : Prop where
  ex : ∃ kc dc, Sk.Sq w kb kc (nn c) N.C N.s ∧ Do.Dq w db dc (mm c) N.B ∧ kb ≠ db ∧ kc ≠ db ∧ kb ≠ dc ∧ kc ≠ dc ∧ H kb ∧ H kc ∧ H db ∧ H dc
  lt : ∀ k, H k → k < w.heap.size

theorem Nts.upd {w w' : World} {kb db c : Nat} {H J : Nat → Prop} {N : Nt} (h : Nts w kb db c H N) (hu : Upd J w w') (hH : ∀ k, H k → ¬ J k) : Nts w' kb db c H N := by
  obtain ⟨⟨kc, dc, h1, h2, n1, n2, n3, n4, a, b, d, e⟩, hl⟩ := h
  exact ⟨⟨kc, dc, h1.upd hu (hH _ a) (hH _ b), h2.upd hu (hH _ d) (hH _ e), n1, n2, n3, n4, a, b, d, e⟩, fun k hk => Nat.lt_of_lt_of_le (hl k hk) hu.size⟩
theorem Nts.below {w w' : World} {kb db c : Nat} {H : Nat → Prop} {N : Nt} (h : Nts w kb db c H N) (hb : Below w.heap.size w w') : Nts w' kb db c H N :=
  h.upd (Upd.of_below (F := fun _ => False) hb (fun i h1 h2 => by omega)) (fun _ _ => id)

/-- The engine's own block. -/
def Blk (w : World) (b s cap bx kb db c : Nat) : Prop :=
  w.heap[b]? = some (.cells #[.slice (some ⟨s, 0, none⟩) 3 cap, .pointer (some ⟨bx, 0, none⟩), .int .i64 (c : Int), .int .i64 (win c : Int), .int .i64 (mainr c : Int), .int .i64 (prot c : Int), .pointer (some ⟨kb, 0, none⟩), .pointer (some ⟨db, 0, none⟩)] 58 (0, 0))

/-- An engine at b, all its memory in F. -/
def Eng (w : World) (b : Nat) (F : Nat → Prop) (c : Nat) (K : Ks) : Prop :=
  ∃ s cap bx kb db G H, Blk w b s cap bx kb db c ∧ Rw.Rows 3 w (rv s 3 cap bx) G K.r ∧ Nts w kb db c H (nts c K.h) ∧ Inv c K ∧ ¬ G b ∧ ¬ H b ∧ (∀ k, G k → ¬ H k) ∧ (∀ k, G k → F k) ∧ (∀ k, H k → F k) ∧ F b ∧ ∀ k, F k → k < w.heap.size

section
variable {w : World} {b c : Nat} {F : Nat → Prop} {K : Ks}

theorem Eng.lt (h : Eng w b F c K) : ∀ k, F k → k < w.heap.size := by obtain ⟨s, cap, bx, kb, db, G, H, _, _, _, _, _, _, _, _, _, _, h⟩ := h; exact h
theorem Eng.self (h : Eng w b F c K) : F b := by obtain ⟨s, cap, bx, kb, db, G, H, _, _, _, _, _, _, _, _, _, h, _⟩ := h; exact h
theorem Eng.inv (h : Eng w b F c K) : Inv c K := by obtain ⟨s, cap, bx, kb, db, G, H, _, _, _, h, _⟩ := h; exact h
theorem Eng.upd {w' : World} {J : Nat → Prop} (h : Eng w b F c K) (hu : Upd J w w') (hH : ∀ k, F k → ¬ J k) : Eng w' b F c K := by
  obtain ⟨s, cap, bx, kb, db, G, H, h1, h2, h3, h4, h5, h6, h7, h8, h9, h10, h11⟩ := h
  exact ⟨s, cap, bx, kb, db, G, H, hu.get h1 (hH b h10), h2.upd hu (fun k hk => hH k (h8 k hk)), h3.upd hu (fun k hk => hH k (h9 k hk)), h4, h5, h6, h7, h8, h9, h10, fun k hk => Nat.lt_of_lt_of_le (h11 k hk) hu.size⟩
theorem Eng.below {w' : World} (h : Eng w b F c K) (hb : Below w.heap.size w w') : Eng w' b F c K :=
  h.upd (Upd.of_below (F := fun _ => False) hb (fun i h1 h2 => by omega)) (fun _ _ => id)
theorem Eng.drewN (h : Eng w b F c K) (n : Nat) : Eng (w.drewN n) b F c K := h.below (below_drewN (Below.refl _ _) n)

theorem Inv.len1 (h : Inv c K) : (K.r 0).length ≤ 1024 ∧ (K.r 1).length ≤ 1024 ∧ (K.r 2).length ≤ 1024 ∧ len K ≤ 1024 ∧ (K.r 0).length + ((K.r 1).length + (K.r 2).length) ≤ 1024 := by
  have := h.c2
  have h1 := h.room
  unfold len ln at *
  omega
theorem total_3 (K : Rs) (r q p : Nat) : total K [r, q, p] = (K r).length + ((K q).length + (K p).length) := by simp [total]
theorem cat_3 (K : Rs) (r q p : Nat) : cat K [r, q, p] = K r ++ (K q ++ K p) := by simp [cat]
theorem total_1 (K : Rs) (r : Nat) : total K [r] = (K r).length := by simp [total]
theorem total_2 (K : Rs) (r q : Nat) : total K [r, q] = (K r).length + (K q).length := by simp [total]

theorem Blk.cells {s cap bx kb db : Nat} (h : Blk w b s cap bx kb db c) :
    w.cell? ⟨b, 0, none⟩ = some (.slice (some ⟨s, 0, none⟩) 3 cap) ∧ w.cell? ⟨b, 1, none⟩ = some (.pointer (some ⟨bx, 0, none⟩)) ∧ w.cell? ⟨b, 2, none⟩ = some (.int .i64 (c : Int)) ∧ w.cell? ⟨b, 3, none⟩ = some (.int .i64 (win c : Int)) ∧ w.cell? ⟨b, 4, none⟩ = some (.int .i64 (mainr c : Int)) ∧ w.cell? ⟨b, 5, none⟩ = some (.int .i64 (prot c : Int)) ∧ w.cell? ⟨b, 6, none⟩ = some (.pointer (some ⟨kb, 0, none⟩)) ∧ w.cell? ⟨b, 7, none⟩ = some (.pointer (some ⟨db, 0, none⟩)) :=
  ⟨cell_of h 0, cell_of h 1, cell_of h 2, cell_of h 3, cell_of h 4, cell_of h 5, cell_of h 6, cell_of h 7⟩

theorem eng_len (h : Eng w b F c K) : Calls Tryz.prog 21 #[.pointer (some ⟨b, 0, none⟩)] w fun e w' => e = .returned (.int .i64 (len K : Int)) ∧ Below w.heap.size w w' := by
  obtain ⟨s, cap, bx, kb, db, G, H, h1, h2, h2', h3, h4, h5, h6, h7, h8, h9, h10⟩ := h
  obtain ⟨c0, c1, c2, c3, c4, c5, c6, c7⟩ := h1.cells
  have M := Lib.hid (many_at h2 ((Below.refl _ _).alloc (Nat.le_refl _) (.cells #[.int .i64 0, .int .i64 1, .int .i64 2] 3)) [0, 1, 2] (by simp) (a := w.heap.size) (m := 3) rfl 3 (T := 3) (heap_alloc_new w _) (by simp) (by rw [total_3]; have := h3.len1; omega))
  rw [total_3] at M
  have hl3 : (K.r 0).length + ((K.r 1).length + (K.r 2).length) = len K := by unfold len ln; omega
  rw [hl3] at M
  clear h1 h2 h2' h3 h4 h5 h6 h7 h8 h9 h10
  unfold rv at M
  go_enter Tryz.func21, Tryz.ntmps21
  go_wp2_with fail
  refine M.out.mono ?_
  rintro e w4 ⟨rfl, hb4⟩
  go_wp2_with fail
  go_ret
  exact ⟨rfl, ((Below.refl _ _).alloc (Nat.le_refl _) _).trans (hb4.mono (by simp))⟩

theorem eng_len_nil (w : World) : Calls Tryz.prog 21 #[.pointer none] w fun e w' => e = .returned (.int .i64 0) ∧ w = w' := by
  go_enter Tryz.func21, Tryz.ntmps21
  go_wp2_with fail
  go_ret
  exact ⟨rfl, rfl⟩

theorem eng_room (h : Eng w b F c K) : Calls Tryz.prog 24 #[.pointer (some ⟨b, 0, none⟩)] w fun e w' => e = .returned (.int .i64 (c : Int)) ∧ w = w' := by
  obtain ⟨s, cap, bx, kb, db, G, H, h1, h2, h2', h3, h4, h5, h6, h7, h8, h9, h10⟩ := h
  obtain ⟨c0, c1, c2, c3, c4, c5, c6, c7⟩ := h1.cells
  clear h1 h2 h2' h3 h4 h5 h6 h7 h8 h9 h10
  go_enter Tryz.func24, Tryz.ntmps24
  go_wp2_with fail
  go_ret
  exact ⟨rfl, rfl⟩

theorem eng_room_nil (w : World) : Calls Tryz.prog 24 #[.pointer none] w fun e w' => e = .returned (.int .i64 0) ∧ w = w' := by
  go_enter Tryz.func24, Tryz.ntmps24
  go_wp2_with fail
  go_ret
  exact ⟨rfl, rfl⟩

/-- New texts, all their own. -/
def Texts (l : List ByteArray) (w : World) (e : Ending) (w' : World) : Prop :=
  ∃ v, e = .returned v ∧ w'.ownsRow w.heap.size 9 1 v l.length (l.map .string) ∧ Below w.heap.size w w'

theorem cat_1 (K : Rs) (r : Nat) : cat K [r] = K r := by simp [cat]
theorem cat_2 (K : Rs) (r q : Nat) : cat K [r, q] = K r ++ K q := by simp [cat]

theorem eng_keys (h : Eng w b F c K) : Calls Tryz.prog 19 #[.pointer (some ⟨b, 0, none⟩)] w (Texts (res K) w) := by
  obtain ⟨s, cap, bx, kb, db, G, H, h1, h2, h2', h3, h4, h5, h6, h7, h8, h9, h10⟩ := h
  obtain ⟨c0, c1, c2, c3, c4, c5, c6, c7⟩ := h1.cells
  have M := Lib.hid (keys_at h2 ((Below.refl _ _).alloc (Nat.le_refl _) (.cells #[.int .i64 0, .int .i64 1, .int .i64 2] 3)) [0, 1, 2] (by simp) (a := w.heap.size) (m := 3) rfl 3 (T := 3) (heap_alloc_new w _) (by simp) (by rw [cat_3]; have := h3.len1; simp; omega))
  clear h1 h2 h2' h3 h4 h5 h6 h7 h8 h9 h10
  unfold rv at M
  go_enter Tryz.func19, Tryz.ntmps19
  go_wp2_with fail
  refine M.out.mono ?_
  rintro e w4 ⟨v, rfl, ho, hb4⟩
  rw [cat_3] at ho
  have HO := Lib.hid ho
  clear ho
  go_wp2_with fail
  go_ret
  exact ⟨v, rfl, own_mono HO.out (by simp), ((Below.refl _ _).alloc (Nat.le_refl _) _).trans (hb4.mono (by simp))⟩

theorem eng_ghosts (_h : Eng w b F c K) : Calls Tryz.prog 26 #[.pointer (some ⟨b, 0, none⟩)] w (Texts (gho K) w) := by
  clear _h
  go_enter Tryz.func26, Tryz.ntmps26
  go_wp2_with fail
  go_ret
  exact ⟨_, rfl, World.ownsRow_nil _ _ _ _, Below.refl _ _⟩

theorem eng_keys_nil (w : World) : Calls Tryz.prog 19 #[.pointer none] w fun e w' => e = .returned (.slice none 0 0) ∧ w = w' := by
  go_enter Tryz.func19, Tryz.ntmps19
  go_wp2_with fail
  go_ret
  exact ⟨rfl, rfl⟩
theorem eng_ghosts_nil (w : World) : Calls Tryz.prog 26 #[.pointer none] w fun e w' => e = .returned (.slice none 0 0) ∧ w = w' := by
  go_enter Tryz.func26, Tryz.ntmps26
  go_wp2_with fail
  go_ret
  exact ⟨rfl, rfl⟩

/-- The row of a key. -/
def row (K : Rs) (key : ByteArray) : Int := if key ∈ K 0 then 0 else if key ∈ K 1 then 1 else if key ∈ K 2 then 2 else -1
theorem where_at {w' : World} {v : Value} {K : Rs} (h : Rw.Rows 3 w v F K) (hb : Below w.heap.size w w') {key : ByteArray} (hk : key.size ≤ 140737488351232) :
    Calls Tryz.prog 45 #[v, .string key] w' fun e w'' => e = .returned (.int .i64 (row K key)) ∧ Below w'.heap.size w' w'' := by
  have h' := h.below hb
  unfold row
  split
  · exact rows_where_yes h' (r := 0) (by omega) ‹_›
  · split
    · exact rows_where_yes h' (r := 1) (by omega) ‹_›
    · split
      · exact rows_where_yes h' (r := 2) (by omega) ‹_›
      · refine rows_where_no h' hk ?_
        intro r hr
        match r, hr with
        | 0, _ => assumption
        | 1, _ => assumption
        | 2, _ => assumption
theorem row_has (K : Rs) (key : ByteArray) : (row K key = 0 ∨ row K key = 1 ∨ row K key = 2) ↔ (key ∈ K 0 ∨ key ∈ K 1 ∨ key ∈ K 2) := by
  unfold row
  by_cases h0 : key ∈ K 0
  · simp [h0]
  · by_cases h1 : key ∈ K 1
    · simp [h0, h1]
    · by_cases h2 : key ∈ K 2
      · simp [h0, h1, h2]
      · simp [h0, h1, h2]

theorem eng_has_yes (h : Eng w b F c K) {key : ByteArray} (hk : key.size ≤ 140737488351232) (hh : has K key = true) :
    Calls Tryz.prog 16 #[.pointer (some ⟨b, 0, none⟩), .string key] w fun e w' => e = .returned (.bool true) ∧ Below w.heap.size w w' := by
  obtain ⟨s, cap, bx, kb, db, G, H, h1, h2, h2', h3, h4, h5, h6, h7, h8, h9, h10⟩ := h
  obtain ⟨c0, c1, c2, c3, c4, c5, c6, c7⟩ := h1.cells
  have W := Lib.hid (where_at h2 (Below.refl _ _) hk)
  have hr : row K.r key = 0 ∨ row K.r key = 1 ∨ row K.r key = 2 := (row_has K.r key).2 (by simpa [has] using hh)
  clear h1 h2 h2' h3 h4 h5 h6 h7 h8 h9 h10 hh
  unfold rv at W
  generalize row K.r key = r at *
  rcases hr with rfl | rfl | rfl
  all_goals
    go_enter Tryz.func16, Tryz.ntmps16
    go_wp2_with fail
    refine W.out.mono ?_
    rintro e w4 ⟨rfl, hb4⟩
    go_wp2_with fail
    go_ret
    exact ⟨rfl, hb4⟩
theorem eng_has_no (h : Eng w b F c K) {key : ByteArray} (hk : key.size ≤ 140737488351232) (hh : has K key = false) :
    Calls Tryz.prog 16 #[.pointer (some ⟨b, 0, none⟩), .string key] w fun e w' => e = .returned (.bool false) ∧ Below w.heap.size w w' := by
  obtain ⟨s, cap, bx, kb, db, G, H, h1, h2, h2', h3, h4, h5, h6, h7, h8, h9, h10⟩ := h
  obtain ⟨c0, c1, c2, c3, c4, c5, c6, c7⟩ := h1.cells
  have W := Lib.hid (where_at h2 (Below.refl _ _) hk)
  have hr : ¬ (row K.r key = 0 ∨ row K.r key = 1 ∨ row K.r key = 2) := fun e => by have := (row_has K.r key).1 e; simp [has] at hh; rcases this with h | h | h; exact hh.1 h; exact hh.2.1 h; exact hh.2.2 h
  clear h1 h2 h2' h3 h4 h5 h6 h7 h8 h9 h10 hh
  unfold rv at W
  generalize row K.r key = r at *
  have r0 : (r == 0) = false := by simp; omega
  have r1 : (r == 1) = false := by simp; omega
  have r2 : (r == 2) = false := by simp; omega
  clear hr
  go_enter Tryz.func16, Tryz.ntmps16
  go_wp2_with fail
  refine W.out.mono ?_
  rintro e w4 ⟨rfl, hb4⟩
  go_wp2_with fail
  go_ret
  exact ⟨rfl, hb4⟩
theorem eng_has (h : Eng w b F c K) {key : ByteArray} (hk : key.size ≤ 140737488351232) :
    Calls Tryz.prog 16 #[.pointer (some ⟨b, 0, none⟩), .string key] w fun e w' => e = .returned (.bool (has K key)) ∧ Below w.heap.size w w' := by
  cases hh : has K key with
  | true => exact eng_has_yes h hk hh
  | false => exact eng_has_no h hk hh
theorem eng_has_nil (key : ByteArray) (w : World) : Calls Tryz.prog 16 #[.pointer none, .string key] w fun e w' => e = .returned (.bool false) ∧ w = w' := by
  go_enter Tryz.func16, Tryz.ntmps16
  go_wp2_with fail
  go_ret
  exact ⟨rfl, rfl⟩
end

end Go.Proofs.YtkeicfajlmhajaaGreat.Eg
