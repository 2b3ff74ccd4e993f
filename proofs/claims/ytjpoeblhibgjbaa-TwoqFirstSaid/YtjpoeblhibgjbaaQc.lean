/- 2Q in memory: an engine. Its methods that only tell. -/
import Derived.Test.YtjpoeblhibgjbaaQa
namespace Go.Proofs.Ytjpoeblhibgjbaa.Eg
open Go Go.RowKit Go.Proofs.Ytjpoeblhibgjbaa.K
open Go.Proofs.Ytjpoeblhibgjbaa.Li (more more_lt)
open Go.Proofs.Ytjpoeblhibgjbaa.Rw

theorem cells_row {w : World} {b : Nat} {cs : List Value} {T : TypeId} (h : w.heap[b]? = some (.cells cs.toArray T (0, 0))) (j : Nat) : w.cell? ⟨b, j, none⟩ = cs[j]? := by
  rw [cell_of h]; simp

/-- A slice of row numbers, just built. -/
theorem nums_at {w : World} {a : Nat} {rs : List Nat} {T : TypeId} (h : w.heap[a]? = some (.cells (rs.map fun r : Nat => Value.int .i64 (r : Int)).toArray T (0, 0))) (j r : Nat) (hj : rs[j]? = some r) : w.cell? ⟨a, j, none⟩ = some (.int .i64 (r : Int)) := by
  rw [cells_row h, List.getElem?_map, hj]; rfl

section
variable {R : Nat} {w w' : World} {v : Value} {F : Nat → Prop} {K : Ks}

/-- many, of a slice of row numbers that was just built, in a world behind. -/
theorem many_at (h : Rw.Rows R w v F K) (hb : Below w.heap.size w w') (rs : List Nat) (hrs : ∀ r ∈ rs, r < R) {a m : Nat} (hm : m = rs.length) (c : Nat) {T : TypeId} (ha : w'.heap[a]? = some (.cells (rs.map fun r : Nat => Value.int .i64 (r : Int)).toArray T (0, 0))) (hl : rs.length ≤ 1000) (ht : total K rs ≤ 1000000) :
    Calls Try.prog 45 #[v, .slice (some ⟨a, 0, none⟩) m c] w' fun e w'' => e = .returned (.int .i64 (total K rs : Int)) ∧ Below w'.heap.size w' w'' := by
  subst hm
  exact rows_many (h.below hb) hrs (nums_at ha) hl ht

theorem keys_at (h : Rw.Rows R w v F K) (hb : Below w.heap.size w w') (rs : List Nat) (hrs : ∀ r ∈ rs, r < R) {a m : Nat} (hm : m = rs.length) (c : Nat) {T : TypeId} (ha : w'.heap[a]? = some (.cells (rs.map fun r : Nat => Value.int .i64 (r : Int)).toArray T (0, 0))) (hl : rs.length ≤ 1000) (ht : (cat K rs).length ≤ 1000000) :
    Calls Try.prog 46 #[v, .slice (some ⟨a, 0, none⟩) m c] w' (KeysPost K rs w') := by
  subst hm
  exact rows_keys (h.below hb) hrs (nums_at ha) hl ht
end

/-- An engine at b, all its memory in F. -/
def Eng (w : World) (b : Nat) (F : Nat → Prop) (c : Nat) (K : Ks) : Prop :=
  ∃ s cap bx G, w.heap[b]? = some (.cells #[.slice (some ⟨s, 0, none⟩) 3 cap, .pointer (some ⟨bx, 0, none⟩), .int .i64 (c : Int), .int .i64 (kin c : Int), .int .i64 (kout c : Int)] 56 (0, 0)) ∧
    Rw.Rows 3 w (rv s 3 cap bx) G K ∧ Inv c K ∧ ¬ G b ∧ (∀ k, G k → F k) ∧ F b ∧ ∀ k, F k → k < w.heap.size

section
variable {w : World} {b c : Nat} {F : Nat → Prop} {K : Ks}

theorem Eng.lt (h : Eng w b F c K) : ∀ k, F k → k < w.heap.size := by obtain ⟨s, cap, bx, G, _, _, _, _, _, _, h⟩ := h; exact h
theorem Eng.self (h : Eng w b F c K) : F b := by obtain ⟨s, cap, bx, G, _, _, _, _, _, h, _⟩ := h; exact h
theorem Eng.inv (h : Eng w b F c K) : Inv c K := by obtain ⟨s, cap, bx, G, _, _, h, _⟩ := h; exact h
theorem Eng.upd {w' : World} {H : Nat → Prop} (h : Eng w b F c K) (hu : Upd H w w') (hH : ∀ k, F k → ¬ H k) : Eng w' b F c K := by
  obtain ⟨s, cap, bx, G, h1, h2, h3, h4, h5, h6, h7⟩ := h
  exact ⟨s, cap, bx, G, hu.get h1 (hH b h6), h2.upd hu (fun k hk => hH k (h5 k hk)), h3, h4, h5, h6, fun k hk => Nat.lt_of_lt_of_le (h7 k hk) hu.size⟩
theorem Eng.below {w' : World} (h : Eng w b F c K) (hb : Below w.heap.size w w') : Eng w' b F c K :=
  h.upd (Upd.of_below (F := fun _ => False) hb (fun i h1 h2 => by omega)) (fun _ _ => id)
theorem Eng.drewN (h : Eng w b F c K) (n : Nat) : Eng (w.drewN n) b F c K := h.below (below_drewN (Below.refl _ _) n)

theorem total_1 (K : Ks) (r : Nat) : total K [r] = (K r).length := by simp [total]
theorem total_2 (K : Ks) (r q : Nat) : total K [r, q] = (K r).length + (K q).length := by simp [total]
theorem Inv.len1 (h : Inv c K) : (K 0).length ≤ 1024 ∧ (K 1).length ≤ 1024 ∧ (K 2).length ≤ 1024 ∧ len K ≤ 1024 := by
  have := h.c2
  have h1 := h.room
  have := h.gh
  have : kout c ≤ 1024 := by unfold kout; omega
  unfold len at *
  omega

theorem cells5 {w : World} {b : Nat} {x0 x1 x2 x3 x4 : Value} {T : TypeId} (h : w.heap[b]? = some (.cells #[x0, x1, x2, x3, x4] T (0, 0))) :
    w.cell? ⟨b, 0, none⟩ = some x0 ∧ w.cell? ⟨b, 1, none⟩ = some x1 ∧ w.cell? ⟨b, 2, none⟩ = some x2 ∧ w.cell? ⟨b, 3, none⟩ = some x3 ∧ w.cell? ⟨b, 4, none⟩ = some x4 :=
  ⟨cell_of h 0, cell_of h 1, cell_of h 2, cell_of h 3, cell_of h 4⟩

theorem eng_len (h : Eng w b F c K) : Calls Try.prog 20 #[.pointer (some ⟨b, 0, none⟩)] w fun e w' => e = .returned (.int .i64 (len K : Int)) ∧ Below w.heap.size w w' := by
  obtain ⟨s, cap, bx, G, h1, h2, h3, h4, h5, h6, h7⟩ := h
  obtain ⟨c0, c1, c2, c3, c4⟩ := cells5 h1
  have M := Lib.hid (many_at h2 ((Below.refl _ _).alloc (Nat.le_refl _) (.cells #[.int .i64 0, .int .i64 2] 3)) [0, 2] (by simp) (a := w.heap.size) (m := 2) rfl 2 (T := 3) (heap_alloc_new w _) (by simp) (by rw [total_2]; have := h3.len1; omega))
  rw [total_2] at M
  clear h1 h2 h3 h4 h5 h6 h7
  unfold rv at M
  go_enter Try.func20, Try.ntmps20
  go_wp2_with fail
  refine M.out.mono ?_
  rintro e w4 ⟨rfl, hb4⟩
  go_wp2_with fail
  go_ret
  exact ⟨rfl, ((Below.refl _ _).alloc (Nat.le_refl _) _).trans (hb4.mono (by simp))⟩

theorem eng_len_nil (w : World) : Calls Try.prog 20 #[.pointer none] w fun e w' => e = .returned (.int .i64 0) ∧ w = w' := by
  go_enter Try.func20, Try.ntmps20
  go_wp2_with fail
  go_ret
  exact ⟨rfl, rfl⟩

theorem eng_room (h : Eng w b F c K) : Calls Try.prog 30 #[.pointer (some ⟨b, 0, none⟩)] w fun e w' => e = .returned (.int .i64 (c : Int)) ∧ w = w' := by
  obtain ⟨s, cap, bx, G, h1, h2, h3, h4, h5, h6, h7⟩ := h
  obtain ⟨c0, c1, c2, c3, c4⟩ := cells5 h1
  clear h1 h2 h3 h4 h5 h6 h7
  go_enter Try.func30, Try.ntmps30
  go_wp2_with fail
  go_ret
  exact ⟨rfl, rfl⟩

theorem eng_room_nil (w : World) : Calls Try.prog 30 #[.pointer none] w fun e w' => e = .returned (.int .i64 0) ∧ w = w' := by
  go_enter Try.func30, Try.ntmps30
  go_wp2_with fail
  go_ret
  exact ⟨rfl, rfl⟩

/-- New texts, all their own. -/
def Texts (l : List ByteArray) (w : World) (e : Ending) (w' : World) : Prop :=
  ∃ v, e = .returned v ∧ w'.ownsRow w.heap.size 9 1 v l.length (l.map .string) ∧ Below w.heap.size w w'

theorem cat_1 (K : Ks) (r : Nat) : cat K [r] = K r := by simp [cat]
theorem cat_2 (K : Ks) (r q : Nat) : cat K [r, q] = K r ++ K q := by simp [cat]

theorem eng_keys (h : Eng w b F c K) : Calls Try.prog 22 #[.pointer (some ⟨b, 0, none⟩)] w (Texts (res K) w) := by
  obtain ⟨s, cap, bx, G, h1, h2, h3, h4, h5, h6, h7⟩ := h
  obtain ⟨c0, c1, c2, c3, c4⟩ := cells5 h1
  have M := Lib.hid (keys_at h2 ((Below.refl _ _).alloc (Nat.le_refl _) (.cells #[.int .i64 0, .int .i64 2] 3)) [0, 2] (by simp) (a := w.heap.size) (m := 2) rfl 2 (T := 3) (heap_alloc_new w _) (by simp) (by rw [cat_2]; have := h3.len1; simp; omega))
  clear h1 h2 h3 h4 h5 h6 h7
  unfold rv at M
  go_enter Try.func22, Try.ntmps22
  go_wp2_with fail
  refine M.out.mono ?_
  rintro e w4 ⟨v, rfl, ho, hb4⟩
  rw [cat_2] at ho
  have HO := Lib.hid ho
  clear ho
  go_wp2_with fail
  go_ret
  exact ⟨v, rfl, own_mono HO.out (by simp), ((Below.refl _ _).alloc (Nat.le_refl _) _).trans (hb4.mono (by simp))⟩

theorem eng_ghosts (h : Eng w b F c K) : Calls Try.prog 32 #[.pointer (some ⟨b, 0, none⟩)] w (Texts (gho K) w) := by
  obtain ⟨s, cap, bx, G, h1, h2, h3, h4, h5, h6, h7⟩ := h
  obtain ⟨c0, c1, c2, c3, c4⟩ := cells5 h1
  have M := Lib.hid (keys_at h2 ((Below.refl _ _).alloc (Nat.le_refl _) (.cells #[.int .i64 1] 3)) [1] (by simp) (a := w.heap.size) (m := 1) rfl 1 (T := 3) (heap_alloc_new w _) (by simp) (by rw [cat_1]; have := h3.len1; omega))
  clear h1 h2 h3 h4 h5 h6 h7
  unfold rv at M
  go_enter Try.func32, Try.ntmps32
  go_wp2_with fail
  refine M.out.mono ?_
  rintro e w4 ⟨v, rfl, ho, hb4⟩
  rw [cat_1] at ho
  have HO := Lib.hid ho
  clear ho
  go_wp2_with fail
  go_ret
  exact ⟨v, rfl, own_mono HO.out (by simp), ((Below.refl _ _).alloc (Nat.le_refl _) _).trans (hb4.mono (by simp))⟩

theorem eng_keys_nil (w : World) : Calls Try.prog 22 #[.pointer none] w fun e w' => e = .returned (.slice none 0 0) ∧ w = w' := by
  go_enter Try.func22, Try.ntmps22
  go_wp2_with fail
  go_ret
  exact ⟨rfl, rfl⟩
theorem eng_ghosts_nil (w : World) : Calls Try.prog 32 #[.pointer none] w fun e w' => e = .returned (.slice none 0 0) ∧ w = w' := by
  go_enter Try.func32, Try.ntmps32
  go_wp2_with fail
  go_ret
  exact ⟨rfl, rfl⟩

/-- The row of a key. -/
def row (K : Ks) (key : ByteArray) : Int := if key ∈ K 0 then 0 else if key ∈ K 1 then 1 else if key ∈ K 2 then 2 else -1
theorem where_at {w' : World} {v : Value} (h : Rw.Rows 3 w v F K) (hb : Below w.heap.size w w') {key : ByteArray} (hk : key.size ≤ 140737488351232) :
    Calls Try.prog 41 #[v, .string key] w' fun e w'' => e = .returned (.int .i64 (row K key)) ∧ Below w'.heap.size w' w'' := by
  have h' := h.below hb
  unfold row
  split
  · exact rows_where_yes h' (r := 0) (by omega) ‹_›
  · split
    · exact rows_where_yes h' (r := 1) (by omega) ‹_›
    · split
      · exact rows_where_yes h' (r := 2) (by omega) ‹_›
      · refine rows_where_no h' hk ?_
        intro r hr
        match r, hr with
        | 0, _ => assumption
        | 1, _ => assumption
        | 2, _ => assumption
theorem row_has (h : Inv c K) (key : ByteArray) : (row K key = 0 ∨ row K key = 2) ↔ (key ∈ K 0 ∨ key ∈ K 2) := by
  unfold row
  split
  · simp_all
  · split
    · rename_i h0 h1
      constructor
      · intro h; omega
      · rintro (a | a)
        · exact absurd a h0
        · have := h.once 1 2 (by omega) (by omega) key h1 a; omega
    · split
      · simp_all
      · simp_all

theorem eng_has_yes (h : Eng w b F c K) {key : ByteArray} (hk : key.size ≤ 140737488351232) (hh : has K key = true) :
    Calls Try.prog 24 #[.pointer (some ⟨b, 0, none⟩), .string key] w fun e w' => e = .returned (.bool true) ∧ Below w.heap.size w w' := by
  obtain ⟨s, cap, bx, G, h1, h2, h3, h4, h5, h6, h7⟩ := h
  obtain ⟨c0, c1, c2, c3, c4⟩ := cells5 h1
  have W := Lib.hid (where_at h2 (Below.refl _ _) hk)
  have hr : row K key = 0 ∨ row K key = 2 := (row_has h3 key).2 (by simpa [has] using hh)
  clear h1 h2 h3 h4 h5 h6 h7 hh
  unfold rv at W
  generalize row K key = r at *
  rcases hr with rfl | rfl
  all_goals
    go_enter Try.func24, Try.ntmps24
    go_wp2_with fail
    refine W.out.mono ?_
    rintro e w4 ⟨rfl, hb4⟩
    go_wp2_with fail
    go_ret
    exact ⟨rfl, hb4⟩
theorem eng_has_no (h : Eng w b F c K) {key : ByteArray} (hk : key.size ≤ 140737488351232) (hh : has K key = false) :
    Calls Try.prog 24 #[.pointer (some ⟨b, 0, none⟩), .string key] w fun e w' => e = .returned (.bool false) ∧ Below w.heap.size w w' := by
  obtain ⟨s, cap, bx, G, h1, h2, h3, h4, h5, h6, h7⟩ := h
  obtain ⟨c0, c1, c2, c3, c4⟩ := cells5 h1
  have W := Lib.hid (where_at h2 (Below.refl _ _) hk)
  have hr : ¬ (row K key = 0 ∨ row K key = 2) := fun e => by have := (row_has h3 key).1 e; simp [has] at hh; rcases this with h | h; exact hh.1 h; exact hh.2 h
  clear h1 h2 h3 h4 h5 h6 h7 hh
  unfold rv at W
  generalize row K key = r at *
  have r0 : (r == 0) = false := by simp; omega
  have r2 : (r == 2) = false := by simp; omega
  clear hr
  go_enter Try.func24, Try.ntmps24
  go_wp2_with fail
  refine W.out.mono ?_
  rintro e w4 ⟨rfl, hb4⟩
  go_wp2_with fail
  go_ret
  exact ⟨rfl, hb4⟩
theorem eng_has (h : Eng w b F c K) {key : ByteArray} (hk : key.size ≤ 140737488351232) :
    Calls Try.prog 24 #[.pointer (some ⟨b, 0, none⟩), .string key] w fun e w' => e = .returned (.bool (has K key)) ∧ Below w.heap.size w w' := by
  cases hh : has K key with
  | true => exact eng_has_yes h hk hh
  | false => exact eng_has_no h hk hh
theorem eng_has_nil (key : ByteArray) (w : World) : Calls Try.prog 24 #[.pointer none, .string key] w fun e w' => e = .returned (.bool false) ∧ w = w' := by
  go_enter Try.func24, Try.ntmps24
  go_wp2_with fail
  go_ret
  exact ⟨rfl, rfl⟩
end

end Go.Proofs.Ytjpoeblhibgjbaa.Eg
