/- S3-FIFO in memory: an engine in the midst of an act; comes, goes. -/
import Derived.Test.YtodiceafnkojiaaQc
import Derived.Deep.RegionHeld3
import Derived.Deep.LoopGhost
namespace Go.Proofs.Ytodiceafnkojiaa.Eg
open Go Go.RowKit Go.Proofs.Ytodiceafnkojiaa.K
open Go.Proofs.Ytodiceafnkojiaa.Li (more more_lt)
open Go.Proofs.Ytodiceafnkojiaa.Rw

theorem below_on {w w1 w2 : World} (h : Below w.heap.size w w1) (k : Below w1.heap.size w1.drew w2) : Below w.heap.size w w2 := (below_drewN h 1).trans (k.mono h.size)
theorem below_next {w w1 w2 : World} (h : Below w.heap.size w w1) (k : Below w1.heap.size w1 w2) : Below w.heap.size w w2 := h.trans (k.mono h.size)
theorem more_eq {F : Nat → Prop} {w w' : World} (hu : Upd F w w') : Step F w (more F w w') w' := ⟨hu, fun k hk => by
  rcases hk with h | h
  · exact .inl h
  · exact .inr h.1⟩
theorem step_upd {F : Nat → Prop} {w w' : World} (hu : Upd F w w') : Step F w F w' := ⟨hu, fun _ h => .inl h⟩

/-- The rows' value, as it stands in the frame. -/
abbrev rva (s cap bx : Nat) : Value := .agg #[.slice (some ⟨s, 0, none⟩) 3 cap, .pointer (some ⟨bx, 0, none⟩)]

section
variable {w : World} {G : Nat → Prop} {R : Rs}
theorem oldest_at {s cap bx : Nat} (hr : Rw.Rows 3 w (rva s cap bx) G R) (r : Nat) (h3 : r < 3) {z : Int} (hz : z = (r : Int)) {k : ByteArray} {t : List ByteArray} (hK : R r = k :: t) :
    Calls Try.prog 76 #[rva s cap bx, .int .i64 z] w fun e w' => e = .returned (.string k) ∧ Below w.heap.size w w' := by
  subst hz
  exact rows_oldest hr h3 hK

/-- What drop and push leave. -/
def RPost (v : Value) (G : Nat → Prop) (R' : Rs) (w : World) (e : Ending) (w' : World) : Prop :=
  e = .returned (.tuple #[]) ∧ ∃ H, Rw.Rows 3 w' v H R' ∧ Step G w H w'

theorem drop_at {s cap bx : Nat} (hr : Rw.Rows 3 w (rva s cap bx) G R) {key : ByteArray} (hk : key.size ≤ 40) :
    Calls Try.prog 77 #[rva s cap bx, .string key] w (RPost (rva s cap bx) G (less R key) w) :=
  (rows_drop hr (by omega)).mono fun _ _ ⟨he, h1, h2⟩ => ⟨he, _, h1, more_eq h2⟩

theorem push_at' {s cap bx : Nat} (hr : Rw.Rows 3 w (rva s cap bx) G R) {key : ByteArray} (hk : key.size ≤ 40) (r : Nat) (h3 : r < 3) {z : Int} (hz : z = (r : Int)) (hl : ∀ q, q < 3 → (R q).length ≤ 80000) :
    Calls Try.prog 67 #[rva s cap bx, .int .i64 z, .string key] w (RPost (rva s cap bx) G (push R r key) w) := by
  subst hz
  refine (rows_push hr (by omega) h3 (by have := hl r h3; omega) ?_).mono fun _ _ ⟨he, h1, h2⟩ => ⟨he, _, h1, more_eq h2⟩
  have h0 := hl 0 (by omega)
  have h1 := hl 1 (by omega)
  have h2 := hl 2 (by omega)
  show (R 0).length + ((R 1).length + ((R 2).length + 0)) ≤ 240000
  omega
end

/-- An engine in the midst of an act: from w0 on; its rows are R and its n counts M in a world behind. -/
structure Mid (w0 : World) (b s cap bx y c : Nat) (F G H : Nat → Prop) (R : Rs) (M : ByteArray → Nat → Prop) (n : Nat) (w : World) : Prop where
  blk : Blk w b s cap bx y c
  rows : Rw.Rows 3 w (rva s cap bx) G R
  cnt : Yn.Idx w y H M n
  ngb : ¬ G b
  nhb : ¬ H b
  sep : ∀ k, G k → ¬ H k
  fb : F b
  flt : ∀ k, F k → k < w0.heap.size
  upd : Upd F w0 w
  gg : ∀ k, G k → F k ∨ w0.heap.size ≤ k
  hg : ∀ k, H k → F k ∨ w0.heap.size ≤ k

/-- The same, whose rows and counts are those of K. -/
abbrev MidK (w0 : World) (b s cap bx y c : Nat) (F G H : Nat → Prop) (K : Ks) (w : World) : Prop := Mid w0 b s cap bx y c F G H K.r (cm K) (len K) w

section
variable {w0 w w' : World} {b s cap bx y c : Nat} {F G H G' H' : Nat → Prop} {R R' : Rs} {M M' : ByteArray → Nat → Prop} {n n' : Nat} {K : Ks}

theorem Eng.mid (h : Eng w b F c K) : ∃ s cap bx y G H, MidK w b s cap bx y c F G H K w := by
  obtain ⟨s, cap, bx, y, G, H, h1, h2, h3, h4, h5, h6, h7, h8, h9, h10, h11⟩ := h
  exact ⟨s, cap, bx, y, G, H, h1, h2, h3, h5, h6, h7, h10, h11, Upd.refl _ _, fun k hk => .inl (h8 k hk), fun k hk => .inl (h9 k hk)⟩

theorem Mid.below (h : Mid w0 b s cap bx y c F G H R M n w) (hb : Below w.heap.size w w') : Mid w0 b s cap bx y c F G H R M n w' :=
  ⟨(hb.block b (lt_of_block h.blk)).trans h.blk, h.rows.below hb, h.cnt.below hb, h.ngb, h.nhb, h.sep, h.fb, h.flt,
   h.upd.trans ((Upd.of_below (F := fun _ => False) hb (fun i h1 h2 => by omega)).mono (fun _ _ h => h.elim)), h.gg, h.hg⟩
theorem Mid.drew (h : Mid w0 b s cap bx y c F G H R M n w) : Mid w0 b s cap bx y c F G H R M n w.drew := h.below (below_drewN (Below.refl _ _) 1)
theorem Mid.drewN (h : Mid w0 b s cap bx y c F G H R M n w) (q : Nat) : Mid w0 b s cap bx y c F G H R M n (w.drewN q) := h.below (below_drewN (Below.refl _ _) q)
theorem Mid.same (h : Mid w0 b s cap bx y c F G H R M n w) (hR : ∀ r, r < 3 → R r = R' r) (hM : ∀ k v, M k v ↔ M' k v) (hn : n = n') : Mid w0 b s cap bx y c F G H R' M' n' w := by
  subst hn
  exact ⟨h.blk, h.rows.same hR, h.cnt.same hM, h.ngb, h.nhb, h.sep, h.fb, h.flt, h.upd, h.gg, h.hg⟩
theorem Mid.rown (h : Mid w0 b s cap bx y c F G H R M n w) (hr : Rw.Rows 3 w' (rva s cap bx) G' R') (hs : Step G w G' w') : Mid w0 b s cap bx y c F G' H R' M n w' := by
  have hbl := lt_of_block h.blk
  refine ⟨hs.upd.get h.blk h.ngb, hr, h.cnt.upd hs.upd (fun k hk hg => h.sep k hg hk), fun hh => ?_, h.nhb, fun k hk hh => ?_, h.fb, h.flt, h.upd.then hs.upd (fun i hi hg => (h.gg i hg).resolve_right (by omega)), fun k hk => ?_, h.hg⟩
  · rcases hs.grow b hh with h1 | h1
    · exact h.ngb h1
    · omega
  · rcases hs.grow k hk with h1 | h1
    · exact h.sep k h1 hh
    · have := h.cnt.lt k hh; omega
  · rcases hs.grow k hk with h1 | h1
    · exact h.gg k h1
    · exact .inr (Nat.le_trans h.upd.size h1)
theorem Mid.cntn (h : Mid w0 b s cap bx y c F G H R M n w) (hi : Yn.Idx w' y H' M' n') (hs : Step H w H' w') : Mid w0 b s cap bx y c F G H' R M' n' w' := by
  have hbl := lt_of_block h.blk
  refine ⟨hs.upd.get h.blk h.nhb, h.rows.upd hs.upd (fun k hk hg => h.sep k hk hg), hi, h.ngb, fun hh => ?_, fun k hk hh => ?_, h.fb, h.flt, h.upd.then hs.upd (fun i hi hg => (h.hg i hg).resolve_right (by omega)), h.gg, fun k hk => ?_⟩
  · rcases hs.grow b hh with h1 | h1
    · exact h.nhb h1
    · omega
  · rcases hs.grow k hh with h1 | h1
    · exact h.sep k hk h1
    · have := h.rows.lt k hk; omega
  · rcases hs.grow k hk with h1 | h1
    · exact h.hg k h1
    · exact .inr (Nat.le_trans h.upd.size h1)
theorem Mid.done (h : MidK w0 b s cap bx y c F G H K w) (hi : Inv c K) : Eng w b (more F w0 w) c K ∧ Upd F w0 w := by
  refine ⟨⟨s, cap, bx, y, G, H, h.blk, h.rows, h.cnt, hi, h.ngb, h.nhb, h.sep, ?_, ?_, .inl h.fb, more_lt h.flt h.upd.size⟩, h.upd⟩
  · intro k hk
    rcases h.gg k hk with h1 | h1
    · exact .inl h1
    · exact .inr ⟨h1, h.rows.lt k hk⟩
  · intro k hk
    rcases h.hg k hk with h1 | h1
    · exact .inl h1
    · exact .inr ⟨h1, h.cnt.lt k hk⟩
theorem Mid.cells (h : Mid w0 b s cap bx y c F G H R M n w) : w.cell? ⟨b, 0, none⟩ = some (.slice (some ⟨s, 0, none⟩) 3 cap) ∧ w.cell? ⟨b, 1, none⟩ = some (.pointer (some ⟨bx, 0, none⟩)) ∧ w.cell? ⟨b, 2, none⟩ = some (.int .i64 (c : Int)) ∧ w.cell? ⟨b, 3, none⟩ = some (.int .i64 (kin c : Int)) ∧ w.cell? ⟨b, 4, none⟩ = some (.int .i64 (kout c : Int)) ∧ w.cell? ⟨b, 5, none⟩ = some (.pointer (some ⟨y, 0, none⟩)) := Blk.cells h.blk

/-- many, of one row, in a world with one new block. -/
theorem many_one (h : Mid w0 b s cap bx y c F G H R M n w) (r : Nat) (h3 : r < 3) {z : Int} (hz : z = (r : Int)) (hl : (R r).length ≤ 80000) :
    Calls Try.prog 47 #[rva s cap bx, .slice (some ⟨w.heap.size, 0, none⟩) 1 1] (w.alloc (.cells #[.int .i64 z] 3)) fun e w' => e = .returned (.int .i64 ((R r).length : Int)) ∧ Below w.heap.size w w' := by
  subst hz
  have := many_at h.rows (w' := w.alloc (.cells #[.int .i64 (r : Int)] 3)) ((Below.refl _ _).alloc (Nat.le_refl _) _) [r] (by simp; exact h3) (a := w.heap.size) (m := 1) rfl 1 (T := 3) (heap_alloc_new w _) (by simp) (by rw [total_1]; omega)
  rw [total_1] at this
  exact this.mono fun e w' ⟨he, hb'⟩ => ⟨he, ((Below.refl _ _).alloc (Nat.le_refl _) _).trans (hb'.mono (by simp))⟩

/-- What a step of an act leaves. -/
def MPost (w0 : World) (b s cap bx y c : Nat) (F : Nat → Prop) (K' : Ks) (v : Value) (e : Ending) (w' : World) : Prop :=
  e = .returned v ∧ ∃ G' H', MidK w0 b s cap bx y c F G' H' K' w'

theorem cm_comes {q : Nat} (hq : q = 0 ∨ q = 1) (key : ByteArray) (m : Nat) (k : ByteArray) (v : Nat) : ((k = key ∧ v = m) ∨ (k ≠ key ∧ cm K k v)) ↔ cm (comes K q key m) k v := by
  unfold cm
  rw [mem_res, mem_res]
  show _ ↔ (k ∈ push K.r q key 0 ∨ k ∈ push K.r q key 1) ∧ v = setn K.n key m k
  rw [mem_push, mem_push]
  by_cases e : k = key
  · subst e
    rw [setn_same]
    rcases hq with rfl | rfl <;> simp
  · rw [setn_ne e]
    simp [e]
theorem len_comes_old (hi : Inv c K) {q : Nat} (hq : q = 0 ∨ q = 1) {key : ByteArray} (hm : key ∈ res K) (m : Nat) : len (comes K q key m) = len K := by
  have h1 := len_goes hi hm
  have e : len (comes K q key m) = len (goes K key) + 1 := by
    show (push K.r q key 0).length + (push K.r q key 1).length = (less K.r key 0).length + (less K.r key 1).length + 1
    rcases hq with rfl | rfl
    · rw [push_at, push_ne _ _ (by omega)]; simp; omega
    · rw [push_at, push_ne _ _ (by omega)]; simp; omega
  omega
theorem len_comes_new {q : Nat} (hq : q = 0 ∨ q = 1) {key : ByteArray} (hm : key ∉ res K) (m : Nat) : len (comes K q key m) = len K + 1 := by
  rw [mem_res] at hm
  have e0 : less K.r key 0 = K.r 0 := less_same (fun hh => hm (.inl hh))
  have e1 : less K.r key 1 = K.r 1 := less_same (fun hh => hm (.inr hh))
  show (push K.r q key 0).length + (push K.r q key 1).length = (K.r 0).length + (K.r 1).length + 1
  rcases hq with rfl | rfl
  · rw [push_at, push_ne _ _ (by omega), e0, e1]; simp; omega
  · rw [push_at, push_ne _ _ (by omega), e0, e1]; simp; omega
theorem put_at (hi : Inv c K) {q : Nat} (hq : q = 0 ∨ q = 1) {key : ByteArray} (hk : key.size ≤ 40) (m : Nat) (h : Yn.Idx w y H (cm K) (len K)) :
    Calls Try.prog 43 #[.pointer (some ⟨y, 0, none⟩), .string key, .int .i64 (m : Int)] w (Yn.IPutPost y H (cm K) (len (comes K q key m)) key m w) := by
  by_cases hm : key ∈ res K
  · rw [len_comes_old hi hq hm m]
    exact Yn.idx_put_old h (u := K.n key) ⟨hm, rfl⟩ m
  · rw [len_comes_new hq hm m]
    exact Yn.idx_put_new h (by omega) (fun v hv => hm hv.1) (by have := hi.len1; omega) m

theorem comes_at (h : MidK w0 b s cap bx y c F G H K w) (hi : Inv c K) {key : ByteArray} (hk : key.size ≤ 40) (q : Nat) (hq : q = 0 ∨ q = 1) {z : Int} (hz : z = (q : Int)) (m : Nat) {zm : Int} (hzm : zm = (m : Int)) :
    Calls Try.prog 46 #[.pointer (some ⟨b, 0, none⟩), .int .i64 z, .string key, .int .i64 zm] w (MPost w0 b s cap bx y c F (comes K q key m) (.tuple #[])) := by
  subst hzm
  have P := Lib.hid (push_at' h.rows hk q (by omega) hz (lens hi))
  have PT := Lib.hid (fun w1 (h : Yn.Idx w1 y H (cm K) (len K)) => put_at hi hq hk m h)
  have HM := Lib.hid h
  obtain ⟨c0, c1, c2, c3, c4, c5⟩ := h.cells
  have HC := Lib.hid (cm_comes (K := K) hq key m)
  clear h hi hz
  go_enter Try.func46, Try.ntmps46
  go_wp2_with fail
  refine P.out.mono ?_
  rintro e w1 ⟨rfl, G1, hr1, hs1⟩
  have HM1 := Lib.hid (HM.out.rown hr1 hs1)
  obtain ⟨d0, d1, d2, d3, d4, d5⟩ := HM1.out.cells
  clear hr1 hs1
  go_wp2_with fail
  refine (PT.out _ HM1.out.cnt).mono ?_
  rintro e w2 ⟨⟨r, rfl⟩, hx2, hu2⟩
  have HM2 := Lib.hid (HM1.out.cntn hx2 (more_eq hu2))
  clear hx2 hu2
  go_wp2_with fail
  go_end0
  exact ⟨rfl, _, _, HM2.out.same (fun _ _ => rfl) HC.out rfl⟩

theorem cm_goes (key : ByteArray) (k : ByteArray) (v : Nat) : (k ≠ key ∧ cm K k v) ↔ cm (goes K key) k v := by
  unfold cm
  rw [mem_goes]
  show _ ↔ (k ∈ res K ∧ k ≠ key) ∧ v = setn K.n key 0 k
  by_cases e : k = key
  · simp [e]
  · rw [setn_ne e]; simp [e]

theorem goes_at (h : MidK w0 b s cap bx y c F G H K w) (hi : Inv c K) {key : ByteArray} (hm : key ∈ res K) :
    Calls Try.prog 56 #[.pointer (some ⟨b, 0, none⟩), .string key] w (MPost w0 b s cap bx y c F (goes K key) (.tuple #[])) := by
  have hk : key.size ≤ 40 := by
    rcases mem_res.1 hm with h1 | h1
    · exact hi.small 0 (by omega) key h1
    · exact hi.small 1 (by omega) key h1
  have P := Lib.hid (drop_at h.rows hk)
  have DL := Lib.hid (fun w1 (h : Yn.Idx w1 y H (cm K) (len K)) => by
    rw [← len_goes hi hm] at h
    exact Yn.idx_del_yes h (v := K.n key) ⟨hm, rfl⟩)
  have HM := Lib.hid h
  obtain ⟨c0, c1, c2, c3, c4, c5⟩ := h.cells
  clear h hi hm
  go_enter Try.func56, Try.ntmps56
  go_wp2_with fail
  refine P.out.mono ?_
  rintro e w1 ⟨rfl, G1, hr1, hs1⟩
  have HM1 := Lib.hid (HM.out.rown hr1 hs1)
  obtain ⟨d0, d1, d2, d3, d4, d5⟩ := HM1.out.cells
  clear hr1 hs1
  go_wp2_with fail
  refine (DL.out _ HM1.out.cnt).mono ?_
  rintro e w2 ⟨rfl, hx2, hu2⟩
  have HM2 := Lib.hid (HM1.out.cntn hx2 (step_upd hu2))
  clear hx2 hu2
  go_wp2_with fail
  go_end0
  exact ⟨rfl, _, _, HM2.out.same (fun _ _ => rfl) (cm_goes key) rfl⟩

/-- The count of a resident key. -/
theorem get_at (h : MidK w0 b s cap bx y c F G H K w) {key : ByteArray} (hm : key ∈ res K) :
    Calls Try.prog 42 #[.pointer (some ⟨y, 0, none⟩), .string key] w fun e w' => e = .returned (.tuple #[.int .i64 (K.n key : Int), .bool true]) ∧ ∃ q, w' = w.drewN q :=
  Yn.idx_get_yes h.cnt ⟨hm, rfl⟩
end

end Go.Proofs.Ytodiceafnkojiaa.Eg
