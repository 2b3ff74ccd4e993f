/- The walks of package index (keys to places), over a table. -/
import Derived.Test.YtkeicfajlmhajaaGreatIx
import Derived.Test.YtkeicfajlmhajaaGreatFl
import Derived.Test.YtkeicfajlmhajaaGreatHb
import Derived.BigRegion
import Derived.OwnWalk
import Derived.Deep.RegionHeld3
import Derived.Deep.LoopGhost
import Derived.Test.YtkeicfajlmhajaaGreatLi
namespace Go.Proofs.YtkeicfajlmhajaaGreat.In
open Go Go.RowKit Go.Proofs.YtkeicfajlmhajaaGreat.K Go.Proofs.YtkeicfajlmhajaaGreat.Ix Go.Proofs.YtkeicfajlmhajaaGreat.Hb

abbrev V := Nat × Nat
abbrev Tb := List (Pl V)

def plc : Pl V → List Value
  | .empty => [.int .i64 0, .string ByteArray.empty, .int .i64 0, .int .i64 0]
  | .gone => [.int .i64 1, .string ByteArray.empty, .int .i64 0, .int .i64 0]
  | .full k v => [.int .i64 2, .string k, .int .i64 (v.1 : Int), .int .i64 (v.2 : Int)]
theorem pl4 (p : Pl V) : (plc p).length = 4 := by cases p <;> rfl
def pls (T : Tb) : List Value := T.flatMap plc

/-- Where a key starts. -/
def st (key : ByteArray) (n : Nat) : Nat := pl 0 key n

/-- The index at b: its table at g. -/
structure Xa (w : World) (b g N : Nat) (T : Tb) (n used : Nat) : Prop where
  obj : w.heap[b]? = some (.cells #[.int .u64 0, .slice (some ⟨g, 0, none⟩) N N, .int .i64 (n : Int), .int .i64 (used : Int)] 112 (0, 0))
  row : w.heap[g]? = some (.cells (pls T).toArray 118 (0, 0))
  len : T.length = N
  bg : b ≠ g

theorem cells4 {w : World} {b : Nat} {x y z u : Value} {T : TypeId} (h : w.heap[b]? = some (.cells #[x, y, z, u] T (0, 0))) :
    w.cell? ⟨b, 0, none⟩ = some x ∧ w.cell? ⟨b, 1, none⟩ = some y ∧ w.cell? ⟨b, 2, none⟩ = some z ∧ w.cell? ⟨b, 3, none⟩ = some u ∧ (∀ o, w.frozen? ⟨b, o, none⟩ = false) :=
  ⟨cell_of h 0, cell_of h 1, cell_of h 2, cell_of h 3, free_of h⟩

section
variable {w : World} {b g N n used : Nat} {T : Tb}
theorem Xa.drewN (h : Xa w b g N T n used) (k : Nat) : Xa (w.drewN k) b g N T n used := ⟨h.obj, h.row, h.len, h.bg⟩
theorem Xa.upd {w' : World} {F : Nat → Prop} (h : Xa w b g N T n used) (hu : Upd F w w') (h1 : ¬ F b) (h2 : ¬ F g) : Xa w' b g N T n used := ⟨hu.get h.obj h1, hu.get h.row h2, h.len, h.bg⟩
theorem Xa.below {w' : World} (h : Xa w b g N T n used) (hb : Below w.heap.size w w') : Xa w' b g N T n used :=
  h.upd (Upd.of_below (F := fun _ => False) hb (fun i h1 h2 => by omega)) id id

theorem Xa.cellj (h : Xa w b g N T n used) {i j : Nat} {p : Pl V} (hp : T[i]? = some p) (hj : j < 4) : w.cell? ⟨g, i * 4 + j, none⟩ = (plc p)[j]? := by
  rw [cell_of h.row, List.getElem?_toArray]
  exact flat_get pl4 hp hj
theorem Xa.put (h : Xa w b g N T n used) {i : Nat} {p : Pl V} (hi : i < N) {x0 x1 x2 x3 : Value} (hp : plc p = [x0, x1, x2, x3]) :
    Xa ((((w.setCell ⟨g, i * 4, none⟩ x0).setCell ⟨g, i * 4 + 1, none⟩ x1).setCell ⟨g, i * 4 + 2, none⟩ x2).setCell ⟨g, i * 4 + 3, none⟩ x3) b g N (T.set i p) n used := by
  have hl := h.len
  have hq : T[i]? = some T[i] := List.getElem?_eq_getElem (by omega)
  refine ⟨block_other h.bg (block_other h.bg (block_other h.bg (block_other h.bg h.obj))), ?_, by simpa using hl, h.bg⟩
  rw [block_setCell (block_setCell (block_setCell (block_setCell h.row)))]
  congr 2
  apply Array.ext'
  simp only [Array.toList_setIfInBounds]
  have e := flat_set (vs := [x0, x1, x2, x3]) (j := 0) pl4 (by simp) hq (by rw [hp]; simp [List.drop_of_length_le (Nat.le_of_eq (pl4 _))])
  have hf := flat_length pl4 T
  have h1 : (i + 1) * 4 ≤ T.length * 4 := Nat.mul_le_mul_right _ (by omega)
  have e4 : ∀ (l : List Value) (o : Nat) (a b c d : Value), o + 4 ≤ l.length → (((l.set o a).set (o + 1) b).set (o + 2) c).set (o + 3) d = l.take o ++ [a, b, c, d] ++ l.drop (o + 4) := by
    intro l o a b c d ho
    have g0 := List.take_append_drop o l
    have hd : (l.drop o).length = l.length - o := by simp
    match hx : l.drop o, hd with
    | [], hd => simp at hd; omega
    | [_], hd => simp at hd; omega
    | [_, _], hd => simp at hd; omega
    | [_, _, _], hd => simp at hd; omega
    | y0 :: y1 :: y2 :: y3 :: r, hd =>
      have hlt : (l.take o).length = o := by simp; omega
      have hr : l.drop (o + 4) = r := by
        rw [← List.drop_drop, hx]; rfl
      rw [hr]
      conv => lhs; rw [← g0, hx]
      have s : ∀ (k : Nat) (v : Value) (t : List Value), (l.take o ++ t).set (o + k) v = l.take o ++ t.set k v := by
        intro k v t
        rw [List.set_append_right _ _ (by omega), hlt, Nat.add_sub_cancel_left]
      have s0 := s 0 a
      rw [Nat.add_zero] at s0
      rw [s0, s 1, s 2, s 3]
      simp
  rw [e4 _ _ _ _ _ _ (by unfold pls; rw [hf]; omega)]
  exact e
theorem Xa.counts (h : Xa w b g N T n used) (n' : Nat) : Xa (w.setCell ⟨b, 2, none⟩ (.int .i64 (n' : Int))) b g N T n' used :=
  ⟨block_setCell h.obj, block_other h.bg.symm h.row, h.len, h.bg⟩
theorem Xa.useds (h : Xa w b g N T n used) (u' : Nat) : Xa (w.setCell ⟨b, 3, none⟩ (.int .i64 (u' : Int))) b g N T n u' :=
  ⟨block_setCell h.obj, block_other h.bg.symm h.row, h.len, h.bg⟩
end

/-- What a table is, besides. -/
structure Good (N : Nat) (T : Tb) (n used : Nat) : Prop where
  tab : Tab st T
  len : T.length = N
  n_ : T.countP Pl.isFull = n
  used_ : T.countP Pl.taken = used
  half : 2 * used ≤ N
  big : 8 ≤ N
  top : N ≤ 1000000
  small : ∀ (i : Nat) k v, T[i]? = some (.full k v) → k.size ≤ 140737488351232

section
variable {w : World} {b g N n used : Nat} {T : Tb}

def fr0 : Option Nat → Int
  | none => -1
  | some f => f

/-- What find leaves. -/
def FindPost (T : Tb) (key : ByteArray) (w : World) (e : Ending) (w' : World) : Prop :=
  (∃ q, w' = w.drewN q) ∧
  ((∃ (i : Nat) (v : V), e = .returned (.tuple #[.int .i64 (i : Int), .bool true]) ∧ T[i]? = some (.full key v)) ∨
   (∃ i : Nat, e = .returned (.tuple #[.int .i64 (i : Int), .bool false]) ∧ Spot st T key i))

theorem mod_next (s j N : Nat) : ((s + j) % N + 1) % N = (s + (j + 1)) % N := by
  rw [← Nat.add_assoc, Nat.add_mod (s + j) 1 N, Nat.add_mod ((s + j) % N) 1 N, Nat.mod_mod]

set_option maxHeartbeats 1600000 in
theorem find_any (h : Xa w b g N T n used) (tab : Tab st T) (hem : ∃ e : Nat, T[e]? = some .empty) (h1 : 1 ≤ N) (h2 : N ≤ 1000000) (key : ByteArray) (hk : key.size ≤ 140737488351232) :
    Calls Tryz.prog 89 #[.pointer (some ⟨b, 0, none⟩), .string key] w (FindPost T key w) := by
  obtain ⟨c0, c1, c2, c3, fr⟩ := cells4 h.obj
  have HH := fun w => hash_any 0 key hk w
  have PL := fun w => place_any (HF 0 key) N (HF_range 0 key) h1 (by omega) w
  have hst : (HF 0 key).toNat % N = st key N := rfl
  rw [hst] at PL
  have hs : st key N < N := Nat.mod_lt _ (by omega)
  generalize HF 0 key = hf at *
  have H := Lib.hid h
  have TB := Lib.hid tab
  have EM := Lib.hid hem
  have HL := Lib.hid h.len
  have H1 := Lib.hid HH
  have H2 := Lib.hid PL
  have P0 : Hid (Probe T (st key N) key 0 none) := Lib.hid (Probe.start _ _ _)
  have S0 : Hid ((st key N + 0) % N = st key N) := Lib.hid (by rw [Nat.add_zero, Nat.mod_eq_of_lt hs])
  clear h tab hem HH PL hst
  go_enter Tryz.func89, Tryz.ntmps89
  go_wp2_with fail
  go_region_held3 (fun w' => w'.cell? ⟨b, 0, none⟩ = some (.int .u64 0) ∧ w'.cell? ⟨b, 1, none⟩ = some (.slice (some ⟨g, 0, none⟩) N N))
    (first | (go_keep; done) | assumption)
    (first | (go_at_call 113; refine (H1.out _).mono ?_; rintro e w1 ⟨rfl, rfl⟩) | (go_at_call 112; refine (H2.out _).mono ?_; rintro e w1 ⟨rfl, rfl⟩))
  go_wp2_with fail
  go_loopg [6, 7] N (fun k v6 v7 wr => w.drew = wr ∧ ∃ (j : Nat) (free : Option Nat), j ≤ N ∧ k = N - j ∧ v7 = .int .i64 (((st key N + j) % N : Nat) : Int) ∧ v6 = .int .i64 (fr0 free) ∧ Probe T (st key N) key j free)
  case atStart => exact ⟨rfl, 0, none, by omega, by omega, by rw [S0.out], rfl, P0.out⟩
  case round =>
    clear P0 S0
    obtain ⟨rfl, j, free, hj, hgk, rfl, rfl, hpr⟩ := hrel
    have hjl : j < N := by
      obtain ⟨e, he⟩ := EM.out
      have := hpr.lt he
      rw [HL.out] at this
      exact this
    have hil : (st key N + j) % N < N := Nat.mod_lt _ (by omega)
    have HMN := Lib.hid (mod_next (st key N) j N)
    obtain ⟨p, hp⟩ : ∃ p, T[(st key N + j) % N]? = some p := ⟨_, List.getElem?_eq_getElem (by rw [HL.out]; exact hil)⟩
    have k0 := H.out.cellj hp (j := 0) (by omega)
    have k1 := H.out.cellj hp (j := 1) (by omega)
    rw [Nat.add_zero] at k0
    have HPR := Lib.hid hpr
    have HLE : Hid (st key T.length = st key N ∧ T.length = N) := Lib.hid (by rw [HL.out]; exact ⟨rfl, rfl⟩)
    obtain ⟨i, hi⟩ : ∃ i, i = (st key N + j) % N := ⟨_, rfl⟩
    rw [← hi] at k0 k1 hp hil HMN ⊢
    have HI := Lib.hid hi
    have HPP := Lib.hid hp
    have HGK := Lib.hid hgk
    have z0 : (0 : Int) ≤ (i : Int) := by omega
    have z1 : (i : Int) < (N : Int) := by omega
    have e1 : wrap64 (((i : Int) + 1).tmod (N : Int)) = (((i + 1) % N : Nat) : Int) := by
      have hm := Nat.mod_lt (i + 1) (show N > 0 by omega)
      have e : ((i : Int) + 1).tmod (N : Int) = (((i + 1) % N : Nat) : Int) := by
        rw [Int.tmod_eq_emod_of_nonneg (by omega)]; simp
      rw [e]
      generalize (i + 1) % N = r at *
      unfold wrap64; omega
    have E1 := Lib.hid e1
    have EN : Hid ((((i : Int) + 1) % (N : Int)) = (((st key N + (j + 1)) % N : Nat) : Int)) := Lib.hid (by
      rw [← HMN.out]; simp)
    clear hpr hi hp hgk e1
    cases p with
    | empty =>
      have k0' : w.cell? ⟨g, i * 4, none⟩ = some (.int .i64 0) := k0
      clear k0 k1
      have HE : Hid (T[(st key T.length + j) % T.length]? = some .empty) := Lib.hid (by rw [HLE.out.1, HLE.out.2, ← HI.out]; exact HPP.out)
      have HQ : Hid (Probe T (st key T.length) key j free) := Lib.hid (by rw [HLE.out.1]; exact HPR.out)
      cases free with
      | none =>
        rw [show fr0 none = -1 from rfl]
        go_wp2_with fail
        go_ret2
        refine ⟨⟨1, rfl⟩, .inr ⟨i, rfl, ?_⟩⟩
        have := HQ.out.spot_here TB.out HE.out
        rw [HLE.out.1, HLE.out.2, ← HI.out] at this
        exact this
      | some f =>
        rw [show fr0 (some f) = (f : Int) from rfl]
        have t1 : decide ((f : Int) < 0) = false := by simp
        go_wp2_with fail
        go_ret2
        exact ⟨⟨1, rfl⟩, .inr ⟨f, rfl, HQ.out.spot_free TB.out HE.out⟩⟩
    | gone =>
      have k0' : w.cell? ⟨g, i * 4, none⟩ = some (.int .i64 1) := k0
      clear k0 k1
      have HG : Hid (T[(st key N + j) % T.length]? = some .gone) := Lib.hid (by rw [HLE.out.2, ← HI.out]; exact HPP.out)
      cases free with
      | none =>
        rw [show fr0 none = -1 from rfl]
        have HN := Lib.hid (HPR.out.gone_first HG.out)
        go_wp2_with fail
        go_roundg (N - (j + 1))
        case measure => have := HGK.out; omega
        case rel =>
          have h1 := HN.out
          rw [HLE.out.2, ← HI.out] at h1
          exact ⟨rfl, j + 1, some i, by omega, rfl, by rw [EN.out], rfl, h1⟩
      | some f =>
        rw [show fr0 (some f) = (f : Int) from rfl]
        have t1 : decide ((f : Int) < 0) = false := by simp
        have HN := Lib.hid (HPR.out.gone_more HG.out)
        go_wp2_with fail
        go_roundg (N - (j + 1))
        case measure => have := HGK.out; omega
        case rel => exact ⟨rfl, j + 1, some f, by omega, rfl, by rw [EN.out], rfl, HN.out⟩
    | full k v =>
      have k0' : w.cell? ⟨g, i * 4, none⟩ = some (.int .i64 2) := k0
      have k1' : w.cell? ⟨g, i * 4 + 1, none⟩ = some (.string k) := k1
      clear k0 k1
      by_cases hke : k = key
      · subst hke
        go_wp2_with fail
        go_ret2
        exact ⟨⟨1, rfl⟩, .inl ⟨i, v, rfl, HPP.out⟩⟩
      · have t0 : (k.toList == key.toList) = false := by
          rw [beq_eq_false_iff_ne]
          intro e
          rw [ByteArray.toList_eq, ByteArray.toList_eq] at e
          exact hke (ByteArray.ext (Array.toList_inj.1 e))
        have HN := Lib.hid (HPR.out.full (by rw [HLE.out.2, ← HI.out]; exact HPP.out) hke)
        have HKE := Lib.hid hke
        clear hke
        go_wp2_with fail
        go_roundg (N - (j + 1))
        case measure => have := HGK.out; omega
        case rel => exact ⟨rfl, j + 1, free, by omega, rfl, by rw [EN.out], rfl, HN.out⟩
end

end Go.Proofs.YtkeicfajlmhajaaGreat.In

/- The walks of package index: New, lays. -/
namespace Go.Proofs.YtkeicfajlmhajaaGreat.In
open Go Go.RowKit Go.Proofs.YtkeicfajlmhajaaGreat.K Go.Proofs.YtkeicfajlmhajaaGreat.Ix Go.Proofs.YtkeicfajlmhajaaGreat.Hb

section
variable {w : World} {b g N n used : Nat} {T : Tb}

theorem Good.emp (h : Good N T n used) : ∃ e : Nat, T[e]? = some .empty := empty_of_count (by rw [h.used_, h.len]; have := h.half; have := h.big; omega)
theorem Good.nle (h : Good N T n used) : n ≤ used := by rw [← h.n_, ← h.used_]; exact full_le_taken T

theorem find_yes (h : Xa w b g N T n used) (gd : Tab st T) (hem : ∃ e : Nat, T[e]? = some .empty) (h1 : 1 ≤ N) (h2 : N ≤ 1000000) {key : ByteArray} (hk : key.size ≤ 140737488351232) {i : Nat} {v : V} (hi : T[i]? = some (.full key v)) :
    Calls Tryz.prog 89 #[.pointer (some ⟨b, 0, none⟩), .string key] w fun e w' => e = .returned (.tuple #[.int .i64 (i : Int), .bool true]) ∧ ∃ q, w' = w.drewN q := by
  refine (find_any h gd hem h1 h2 key hk).mono ?_
  rintro e w' ⟨hq, (⟨j, u, rfl, hj⟩ | ⟨j, rfl, hs⟩)⟩
  · rw [gd.uniq _ _ _ _ _ hi hj]; exact ⟨rfl, hq⟩
  · exact absurd hi (hs.nowhere _ _)
def NoPost (T : Tb) (key : ByteArray) (w : World) (e : Ending) (w' : World) : Prop :=
  ∃ i : Nat, e = .returned (.tuple #[.int .i64 (i : Int), .bool false]) ∧ Spot st T key i ∧ ∃ q, w' = w.drewN q
theorem find_no (h : Xa w b g N T n used) (gd : Tab st T) (hem : ∃ e : Nat, T[e]? = some .empty) (h1 : 1 ≤ N) (h2 : N ≤ 1000000) {key : ByteArray} (hk : key.size ≤ 140737488351232) (hno : ∀ v, ¬ Has T key v) :
    Calls Tryz.prog 89 #[.pointer (some ⟨b, 0, none⟩), .string key] w (NoPost T key w) := by
  refine (find_any h gd hem h1 h2 key hk).mono ?_
  rintro e w' ⟨hq, (⟨j, u, rfl, hj⟩ | ⟨j, rfl, hs⟩)⟩
  · exact absurd ⟨j, hj⟩ (hno u)
  · exact ⟨j, rfl, hs, hq⟩

def BX (b g : Nat) : Nat → Prop := fun k => k = b ∨ k = g

theorem new_x (w : World) : Calls Tryz.prog 56 #[.int .u64 0] w fun e w' => e = .returned (.pointer (some ⟨w.heap.size + 1, 0, none⟩)) ∧
    Xa w' (w.heap.size + 1) w.heap.size 8 (List.replicate 8 .empty) 0 0 ∧ Below w.heap.size w w' := by
  have hmk : ∀ w : World, (Instr.makeSlice 110 (.int .i64 8) (.int .i64 8)).run Tryz.prog w = .ok (.slice (some ⟨w.heap.size, 0, none⟩) 8 8) (w.alloc (.cells (pls (List.replicate 8 .empty)).toArray 118)) := fun _ => by kernel_rfl
  go_enter Tryz.func56, Tryz.ntmps56
  go_wp2
  go_ret
  have hb0 := block_new w (.cells (pls (List.replicate 8 .empty)).toArray 118)
  exact ⟨by simp, ⟨block_new' (by simp) _, block_alloc hb0, rfl, by omega⟩, ((Below.refl _ _).alloc (Nat.le_refl _) _).alloc (by simp) _⟩

def LaysPost (b g N : Nat) (T : Tb) (n used i : Nat) (p : Pl V) (key : ByteArray) (r h : Nat) (w : World) (e : Ending) (w' : World) : Prop :=
  e = .returned (.tuple #[]) ∧ Xa w' b g N (T.set i (.full key (r, h))) (n + 1) (used + if p.taken then 0 else 1) ∧ Upd (BX b g) w w'

set_option maxHeartbeats 800000 in
theorem lays_x (hx : Xa w b g N T n used) {i r h : Nat} {key : ByteArray} {p : Pl V} (hi : i < N) (hp : T[i]? = some p) (hnf : p.isFull = false) (hn : n ≤ 1000000) (hu : used ≤ 1000000) :
    Calls Tryz.prog 93 #[.pointer (some ⟨b, 0, none⟩), .int .i64 (i : Int), .string key, .agg #[.int .i64 (r : Int), .int .i64 (h : Int)]] w (LaysPost b g N T n used i p key r h w) := by
  have z0 : (0 : Int) ≤ (i : Int) := by omega
  have z1 : (i : Int) < (N : Int) := by omega
  have HX := Lib.hid hx
  have HP := Lib.hid hp
  have hb2 : Below w.heap.size w (w.alloc (.cells #[.int .i64 (r : Int), .int .i64 (h : Int)] 80)) := (Below.refl _ _).alloc (Nat.le_refl _) _
  have HX2 := Lib.hid (hx.below hb2)
  have hv := block_new w (.cells #[.int .i64 (r : Int), .int .i64 (h : Int)] 80)
  have HU2 : Hid (Upd (BX b g) w (w.alloc (.cells #[.int .i64 (r : Int), .int .i64 (h : Int)] 80))) := Lib.hid ((Upd.refl _ w).alloc _)
  have hbl : b ≠ w.heap.size ∧ g ≠ w.heap.size := by
    have h1 := lt_of_block hx.obj
    have h2 := lt_of_block hx.row
    omega
  clear hx hb2 hp
  go_enter Tryz.func93, Tryz.ntmps93
  generalize hw2 : w.alloc (.cells #[.int .i64 (r : Int), .int .i64 (h : Int)] 80) = w2 at *
  obtain ⟨c0, c1, c2, c3, fr⟩ := cells4 HX2.out.obj
  have v0 : w2.cell? ⟨w.heap.size, 0, none⟩ = some (.int .i64 (r : Int)) := (cell_of hv 0).trans rfl
  have v1 : w2.cell? ⟨w.heap.size, 1, none⟩ = some (.int .i64 (h : Int)) := (cell_of hv 1).trans rfl
  have HV := Lib.hid hv
  have k0 := HX2.out.cellj HP.out (j := 0) (by omega)
  have k1 := HX2.out.cellj HP.out (j := 1) (by omega)
  have k2 := HX2.out.cellj HP.out (j := 2) (by omega)
  have k3 := HX2.out.cellj HP.out (j := 3) (by omega)
  rw [Nat.add_zero] at k0
  have fg := free_of HX2.out.row
  have bg := HX2.out.bg
  obtain ⟨n1, n2⟩ := hbl
  clear hv
  have hc : (p = .empty ∧ p.taken = false) ∨ (p = .gone ∧ p.taken = true) := by cases p <;> simp_all [Pl.isFull, Pl.taken]
  rcases hc with ⟨rfl, hpt⟩ | ⟨rfl, hpt⟩
  · have k0' : w2.cell? ⟨g, i * 4, none⟩ = some (.int .i64 0) := k0
    have k1' : w2.cell? ⟨g, i * 4 + 1, none⟩ = some (.string ByteArray.empty) := k1
    have k2' : w2.cell? ⟨g, i * 4 + 2, none⟩ = some (.int .i64 0) := k2
    have k3' : w2.cell? ⟨g, i * 4 + 3, none⟩ = some (.int .i64 0) := k3
    clear k0 k1 k2 k3
    go_wp2_with fail
    go_region
    go_wp2_with fail
    go_end0
    exact ⟨rfl, (((HX2.out.useds (used + 1)).put hi rfl).counts (n + 1)).drewN 1, ((((((HU2.out.setCell (p := ⟨b, 3, none⟩) (.inl (.inl rfl)) _).setCell (p := ⟨g, i * 4, none⟩) (.inl (.inr rfl)) _).setCell (p := ⟨g, i * 4 + 1, none⟩) (.inl (.inr rfl)) _).setCell (p := ⟨g, i * 4 + 2, none⟩) (.inl (.inr rfl)) _).setCell (p := ⟨g, i * 4 + 3, none⟩) (.inl (.inr rfl)) _).setCell (p := ⟨b, 2, none⟩) (.inl (.inl rfl)) _).drew⟩
  · have k0' : w2.cell? ⟨g, i * 4, none⟩ = some (.int .i64 1) := k0
    have k1' : w2.cell? ⟨g, i * 4 + 1, none⟩ = some (.string ByteArray.empty) := k1
    have k2' : w2.cell? ⟨g, i * 4 + 2, none⟩ = some (.int .i64 0) := k2
    have k3' : w2.cell? ⟨g, i * 4 + 3, none⟩ = some (.int .i64 0) := k3
    clear k0 k1 k2 k3
    go_wp2_with fail
    go_region
    go_wp2_with fail
    go_end0
    exact ⟨rfl, ((HX2.out.put hi rfl).counts (n + 1)).drewN 1, (((((HU2.out.setCell (p := ⟨g, i * 4, none⟩) (.inl (.inr rfl)) _).setCell (p := ⟨g, i * 4 + 1, none⟩) (.inl (.inr rfl)) _).setCell (p := ⟨g, i * 4 + 2, none⟩) (.inl (.inr rfl)) _).setCell (p := ⟨g, i * 4 + 3, none⟩) (.inl (.inr rfl)) _).setCell (p := ⟨b, 2, none⟩) (.inl (.inl rfl)) _).drew⟩
end

end Go.Proofs.YtkeicfajlmhajaaGreat.In

/- The walks of package index: Get, Delete. -/
namespace Go.Proofs.YtkeicfajlmhajaaGreat.In
open Go Go.RowKit Go.Proofs.YtkeicfajlmhajaaGreat.K Go.Proofs.YtkeicfajlmhajaaGreat.Ix Go.Proofs.YtkeicfajlmhajaaGreat.Hb

section
variable {w : World} {b g N n used : Nat} {T : Tb}

/-- Two cells of a block are written: what they hold. -/
theorem two_set {w : World} {k : Nat} {T : TypeId} {x y u v : Value} (h : w.heap[k]? = some (.cells #[x, y] T (0, 0))) :
    (w.setCell ⟨k, 0, none⟩ u).cell? ⟨k, 0, none⟩ = some u ∧ ((w.setCell ⟨k, 0, none⟩ u).setCell ⟨k, 1, none⟩ v).cell? ⟨k, 0, none⟩ = some u ∧ ((w.setCell ⟨k, 0, none⟩ u).setCell ⟨k, 1, none⟩ v).cell? ⟨k, 1, none⟩ = some v ∧
    ((w.setCell ⟨k, 0, none⟩ u).setCell ⟨k, 1, none⟩ v).heap[k]? = some (.cells #[u, v] T (0, 0)) := by
  have h1 := block_setCell (o := 0) (v := u) h
  have h2 := block_setCell (o := 1) (v := v) h1
  exact ⟨(cell_of h1 0).trans rfl, (cell_of h2 0).trans rfl, (cell_of h2 1).trans rfl, h2⟩

theorem get_yes (hx : Xa w b g N T n used) (gd : Good N T n used) {i : Nat} {key : ByteArray} {r h : Nat} (hi : T[i]? = some (.full key (r, h))) :
    Calls Tryz.prog 68 #[.pointer (some ⟨b, 0, none⟩), .string key] w fun e w' => e = .returned (.tuple #[.agg #[.int .i64 (r : Int), .int .i64 (h : Int)], .bool true]) ∧ Below w.heap.size w w' := by
  have hil : i < N := by rw [← gd.len]; exact lt_of_getElem? hi
  have z0 : (0 : Int) ≤ (i : Int) := by omega
  have z1 : (i : Int) < (N : Int) := by omega
  have hb2 : Below w.heap.size w (w.alloc (.cells #[.int .i64 0, .int .i64 0] 80)) := (Below.refl _ _).alloc (Nat.le_refl _) _
  have hx2 := hx.below hb2
  have F := Lib.hid (find_yes hx2 gd.tab gd.emp (by have := gd.big; omega) gd.top (gd.small i key _ hi) hi)
  obtain ⟨c0, c1, c2, c3, fr⟩ := cells4 hx2.obj
  have k2 : _ = some (Value.int .i64 (r : Int)) := hx2.cellj hi (j := 2) (by omega)
  have k3 : _ = some (Value.int .i64 (h : Int)) := hx2.cellj hi (j := 3) (by omega)
  have hv := block_new w (.cells #[.int .i64 0, .int .i64 0] 80)
  have HB2 := Lib.hid hb2
  clear hx2 hb2 hx gd hi
  go_enter Tryz.func68, Tryz.ntmps68
  go_wp2_with fail
  generalize w.alloc (.cells #[.int .i64 0, .int .i64 0] 80) = w2 at *
  have v0 : w2.cell? ⟨w.heap.size, 0, none⟩ = some (.int .i64 0) := (cell_of hv 0).trans rfl
  have v1 : w2.cell? ⟨w.heap.size, 1, none⟩ = some (.int .i64 0) := (cell_of hv 1).trans rfl
  have fv := free_of hv
  have HV := Lib.hid hv
  clear hv
  refine F.out.mono ?_
  rintro e w3 ⟨rfl, q, rfl⟩
  go_wp2_with fail
  obtain ⟨-, s1, s2, -⟩ := two_set (w := w2.drewN q) (u := .int .i64 (r : Int)) (v := .int .i64 (h : Int)) HV.out
  refine bodyPost_ret (v := .tuple #[.agg #[.int .i64 (r : Int), .int .i64 (h : Int)], .bool true]) (by simp [results, Tryz.results68, go_sem, s1, s2]) rfl ?_
  exact ⟨rfl, ((below_drewN HB2.out q).setCell (p := ⟨w.heap.size, 0, none⟩) (Nat.le_refl _) _).setCell (p := ⟨w.heap.size, 1, none⟩) (Nat.le_refl _) _⟩
theorem get_no (hx : Xa w b g N T n used) (gd : Good N T n used) {key : ByteArray} (hk : key.size ≤ 140737488351232) (hno : ∀ v, ¬ Has T key v) :
    Calls Tryz.prog 68 #[.pointer (some ⟨b, 0, none⟩), .string key] w fun e w' => e = .returned (.tuple #[.agg #[.int .i64 0, .int .i64 0], .bool false]) ∧ Below w.heap.size w w' := by
  have hb2 : Below w.heap.size w (w.alloc (.cells #[.int .i64 0, .int .i64 0] 80)) := (Below.refl _ _).alloc (Nat.le_refl _) _
  have hx2 := hx.below hb2
  have F := Lib.hid (find_no hx2 gd.tab gd.emp (by have := gd.big; omega) gd.top hk hno)
  have hv := block_new w (.cells #[.int .i64 0, .int .i64 0] 80)
  have HB2 := Lib.hid hb2
  have hsz : w.heap.size < (w.alloc (.cells #[.int .i64 0, .int .i64 0] 80)).heap.size := by simp
  clear hx2 hb2 hx gd hno
  go_enter Tryz.func68, Tryz.ntmps68
  go_wp2_with fail
  generalize w.alloc (.cells #[.int .i64 0, .int .i64 0] 80) = w2 at *
  have HV := Lib.hid hv
  have HZ := Lib.hid hsz
  clear hv hsz
  refine F.out.mono ?_
  rintro e w3 ⟨i, rfl, -, q, rfl⟩
  have v0 : w2.cell? ⟨w.heap.size, 0, none⟩ = some (.int .i64 0) := (cell_of HV.out 0).trans rfl
  have v1 : w2.cell? ⟨w.heap.size, 1, none⟩ = some (.int .i64 0) := (cell_of HV.out 1).trans rfl
  have fv := free_of HV.out
  have hz2 := HZ.out
  have n0 := World.new_ne (w2.drewN q) ⟨w.heap.size, 0, none⟩ v0
  have n1 := World.new_ne (w2.drewN q) ⟨w.heap.size, 1, none⟩ v1
  have hu := block_new (w2.drewN q) (.cells #[.int .i64 0, .int .i64 0] 80)
  have u0 : ((w2.drewN q).alloc (.cells #[.int .i64 0, .int .i64 0] 80)).cell? ⟨w2.heap.size, 0, none⟩ = some (.int .i64 0) := (cell_of hu 0).trans rfl
  have u1 : ((w2.drewN q).alloc (.cells #[.int .i64 0, .int .i64 0] 80)).cell? ⟨w2.heap.size, 1, none⟩ = some (.int .i64 0) := (cell_of hu 1).trans rfl
  have hne : w2.heap.size ≠ w.heap.size := n0
  have ho := block_alloc (o := .cells #[.int .i64 0, .int .i64 0] 80) (block_drewN (n := q) HV.out)
  have o0 : ((w2.drewN q).alloc (.cells #[.int .i64 0, .int .i64 0] 80)).cell? ⟨w.heap.size, 0, none⟩ = some (.int .i64 0) := (cell_of ho 0).trans rfl
  have o1 : ((w2.drewN q).alloc (.cells #[.int .i64 0, .int .i64 0] 80)).cell? ⟨w.heap.size, 1, none⟩ = some (.int .i64 0) := (cell_of ho 1).trans rfl
  have fo := free_of ho
  have fu := free_of hu
  have HU := Lib.hid hu
  clear hu ho
  go_wp2_with fail
  obtain ⟨-, s1, s2, -⟩ := two_set (w := (w2.drewN q).alloc (.cells #[.int .i64 0, .int .i64 0] 80)) (k := w.heap.size) (u := .int .i64 0) (v := .int .i64 0) (block_alloc HV.out)
  refine bodyPost_ret (v := .tuple #[.agg #[.int .i64 0, .int .i64 0], .bool false]) (by simp [results, Tryz.results68, go_sem, s1, s2]) rfl ?_
  exact ⟨rfl, (((below_drewN HB2.out q).alloc (by simp; omega) _).setCell (p := ⟨w.heap.size, 0, none⟩) (Nat.le_refl _) _).setCell (p := ⟨w.heap.size, 1, none⟩) (Nat.le_refl _) _⟩
end

end Go.Proofs.YtkeicfajlmhajaaGreat.In

/- The walks of package index: Delete. -/
namespace Go.Proofs.YtkeicfajlmhajaaGreat.In
open Go Go.RowKit Go.Proofs.YtkeicfajlmhajaaGreat.K Go.Proofs.YtkeicfajlmhajaaGreat.Ix Go.Proofs.YtkeicfajlmhajaaGreat.Hb

section
variable {w : World} {b g N n used : Nat} {T : Tb}

theorem two_cells {w : World} {k : Nat} {T : TypeId} {x y : Value} (h : w.heap[k]? = some (.cells #[x, y] T (0, 0))) :
    w.cell? ⟨k, 0, none⟩ = some x ∧ w.cell? ⟨k, 1, none⟩ = some y ∧ (∀ o, w.frozen? ⟨k, o, none⟩ = false) := ⟨cell_of h 0, cell_of h 1, free_of h⟩

theorem del_no (hx : Xa w b g N T n used) (gd : Good N T n used) {key : ByteArray} (hk : key.size ≤ 140737488351232) (hno : ∀ v, ¬ Has T key v) :
    Calls Tryz.prog 72 #[.pointer (some ⟨b, 0, none⟩), .string key] w fun e w' => e = .returned (.tuple #[.agg #[.int .i64 0, .int .i64 0], .bool false]) ∧ Below w.heap.size w w' := by
  have hb2 : Below w.heap.size w (w.alloc (.cells #[.int .i64 0, .int .i64 0] 80)) := (Below.refl _ _).alloc (Nat.le_refl _) _
  have hx2 := hx.below hb2
  have F := Lib.hid (get_no hx2 gd hk hno)
  have HV := Lib.hid (block_new w (.cells #[.int .i64 0, .int .i64 0] 80))
  have HB2 := Lib.hid hb2
  have HZ : Hid (w.heap.size < (w.alloc (.cells #[.int .i64 0, .int .i64 0] 80)).heap.size) := Lib.hid (by simp)
  clear hx2 hb2 hx gd hno
  go_enter Tryz.func72, Tryz.ntmps72
  go_wp2_with fail
  generalize w.alloc (.cells #[.int .i64 0, .int .i64 0] 80) = w2 at *
  refine F.out.mono ?_
  rintro e w3 ⟨rfl, hb3⟩
  have hv3 : w3.heap[w.heap.size]? = _ := (hb3.block _ HZ.out).trans HV.out
  have hz3 : w.heap.size < w3.heap.size := Nat.lt_of_lt_of_le HZ.out hb3.size
  have HB3 := Lib.hid (HB2.out.trans (hb3.mono (Nat.le_of_lt HZ.out)))
  have HO := Lib.hid (block_alloc (o := .cells #[.int .i64 0, .int .i64 0] 80) hv3)
  have HU := Lib.hid (block_new w3 (.cells #[.int .i64 0, .int .i64 0] 80))
  have hne : w3.heap.size ≠ w.heap.size := by omega
  have hne' : w.heap.size ≠ w3.heap.size := by omega
  have HB4 := Lib.hid (HB3.out.alloc (Nat.le_of_lt hz3) (.cells #[.int .i64 0, .int .i64 0] 80))
  clear hb3 hv3 hz3 F HV HB2 HZ
  obtain ⟨o0, o1, fo⟩ := two_cells HO.out
  obtain ⟨u0, u1, fu⟩ := two_cells HU.out
  go_wp2_with fail
  obtain ⟨-, s1, s2, -⟩ := two_set (w := w3.alloc (.cells #[.int .i64 0, .int .i64 0] 80)) (k := w.heap.size) (u := .int .i64 0) (v := .int .i64 0) HO.out
  refine bodyPost_ret (v := .tuple #[.agg #[.int .i64 0, .int .i64 0], .bool false]) (by simp [results, Tryz.results72, go_sem, s1, s2]) rfl ?_
  exact ⟨rfl, (HB4.out.setCell (p := ⟨w.heap.size, 0, none⟩) (Nat.le_refl _) _).setCell (p := ⟨w.heap.size, 1, none⟩) (Nat.le_refl _) _⟩

/-- What Delete leaves. -/
def DelPost (b g N : Nat) (T : Tb) (m used i r h : Nat) (w : World) (e : Ending) (w' : World) : Prop :=
  e = .returned (.tuple #[.agg #[.int .i64 (r : Int), .int .i64 (h : Int)], .bool true]) ∧ Xa w' b g N (T.set i .gone) m used ∧ Upd (BX b g) w w'

set_option maxHeartbeats 800000 in
theorem del_yes {m : Nat} (hx : Xa w b g N T (m + 1) used) (gd : Good N T (m + 1) used) {i : Nat} {key : ByteArray} {r h : Nat} (hi : T[i]? = some (.full key (r, h))) :
    Calls Tryz.prog 72 #[.pointer (some ⟨b, 0, none⟩), .string key] w (DelPost b g N T m used i r h w) := by
  have hil : i < N := by rw [← gd.len]; exact lt_of_getElem? hi
  have hm : m ≤ 1000000 := by have := gd.nle; have := gd.half; have := gd.top; omega
  have z0 : (0 : Int) ≤ (i : Int) := by omega
  have z1 : (i : Int) < (N : Int) := by omega
  have hb2 : Below w.heap.size w (w.alloc (.cells #[.int .i64 0, .int .i64 0] 80)) := (Below.refl _ _).alloc (Nat.le_refl _) _
  have hx2 := hx.below hb2
  have F := Lib.hid (get_yes hx2 gd hi)
  have HF := Lib.hid (fun (w : World) (h : Xa w b g N T (m + 1) used) => find_yes h gd.tab gd.emp (by have := gd.big; omega) gd.top (gd.small i key _ hi) hi)
  have HV := Lib.hid (block_new w (.cells #[.int .i64 0, .int .i64 0] 80))
  have HB2 := Lib.hid hb2
  have HX2 := Lib.hid hx2
  have HI := Lib.hid hi
  have hbl : b < w.heap.size ∧ g < w.heap.size := ⟨lt_of_block hx.obj, lt_of_block hx.row⟩
  have HZ : Hid (w.heap.size < (w.alloc (.cells #[.int .i64 0, .int .i64 0] 80)).heap.size) := Lib.hid (by simp)
  have bg := hx.bg
  clear hx2 hb2 hx gd hi
  go_enter Tryz.func72, Tryz.ntmps72
  go_wp2_with fail
  generalize w.alloc (.cells #[.int .i64 0, .int .i64 0] 80) = w2 at *
  refine F.out.mono ?_
  rintro e w3 ⟨rfl, hb3⟩
  have hv3 : w3.heap[w.heap.size]? = _ := (hb3.block _ HZ.out).trans HV.out
  have hz3 : w.heap.size < w3.heap.size := Nat.lt_of_lt_of_le HZ.out hb3.size
  have HB3 := Lib.hid (HB2.out.trans (hb3.mono (Nat.le_of_lt HZ.out)))
  have HX3 := Lib.hid (HX2.out.below hb3)
  have HO := Lib.hid (block_alloc (o := .cells #[.int .i64 (r : Int), .int .i64 (h : Int)] 80) hv3)
  have HU := Lib.hid (block_new w3 (.cells #[.int .i64 (r : Int), .int .i64 (h : Int)] 80))
  have hne : w3.heap.size ≠ w.heap.size := by omega
  have hne' : w.heap.size ≠ w3.heap.size := by omega
  have HB4 := Lib.hid (HB3.out.alloc (Nat.le_of_lt hz3) (.cells #[.int .i64 (r : Int), .int .i64 (h : Int)] 80))
  have HX4 := Lib.hid (HX3.out.below ((Below.refl _ _).alloc (Nat.le_refl _) (.cells #[.int .i64 (r : Int), .int .i64 (h : Int)] 80)))
  have HSZ := Lib.hid HB3.out.size
  clear hb3 hv3 hz3 F HV HB2 HZ HX2 HX3
  go_wp2_with fail
  generalize w3.alloc (.cells #[.int .i64 (r : Int), .int .i64 (h : Int)] 80) = w4 at *
  obtain ⟨c0, c1, c2, c3, fr⟩ := cells4 HX4.out.obj
  obtain ⟨o0, o1, fo⟩ := two_cells HO.out
  obtain ⟨u0, u1, fu⟩ := two_cells HU.out
  have k0 := HX4.out.cellj HI.out (j := 0) (by omega)
  have k1 := HX4.out.cellj HI.out (j := 1) (by omega)
  have k2 := HX4.out.cellj HI.out (j := 2) (by omega)
  have k3 := HX4.out.cellj HI.out (j := 3) (by omega)
  rw [Nat.add_zero] at k0
  have k0' : w4.cell? ⟨g, i * 4, none⟩ = some (.int .i64 2) := k0
  have k1' : w4.cell? ⟨g, i * 4 + 1, none⟩ = some (.string key) := k1
  have k2' : w4.cell? ⟨g, i * 4 + 2, none⟩ = some (.int .i64 (r : Int)) := k2
  have k3' : w4.cell? ⟨g, i * 4 + 3, none⟩ = some (.int .i64 (h : Int)) := k3
  have fg := free_of HX4.out.row
  obtain ⟨hb, hg⟩ := hbl
  have hs := HSZ.out
  have n1 : b ≠ w.heap.size := by omega
  have n2 : g ≠ w.heap.size := by omega
  have n3 : b ≠ w3.heap.size := by omega
  have n4 : g ≠ w3.heap.size := by omega
  have n5 : w.heap.size ≠ b := by omega
  have n6 : w.heap.size ≠ g := by omega
  have n7 : w3.heap.size ≠ b := by omega
  have n8 : w3.heap.size ≠ g := by omega
  have e1 : ((m + 1 : Nat) : Int) - 1 = (m : Int) := by omega
  clear k0 k1 k2 k3 hb hg hs
  refine (HF.out _ HX4.out).mono ?_
  rintro e w5 ⟨rfl, q, rfl⟩
  go_wp2_with fail
  have hx5 := ((HX4.out.drewN q).put (i := i) (p := .gone) hil rfl).counts m
  have ho5 := block_other (p := ⟨b, 2, none⟩) (v := .int .i64 (m : Int)) n5 (block_other (p := ⟨g, i * 4 + 3, none⟩) (v := .int .i64 0) n6 (block_other (p := ⟨g, i * 4 + 2, none⟩) (v := .int .i64 0) n6 (block_other (p := ⟨g, i * 4 + 1, none⟩) (v := .string ByteArray.empty) n6 (block_other (p := ⟨g, i * 4, none⟩) (v := .int .i64 1) n6 (block_drewN (n := q) HO.out)))))
  have hu4 : Upd (BX b g) w w4 := Upd.of_below HB4.out (fun k h1 h2 => by omega)
  have hu5 := (((((hu4.drewN q).setCell (p := ⟨g, i * 4, none⟩) (.inl (.inr rfl)) (.int .i64 1)).setCell (p := ⟨g, i * 4 + 1, none⟩) (.inl (.inr rfl)) (.string ByteArray.empty)).setCell (p := ⟨g, i * 4 + 2, none⟩) (.inl (.inr rfl)) (.int .i64 0)).setCell (p := ⟨g, i * 4 + 3, none⟩) (.inl (.inr rfl)) (.int .i64 0)).setCell (p := ⟨b, 2, none⟩) (.inl (.inl rfl)) (.int .i64 (m : Int))
  have he : (ByteArray.empty : ByteArray) = { data := #[] } := rfl
  rw [he] at hx5 ho5 hu5
  generalize (((((w4.drewN q).setCell ⟨g, i * 4, none⟩ (.int .i64 1)).setCell ⟨g, i * 4 + 1, none⟩ (.string { data := #[] })).setCell ⟨g, i * 4 + 2, none⟩ (.int .i64 0)).setCell ⟨g, i * 4 + 3, none⟩ (.int .i64 0)).setCell ⟨b, 2, none⟩ (.int .i64 (m : Int)) = w6 at *
  obtain ⟨-, s1, s2, -⟩ := two_set (w := w6) (k := w.heap.size) (u := .int .i64 (r : Int)) (v := .int .i64 (h : Int)) ho5
  refine bodyPost_ret (v := .tuple #[.agg #[.int .i64 (r : Int), .int .i64 (h : Int)], .bool true]) (by simp [results, Tryz.results72, go_sem, s1, s2]) rfl ?_
  exact ⟨rfl, ⟨block_other n1 (block_other n1 hx5.obj), block_other n2 (block_other n2 hx5.row), hx5.len, bg⟩, (hu5.setCell (p := ⟨w.heap.size, 0, none⟩) (.inr (Nat.le_refl _)) _).setCell (p := ⟨w.heap.size, 1, none⟩) (.inr (Nat.le_refl _)) _⟩
end

end Go.Proofs.YtkeicfajlmhajaaGreat.In

/- The walks of package index: grows. -/
namespace Go.Proofs.YtkeicfajlmhajaaGreat.In
open Go Go.RowKit Go.Proofs.YtkeicfajlmhajaaGreat.K Go.Proofs.YtkeicfajlmhajaaGreat.Ix Go.Proofs.YtkeicfajlmhajaaGreat.Hb

theorem infoP : (Tryz.prog.info? 118).map (fun i => (i.zero, i.size, i.bytes)) = some (some (.agg #[.int .i64 0, .string ByteArray.empty, .int .i64 0, .int .i64 0]), 4, 40) := by kernel_rfl

theorem made_pls (N : Nat) : madeCells #[.int .i64 0, .string ByteArray.empty, .int .i64 0, .int .i64 0] (N * 4) = (pls (List.replicate N (Pl.empty : Pl V))).toArray := by
  apply Array.ext'
  apply List.ext_getElem?
  intro k
  have hl : (pls (List.replicate N (Pl.empty : Pl V))).length = N * 4 := by
    have := flat_length pl4 (List.replicate N (Pl.empty : Pl V))
    simpa [pls] using this
  rcases Nat.lt_or_ge k (N * 4) with hk | hk
  · obtain ⟨i, j, hj, rfl⟩ : ∃ i j, j < 4 ∧ k = i * 4 + j := ⟨k / 4, k % 4, Nat.mod_lt _ (by omega), by omega⟩
    have hp : (List.replicate N (Pl.empty : Pl V))[i]? = some .empty := by
      rw [List.getElem?_replicate, if_pos (by omega)]
    have h1 := flat_get (enc := plc) pl4 hp hj
    show _ = (pls _)[_]?
    unfold pls
    rw [h1]
    simp only [madeCells, Array.toList_map, Array.toList_range, List.getElem?_map]
    rw [List.getElem?_range hk]
    have hm : (i * 4 + j) % 4 = j := by omega
    simp only [Option.map_some]
    rcases (by omega : j = 0 ∨ j = 1 ∨ j = 2 ∨ j = 3) with rfl | rfl | rfl | rfl <;> simp [hm, plc]
  · rw [List.getElem?_eq_none (by simp [madeCells]; omega), List.getElem?_eq_none (by simpa [hl] using hk)]

theorem make_pls (N : Nat) (hN : N ≤ 1000000) (w : World) :
    (Instr.makeSlice 110 (.int .i64 (N : Int)) (.int .i64 (N : Int))).run Tryz.prog w = .ok (.slice (some ⟨w.heap.size, 0, none⟩) N N) (w.alloc (.cells (pls (List.replicate N .empty)).toArray 118)) := by
  obtain ⟨i, h1, h2, h3, h4⟩ := info_parts infoP
  have hr := run_make (P := Tryz.prog) w 110 118 i _ Tryz.underlying110 h1 h2 .i64 .i64 (N : Int) (N : Int) (by omega) (Int.le_refl _) (by rw [h4]; omega) (by omega)
  have hz : Value.cells (.agg #[.int .i64 0, .string ByteArray.empty, .int .i64 0, .int .i64 0]) = #[.int .i64 0, .string ByteArray.empty, .int .i64 0, .int .i64 0] := by simp [Value.cells]
  rw [Int.toNat_natCast, h3, hz, made_pls N] at hr
  exact hr

section
variable {w : World} {b g N n used : Nat} {T : Tb}

/-- A make whose run is known. -/
theorem wp_make_run {P : Program} {w w' : World} {ops : Array Oper} {rest : List Oper} {o : Oper} {a : Act} {Q : Exit → Act → World → Prop}
    (hg : o.guard = none) (l c : Operand) (t : TypeId) (hop : o.op = Op.makeSlice t l c) (x y v : Value) (hl : a.eval l = x) (hc : a.eval c = y)
    (hrun : (Instr.makeSlice t x y).run P w = .ok v w') (hK : wpList P ops Q rest (a.put o.dst v) w') : wpList P ops Q (o :: rest) a w := by
  refine wpList_plain hg fun K hK' => ?_
  unfold Oper.wp
  simp [execOp, hop, hl, hc, hrun, Result.andThen]
  exact hK' _ _ hK

/-- A table without deleted places, as far as the old one was gone through. -/
structure Grow (T T' : Tb) (M j m : Nat) : Prop where
  tab : Tab st T'
  len : T'.length = M
  free : ∀ i : Nat, T'[i]? ≠ some .gone
  full_ : T'.countP Pl.isFull = m
  taken_ : T'.countP Pl.taken = m
  m_ : m = (T.take j).countP Pl.isFull
  has : ∀ k v, Has T' k v ↔ Has (T.take j) k v

theorem Grow.start (T : Tb) {M : Nat} (hM : 1 ≤ M) : Grow T (List.replicate M .empty) M 0 0 :=
  ⟨tab_new st M (by omega), by simp, fun i h => by rw [List.getElem?_replicate] at h; split at h <;> simp at h, (count_new M).1, (count_new M).2, by simp,
    fun k v => ⟨fun h => absurd h (has_new M k v), fun ⟨i, hi⟩ => by simp at hi⟩⟩

theorem Grow.skip {T T' : Tb} {M j m : Nat} {p : Pl V} (h : Grow T T' M j m) (hp : T[j]? = some p) (hf : p.isFull = false) : Grow T T' M (j + 1) m := by
  have hj := lt_of_getElem? hp
  refine ⟨h.tab, h.len, h.free, h.full_, h.taken_, ?_, fun k v => ?_⟩
  · rw [countP_take_succ hp, hf]; simpa using h.m_
  · rw [has_take_succ hj, h.has k v]
    constructor
    · exact .inl
    · rintro (e | e)
      · exact e
      · rw [hp] at e
        cases e
        cases hf

theorem Grow.lay {T T' : Tb} {M j m i : Nat} {key : ByteArray} {v : V} (h : Grow T T' M j m) (hp : T[j]? = some (.full key v)) (sp : Spot st T' key i) :
    Grow T (T'.set i (.full key v)) M (j + 1) (m + 1) ∧ T'[i]? = some .empty := by
  have hj := lt_of_getElem? hp
  have he : T'[i]? = some .empty := sp.open_.resolve_right (h.free i)
  have c1 := countP_set (p := Pl.isFull) (y := .full key v) he
  have c2 := countP_set (p := Pl.taken) (y := .full key v) he
  have d1 := h.full_
  have d2 := h.taken_
  refine ⟨⟨h.tab.lay sp, by simpa using h.len, ?_, ?_, ?_, ?_, fun k u => ?_⟩, he⟩
  · intro a ha
    rw [get_set sp.lt] at ha
    split at ha
    · cases ha
    · exact h.free a ha
  · simp [Pl.isFull] at c1; omega
  · simp [Pl.taken] at c2; omega
  · rw [countP_take_succ hp]; have := h.m_; simp [Pl.isFull]; omega
  · rw [sp.has, has_take_succ hj, h.has k u, hp]
    constructor
    · rintro (⟨rfl, rfl⟩ | e)
      · exact .inr rfl
      · exact .inl e
    · rintro (e | e)
      · exact .inr e
      · cases e; exact .inl ⟨rfl, rfl⟩

theorem Grow.absent {T T' : Tb} {M j m : Nat} {key : ByteArray} {v : V} (h : Grow T T' M j m) (tab : Tab st T) (hp : T[j]? = some (.full key v)) (u : V) : ¬ Has T' key u := by
  intro hu
  obtain ⟨i, hi⟩ := (h.has key u).1 hu
  rw [List.getElem?_take] at hi
  split at hi
  · have := tab.uniq _ _ _ _ _ hi hp; omega
  · cases hi

theorem Grow.le {T T' : Tb} {M j m : Nat} (h : Grow T T' M j m) : m ≤ T.countP Pl.isFull := by
  rw [h.m_]; exact (List.take_sublist j T).countP_le

theorem Grow.done {T T' : Tb} {M m : Nat} (h : Grow T T' M T.length m) : m = T.countP Pl.isFull ∧ ∀ k v, Has T' k v ↔ Has T k v := by
  have e := List.take_length (l := T)
  have h1 := h.m_
  have h2 := h.has
  rw [e] at h1 h2
  exact ⟨h1, h2⟩

/-- What grows leaves. -/
def GrowPost (b : Nat) (T : Tb) (M n : Nat) (w : World) (e : Ending) (w' : World) : Prop :=
  e = .returned (.tuple #[]) ∧ ∃ T', Xa w' b w.heap.size M T' n n ∧ Grow T T' M T.length n ∧ Upd (· = b) w w'

set_option maxHeartbeats 800000 in
theorem grows_x {M : Nat} (hx : Xa w b g N T n used) (tab : Tab st T) (hn1 : 1 ≤ n) (hn : n ≤ 249000) (hN : N ≤ 1000000) (hc : T.countP Pl.isFull = n) (hM : M = 4 * (n + 1))
    (small : ∀ (i : Nat) k v, T[i]? = some (.full k v) → k.size ≤ 140737488351232) :
    Calls Tryz.prog 94 #[.pointer (some ⟨b, 0, none⟩)] w (GrowPost b T M n w) := by
  obtain ⟨c0, c1, c2, c3, fr⟩ := cells4 hx.obj
  have HMK := Lib.hid (make_pls M (by omega))
  have e1 : 4 * ((n : Int) + 1) = (M : Int) := by omega
  have e2 : (if (8 : Int) < (M : Int) then (M : Int) else 8) = (M : Int) := by split <;> omega
  have HX := Lib.hid hx
  have HT := Lib.hid tab
  have HS := Lib.hid small
  have HC := Lib.hid hc
  have HM := Lib.hid hM
  have hbz : b ≠ w.heap.size := by have := lt_of_block hx.obj; omega
  have HG := Lib.hid (Grow.start T (M := M) (by omega))
  have HOB := Lib.hid (block_alloc (o := .cells (pls (List.replicate M .empty)).toArray 118) hx.obj)
  have HOLD := Lib.hid (block_alloc (o := .cells (pls (List.replicate M .empty)).toArray 118) hx.row)
  have HROW := Lib.hid (block_new w (.cells (pls (List.replicate M .empty)).toArray 118))
  have HU1 : Hid (Upd (· = b) w (w.alloc (.cells (pls (List.replicate M .empty)).toArray 118))) := Lib.hid ((Upd.refl _ w).alloc _)
  have hgz : g ≠ w.heap.size := by have := lt_of_block hx.row; omega
  have bg := hx.bg
  clear hx tab small hc hM
  go_enter Tryz.func94, Tryz.ntmps94
  go_wp2_with (at_make; refine wp_make_run rfl _ _ _ rfl _ _ _ rfl rfl (HMK.out _) ?_; generalize w.alloc (.cells (pls (List.replicate M .empty)).toArray 118) = w1 at *; obtain ⟨d0, d1, d2, d3, dfr⟩ := cells4 HOB.out)
  have HX2 : Hid (Xa (((w1.setCell ⟨b, 1, none⟩ (.slice (some ⟨w.heap.size, 0, none⟩) M M)).setCell ⟨b, 2, none⟩ (.int .i64 0)).setCell ⟨b, 3, none⟩ (.int .i64 0)) b w.heap.size M (List.replicate M .empty) 0 0) := Lib.hid
    ⟨block_setCell (block_setCell (block_setCell HOB.out)), block_other hbz.symm (block_other hbz.symm (block_other hbz.symm HROW.out)), by simp, hbz⟩
  have HOLD2 := Lib.hid (block_other (p := ⟨b, 3, none⟩) (v := .int .i64 0) bg.symm (block_other (p := ⟨b, 2, none⟩) (v := .int .i64 0) bg.symm (block_other (p := ⟨b, 1, none⟩) (v := .slice (some ⟨w.heap.size, 0, none⟩) M M) bg.symm HOLD.out)))
  have HU2 := Lib.hid (((HU1.out.setCell (p := ⟨b, 1, none⟩) (.inl rfl) (.slice (some ⟨w.heap.size, 0, none⟩) M M)).setCell (p := ⟨b, 2, none⟩) (.inl rfl) (.int .i64 0)).setCell (p := ⟨b, 3, none⟩) (.inl rfl) (.int .i64 0))
  clear HOB HOLD HROW HU1
  go_loopg [30] N (fun k v30 wr => ∃ (j m : Nat) (T' : Tb), k = N - j ∧ j ≤ N ∧ v30 = .int .i64 (j : Int) ∧ Xa wr b w.heap.size M T' m m ∧ Grow T T' M j m ∧ wr.heap[g]? = some (.cells (pls T).toArray 118 (0, 0)) ∧ Upd (· = b) w wr)
  case atStart => exact ⟨0, 0, _, by omega, by omega, rfl, HX2.out, HG.out, HOLD2.out, HU2.out⟩
  case round =>
    clear d0 d1 d2 d3 dfr HX2 HOLD2 HU2 HG c0 c1 c2 c3 fr
    obtain ⟨j, m, T', hgk, hj, rfl, hx', hg', hold, hu'⟩ := hrel
    have HX' := Lib.hid hx'
    have HG' := Lib.hid hg'
    have HO' := Lib.hid hold
    have HU' := Lib.hid hu'
    have HGK := Lib.hid hgk
    have hmn : m ≤ n := by have := hg'.le; rw [HC.out] at this; exact this
    clear hx' hg' hold hu' hgk
    rcases Nat.eq_or_lt_of_le hj with rfl | hjl
    · go_wp2_with fail
      go_end0
      have e := HX.out.len
      have hG := HG'.out
      rw [← e] at hG
      obtain ⟨hm, -⟩ := hG.done
      rw [HC.out] at hm
      subst hm
      exact ⟨rfl, T', HX'.out, hG, HU'.out⟩
    · obtain ⟨p, hp⟩ : ∃ p, T[j]? = some p := ⟨_, List.getElem?_eq_getElem (by rw [HX.out.len]; exact hjl)⟩
      have z0 : (0 : Int) ≤ (j : Int) := by omega
      have z1 : (j : Int) < (N : Int) := by omega
      have HP := Lib.hid hp
      have kk : ∀ i, i < 4 → wr.cell? ⟨g, j * 4 + i, none⟩ = (plc p)[i]? := by
        intro i hi
        rw [cell_of HO'.out, List.getElem?_toArray]
        exact flat_get pl4 hp hi
      have k0 := kk 0 (by omega)
      have k1 := kk 1 (by omega)
      have k2 := kk 2 (by omega)
      have k3 := kk 3 (by omega)
      rw [Nat.add_zero] at k0
      clear kk hp
      cases p with
      | empty =>
        have k0' : wr.cell? ⟨g, j * 4, none⟩ = some (.int .i64 0) := k0
        have k1' : wr.cell? ⟨g, j * 4 + 1, none⟩ = some (.string ByteArray.empty) := k1
        have k2' : wr.cell? ⟨g, j * 4 + 2, none⟩ = some (.int .i64 0) := k2
        have k3' : wr.cell? ⟨g, j * 4 + 3, none⟩ = some (.int .i64 0) := k3
        clear k0 k1 k2 k3
        go_wp2_with fail
        go_roundg (N - (j + 1))
        case measure => rw [HGK.out]; omega
        case rel => exact ⟨j + 1, m, T', rfl, hjl, rfl, HX'.out.below ((Below.refl _ _).alloc (Nat.le_refl _) _), HG'.out.skip HP.out rfl, block_alloc HO'.out, HU'.out.alloc _⟩
      | gone =>
        have k0' : wr.cell? ⟨g, j * 4, none⟩ = some (.int .i64 1) := k0
        have k1' : wr.cell? ⟨g, j * 4 + 1, none⟩ = some (.string ByteArray.empty) := k1
        have k2' : wr.cell? ⟨g, j * 4 + 2, none⟩ = some (.int .i64 0) := k2
        have k3' : wr.cell? ⟨g, j * 4 + 3, none⟩ = some (.int .i64 0) := k3
        clear k0 k1 k2 k3
        go_wp2_with fail
        go_roundg (N - (j + 1))
        case measure => rw [HGK.out]; omega
        case rel => exact ⟨j + 1, m, T', rfl, hjl, rfl, HX'.out.below ((Below.refl _ _).alloc (Nat.le_refl _) _), HG'.out.skip HP.out rfl, block_alloc HO'.out, HU'.out.alloc _⟩
      | full key v =>
        obtain ⟨r, h⟩ := v
        have k0' : wr.cell? ⟨g, j * 4, none⟩ = some (.int .i64 2) := k0
        have k1' : wr.cell? ⟨g, j * 4 + 1, none⟩ = some (.string key) := k1
        have k2' : wr.cell? ⟨g, j * 4 + 2, none⟩ = some (.int .i64 (r : Int)) := k2
        have k3' : wr.cell? ⟨g, j * 4 + 3, none⟩ = some (.int .i64 (h : Int)) := k3
        clear k0 k1 k2 k3
        have hb1 : Below wr.heap.size wr (wr.alloc (.cells #[.int .i64 2, .string key, .int .i64 (r : Int), .int .i64 (h : Int)] 118)) := (Below.refl _ _).alloc (Nat.le_refl _) _
        have hxa := HX'.out.below hb1
        have hgr := HG'.out
        have hem : ∃ e : Nat, T'[e]? = some .empty := empty_of_count (by rw [hgr.taken_, hgr.len, HM.out]; omega)
        have F := Lib.hid (find_no hxa hgr.tab hem (by rw [HM.out]; omega) (by rw [HM.out]; omega) (HS.out _ _ _ HP.out) (hgr.absent HT.out HP.out))
        have HXA := Lib.hid hxa
        have HA := Lib.hid (block_new wr (.cells #[.int .i64 2, .string key, .int .i64 (r : Int), .int .i64 (h : Int)] 118))
        have HOA := Lib.hid (block_alloc (o := .cells #[.int .i64 2, .string key, .int .i64 (r : Int), .int .i64 (h : Int)] 118) HO'.out)
        have HUA := Lib.hid (HU'.out.alloc (.cells #[.int .i64 2, .string key, .int .i64 (r : Int), .int .i64 (h : Int)] 118))
        have HSZ := Lib.hid HU'.out.size
        clear hb1 hxa hgr hem
        go_wp2_with fail
        generalize wr.alloc (.cells #[.int .i64 2, .string key, .int .i64 (r : Int), .int .i64 (h : Int)] 118) = w2 at *
        obtain ⟨a0, a1, a2, a3, fra⟩ := cells4 HA.out
        refine F.out.mono ?_
        rintro e w3 ⟨i, rfl, sp, q, rfl⟩
        obtain ⟨hlay, hie⟩ := HG'.out.lay HP.out sp
        have hil : i < M := by have := sp.lt; rw [HG'.out.len] at this; exact this
        have HL := Lib.hid (lays_x (HXA.out.drewN q) (r := r) (h := h) (key := key) hil hie rfl (by omega) (by omega))
        have HLAY := Lib.hid hlay
        clear sp hlay hie F
        go_wp2_with fail
        refine HL.out.mono ?_
        rintro e w4 ⟨rfl, hx4, hu4⟩
        have HX4 : Hid (Xa w4 b w.heap.size M (T'.set i (.full key (r, h))) (m + 1) (m + 1)) := Lib.hid hx4
        have HU4 := Lib.hid hu4
        clear hx4 hu4 HL
        go_wp2_with fail
        go_roundg (N - (j + 1))
        case measure => rw [HGK.out]; omega
        case rel =>
          refine ⟨j + 1, m + 1, _, rfl, hjl, rfl, HX4.out, HLAY.out, HU4.out.get (block_drewN HOA.out) ?_, (HUA.out.drewN q).then HU4.out ?_⟩
          · rintro (e | e)
            · exact bg e.symm
            · exact hgz e
          · rintro k hk (e | e)
            · exact e
            · omega
end

end Go.Proofs.YtkeicfajlmhajaaGreat.In

/- The walks of package index: Put; an index over keys and places. -/
namespace Go.Proofs.YtkeicfajlmhajaaGreat.In
open Go Go.RowKit Go.Proofs.YtkeicfajlmhajaaGreat.K Go.Proofs.YtkeicfajlmhajaaGreat.Ix Go.Proofs.YtkeicfajlmhajaaGreat.Hb

section
variable {w : World} {b g N n used : Nat} {T : Tb}

/-- What Put leaves. -/
def PutPost (b g : Nat) (T : Tb) (n : Nat) (key : ByteArray) (v : V) (w : World) (e : Ending) (w' : World) : Prop :=
  e = .returned (.bool true) ∧ ∃ g' N' T' used', Xa w' b g' N' T' (n + 1) used' ∧ Good N' T' (n + 1) used' ∧ (∀ k u, Has T' k u ↔ (k = key ∧ u = v) ∨ Has T k u) ∧ (g' = g ∨ w.heap.size ≤ g') ∧ Upd (BX b g) w w'

set_option maxHeartbeats 800000 in
theorem put_new (hx : Xa w b g N T n used) (gd : Good N T n used) {key : ByteArray} (hk : key.size ≤ 140737488351232) (hno : ∀ v, ¬ Has T key v) (hn : n ≤ 240000) {r h : Nat} :
    Calls Tryz.prog 75 #[.pointer (some ⟨b, 0, none⟩), .string key, .agg #[.int .i64 (r : Int), .int .i64 (h : Int)]] w (PutPost b g T n key (r, h) w) := by
  have hb1 : Below w.heap.size w (w.alloc (.cells #[.int .i64 (r : Int), .int .i64 (h : Int)] 80)) := (Below.refl _ _).alloc (Nat.le_refl _) _
  have HX1 := Lib.hid (hx.below hb1)
  have F := Lib.hid (find_no HX1.out gd.tab gd.emp (by have := gd.big; omega) gd.top hk hno)
  have HA := Lib.hid (block_new w (.cells #[.int .i64 (r : Int), .int .i64 (h : Int)] 80))
  have HB1 := Lib.hid hb1
  have HG := Lib.hid gd
  have HK := Lib.hid hk
  have hbl : b ≠ w.heap.size ∧ g ≠ w.heap.size := by
    have h1 := lt_of_block hx.obj
    have h2 := lt_of_block hx.row
    omega
  clear hx gd hno hb1 hk
  go_enter Tryz.func75, Tryz.ntmps75
  go_wp2_with fail
  generalize w.alloc (.cells #[.int .i64 (r : Int), .int .i64 (h : Int)] 80) = w2 at *
  obtain ⟨a0, a1, fa⟩ := two_cells HA.out
  refine F.out.mono ?_
  rintro e w3 ⟨i, rfl, sp, q, rfl⟩
  have gd := HG.out
  have hil : i < N := by have := sp.lt; rw [gd.len] at this; exact this
  obtain ⟨p, hp, hnf⟩ : ∃ p, T[i]? = some p ∧ p.isFull = false := by
    rcases sp.open_ with e | e
    · exact ⟨_, e, rfl⟩
    · exact ⟨_, e, rfl⟩
  have hu := gd.half
  have ht := gd.top
  have hb := gd.big
  have c1 := countP_set (p := Pl.isFull) (y := .full key (r, h)) hp
  have c2 := countP_set (p := Pl.taken) (y := .full key (r, h)) hp
  rw [hnf, gd.n_] at c1
  rw [gd.used_] at c2
  have hu1 : (T.set i (.full key (r, h))).countP Pl.taken = used + if p.taken then 0 else 1 := by
    rw [show (Pl.full key (r, h) : Pl V).taken = true from rfl] at c2
    rcases Bool.eq_false_or_eq_true p.taken with e | e <;> rw [e] at c2 ⊢ <;> simp at c2 ⊢ <;> omega
  have hn1 : (T.set i (.full key (r, h))).countP Pl.isFull = n + 1 := by simpa [Pl.isFull] using c1
  have hul : used + (if p.taken then 0 else 1) ≤ used + 1 := by split <;> omega
  have htab := gd.tab.lay (v := (r, h)) sp
  have hhas := fun k u => sp.has (v := (r, h)) k u
  have hlen : (T.set i (.full key (r, h))).length = N := by simpa using gd.len
  have hsm : ∀ (a : Nat) k u, (T.set i (.full key (r, h)))[a]? = some (.full k u) → k.size ≤ 140737488351232 := by
    intro a k u ha
    rw [get_set sp.lt] at ha
    split at ha
    · cases ha; exact HK.out
    · exact gd.small a k u ha
  have HL := Lib.hid (lays_x (HX1.out.drewN q) (r := r) (h := h) (key := key) hil hp hnf (by omega) (by omega))
  have HN1 := Lib.hid hn1
  have HU1 := Lib.hid hu1
  have HTAB := Lib.hid htab
  have HHAS := Lib.hid hhas
  have HLEN := Lib.hid hlen
  have HSM := Lib.hid hsm
  clear sp hp c1 c2 gd hil hnf F hn1 hu1 htab hhas hlen hsm
  obtain ⟨u1, hue⟩ : ∃ u1, u1 = used + (if p.taken then 0 else 1) := ⟨_, rfl⟩
  rw [← hue] at HU1 hul
  have HUE := Lib.hid hue
  clear hue
  go_wp2_with fail
  refine HL.out.mono ?_
  rintro e w4 ⟨rfl, hx4, hu4⟩
  rw [← HUE.out] at hx4
  generalize T.set i (.full key (r, h)) = T1 at *
  obtain ⟨c0, c1, c2, c3, fr⟩ := cells4 hx4.obj
  have HX4 := Lib.hid hx4
  have HU4 := Lib.hid hu4
  clear hx4 hu4 HL
  have hcase : (2 * (u1 : Int) ≤ (N : Int)) ∨ ((N : Int) < 2 * (u1 : Int)) := by omega
  rcases hcase with hc | hc
  · have h1 : ¬ ((N : Int) < 2 * (u1 : Int)) := by omega
    go_wp2_with fail
    go_region
    go_wp2_with fail
    go_ret
    have hu2 : Upd (BX b g) w w2 := Upd.of_below HB1.out (fun k h1 h2 => by omega)
    exact ⟨rfl, g, N, T1, u1, HX4.out.drewN 1, ⟨HTAB.out, HLEN.out, HN1.out, HU1.out, by omega, hb, ht, HSM.out⟩, HHAS.out, .inl rfl, ((hu2.drewN q).trans HU4.out).drew⟩
  · have G := Lib.hid (grows_x (HX4.out.drewN 1) HTAB.out (by omega) (by omega) ht HN1.out rfl HSM.out)
    go_wp2_with fail
    go_region
    go_wp2_with fail
    refine G.out.mono ?_
    rintro e w5 ⟨rfl, T5, hx5, hg5, hu5⟩
    have HX5 := Lib.hid hx5
    have HG5 := Lib.hid hg5
    have HU5 := Lib.hid hu5
    clear hx5 hg5 hu5 G
    go_wp2_with fail
    go_ret
    have hu2 : Upd (BX b g) w w2 := Upd.of_below HB1.out (fun k h1 h2 => by omega)
    have hu4 := ((hu2.drewN q).trans HU4.out).drewN 1
    have hg5 := HG5.out
    obtain ⟨-, hh⟩ := hg5.done
    refine ⟨rfl, _, _, T5, n + 1, HX5.out, ⟨hg5.tab, hg5.len, hg5.full_, hg5.taken_, by omega, by omega, by omega, ?_⟩, fun k u => (hh k u).trans (HHAS.out k u), .inr hu4.size, hu4.then HU5.out (fun k hk e => .inl e)⟩
    intro a k u ha
    obtain ⟨c, hc2⟩ := (hh k u).1 ⟨a, ha⟩
    exact HSM.out c k u hc2
end

end Go.Proofs.YtkeicfajlmhajaaGreat.In

/- An index as a relation of keys and places, all its memory in F. -/
namespace Go.Proofs.YtkeicfajlmhajaaGreat.In
open Go Go.RowKit Go.Proofs.YtkeicfajlmhajaaGreat.K Go.Proofs.YtkeicfajlmhajaaGreat.Ix Go.Proofs.YtkeicfajlmhajaaGreat.Hb
open Go.Proofs.YtkeicfajlmhajaaGreat.Li (more more_lt)

/-- The index at b, all its memory in F: n keys; M says which key has which place. -/
def Idx (w : World) (b : Nat) (F : Nat → Prop) (M : ByteArray → V → Prop) (n : Nat) : Prop :=
  ∃ g N T used, Xa w b g N T n used ∧ Good N T n used ∧ (∀ k v, Has T k v ↔ M k v) ∧ F b ∧ F g ∧ ∀ k, F k → k < w.heap.size

section
variable {w : World} {b n : Nat} {F : Nat → Prop} {M : ByteArray → V → Prop}

theorem Idx.lt (h : Idx w b F M n) : ∀ k, F k → k < w.heap.size := by obtain ⟨g, N, T, used, _, _, _, _, _, h⟩ := h; exact h
theorem Idx.self (h : Idx w b F M n) : F b := by obtain ⟨g, N, T, used, _, _, _, h, _, _⟩ := h; exact h
theorem Idx.drewN (h : Idx w b F M n) (k : Nat) : Idx (w.drewN k) b F M n := by
  obtain ⟨g, N, T, used, h1, h2⟩ := h
  exact ⟨g, N, T, used, h1.drewN k, h2⟩
theorem Idx.upd {w' : World} {G : Nat → Prop} (h : Idx w b F M n) (hu : Upd G w w') (hG : ∀ k, F k → ¬ G k) : Idx w' b F M n := by
  obtain ⟨g, N, T, used, h1, h2, h3, h4, h5, h6⟩ := h
  exact ⟨g, N, T, used, h1.upd hu (hG b h4) (hG g h5), h2, h3, h4, h5, fun k hk => Nat.lt_of_lt_of_le (h6 k hk) hu.size⟩
theorem Idx.below {w' : World} (h : Idx w b F M n) (hb : Below w.heap.size w w') : Idx w' b F M n :=
  h.upd (Upd.of_below (F := fun _ => False) hb (fun i h1 h2 => by omega)) (fun _ _ => id)
theorem Idx.mono {G : Nat → Prop} (h : Idx w b F M n) (hG : ∀ k, F k → G k) (hlt : ∀ k, G k → k < w.heap.size) : Idx w b G M n := by
  obtain ⟨g, N, T, used, h1, h2, h3, h4, h5, h6⟩ := h
  exact ⟨g, N, T, used, h1, h2, h3, hG _ h4, hG _ h5, hlt⟩
theorem Idx.same {M' : ByteArray → V → Prop} (h : Idx w b F M n) (hM : ∀ k v, M k v ↔ M' k v) : Idx w b F M' n := by
  obtain ⟨g, N, T, used, h1, h2, h3, h4⟩ := h
  exact ⟨g, N, T, used, h1, h2, fun k v => (h3 k v).trans (hM k v), h4⟩
theorem Idx.one (h : Idx w b F M n) {k : ByteArray} {v v' : V} (h1 : M k v) (h2 : M k v') : v = v' := by
  obtain ⟨g, N, T, used, _, gd, hm, _⟩ := h
  obtain ⟨i, hi⟩ := (hm k v).2 h1
  obtain ⟨j, hj⟩ := (hm k v').2 h2
  have e := gd.tab.uniq _ _ _ _ _ hi hj
  subst e
  rw [hi] at hj
  cases hj
  rfl
theorem Idx.pos (h : Idx w b F M n) {k : ByteArray} {v : V} (h1 : M k v) : 1 ≤ n := by
  obtain ⟨g, N, T, used, _, gd, hm, _⟩ := h
  obtain ⟨i, hi⟩ := (hm k v).2 h1
  rw [← gd.n_]
  exact List.countP_pos_iff.2 ⟨_, List.mem_of_getElem? hi, rfl⟩

theorem idx_new (w : World) : Calls Tryz.prog 56 #[.int .u64 0] w fun e w' => e = .returned (.pointer (some ⟨w.heap.size + 1, 0, none⟩)) ∧
    Idx w' (w.heap.size + 1) (fun k => w.heap.size ≤ k ∧ k < w'.heap.size) (fun _ _ => False) 0 ∧ Below w.heap.size w w' := by
  refine (new_x w).mono ?_
  rintro e w' ⟨he, hx, hb⟩
  have l1 := lt_of_block hx.obj
  refine ⟨he, ⟨_, _, _, _, hx, ⟨tab_new st 8 (by omega), by simp, (count_new 8).1, (count_new 8).2, by omega, by omega, by omega, ?_⟩, fun k v => ⟨fun h => has_new 8 k v h, False.elim⟩, ⟨by omega, l1⟩, ⟨by omega, by omega⟩, fun k hk => hk.2⟩, hb⟩
  intro i k v h
  exact absurd ⟨i, h⟩ (has_new 8 k v)

theorem idx_get_yes (h : Idx w b F M n) {key : ByteArray} {r h' : Nat} (hm : M key (r, h')) :
    Calls Tryz.prog 68 #[.pointer (some ⟨b, 0, none⟩), .string key] w fun e w' => e = .returned (.tuple #[.agg #[.int .i64 (r : Int), .int .i64 (h' : Int)], .bool true]) ∧ Below w.heap.size w w' := by
  obtain ⟨g, N, T, used, h1, gd, h3, _⟩ := h
  obtain ⟨i, hi⟩ := (h3 _ _).2 hm
  exact get_yes h1 gd hi
theorem idx_get_no (h : Idx w b F M n) {key : ByteArray} (hk : key.size ≤ 140737488351232) (hm : ∀ v, ¬ M key v) :
    Calls Tryz.prog 68 #[.pointer (some ⟨b, 0, none⟩), .string key] w fun e w' => e = .returned (.tuple #[.agg #[.int .i64 0, .int .i64 0], .bool false]) ∧ Below w.heap.size w w' := by
  obtain ⟨g, N, T, used, h1, gd, h3, _⟩ := h
  exact get_no h1 gd hk (fun v hv => hm v ((h3 _ _).1 hv))
theorem idx_del_no (h : Idx w b F M n) {key : ByteArray} (hk : key.size ≤ 140737488351232) (hm : ∀ v, ¬ M key v) :
    Calls Tryz.prog 72 #[.pointer (some ⟨b, 0, none⟩), .string key] w fun e w' => e = .returned (.tuple #[.agg #[.int .i64 0, .int .i64 0], .bool false]) ∧ Below w.heap.size w w' := by
  obtain ⟨g, N, T, used, h1, gd, h3, _⟩ := h
  exact del_no h1 gd hk (fun v hv => hm v ((h3 _ _).1 hv))

def IDelPost (b : Nat) (F : Nat → Prop) (M : ByteArray → V → Prop) (m : Nat) (key : ByteArray) (r h : Nat) (w : World) (e : Ending) (w' : World) : Prop :=
  e = .returned (.tuple #[.agg #[.int .i64 (r : Int), .int .i64 (h : Int)], .bool true]) ∧ Idx w' b F (fun k v => k ≠ key ∧ M k v) m ∧ Upd F w w'

theorem idx_del_yes {m : Nat} (h : Idx w b F M (m + 1)) {key : ByteArray} {r h' : Nat} (hm : M key (r, h')) :
    Calls Tryz.prog 72 #[.pointer (some ⟨b, 0, none⟩), .string key] w (IDelPost b F M m key r h' w) := by
  obtain ⟨g, N, T, used, h1, gd, h3, h4, h5, h6⟩ := h
  obtain ⟨i, hi⟩ := (h3 _ _).2 hm
  refine (del_yes h1 gd hi).mono ?_
  rintro e w' ⟨he, hx, hu⟩
  have hil := lt_of_getElem? hi
  have c1 := countP_set (p := Pl.isFull) (y := (.gone : Pl V)) hi
  have c2 := countP_set (p := Pl.taken) (y := (.gone : Pl V)) hi
  rw [gd.n_] at c1
  rw [gd.used_] at c2
  have hU : Upd F w w' := hu.mono (fun k _ hk => by rcases hk with rfl | rfl <;> assumption)
  refine ⟨he, ⟨g, N, _, used, hx, ⟨gd.tab.del hi, by simpa using gd.len, ?_, ?_, gd.half, gd.big, gd.top, ?_⟩, ?_, h4, h5, fun k hk => Nat.lt_of_lt_of_le (h6 k hk) hU.size⟩, hU⟩
  · simp [Pl.isFull] at c1; omega
  · simp [Pl.taken] at c2; omega
  · intro a k v ha
    rw [get_set hil] at ha
    split at ha
    · cases ha
    · exact gd.small a k v ha
  · intro k v
    rw [gd.tab.has_del hi, h3]

def IPutPost (b : Nat) (F : Nat → Prop) (M : ByteArray → V → Prop) (n : Nat) (key : ByteArray) (v : V) (w : World) (e : Ending) (w' : World) : Prop :=
  e = .returned (.bool true) ∧ Idx w' b (more F w w') (fun k u => (k = key ∧ u = v) ∨ M k u) (n + 1) ∧ Upd F w w'

theorem idx_put (h : Idx w b F M n) {key : ByteArray} (hk : key.size ≤ 140737488351232) (hm : ∀ v, ¬ M key v) (hn : n ≤ 240000) {r h' : Nat} :
    Calls Tryz.prog 75 #[.pointer (some ⟨b, 0, none⟩), .string key, .agg #[.int .i64 (r : Int), .int .i64 (h' : Int)]] w (IPutPost b F M n key (r, h') w) := by
  obtain ⟨g, N, T, used, h1, gd, h3, h4, h5, h6⟩ := h
  refine (put_new h1 gd hk (fun v hv => hm v ((h3 _ _).1 hv)) hn).mono ?_
  rintro e w' ⟨he, g', N', T', used', hx, gd', hh, hg, hu⟩
  have hU : Upd F w w' := hu.mono (fun k _ hk => by rcases hk with rfl | rfl <;> assumption)
  refine ⟨he, ⟨g', N', T', used', hx, gd', fun k u => ?_, .inl h4, ?_, more_lt h6 hU.size⟩, hU⟩
  · rw [hh, h3]
  · rcases hg with rfl | hg
    · exact .inl h5
    · exact .inr ⟨hg, lt_of_block hx.row⟩
end

end Go.Proofs.YtkeicfajlmhajaaGreat.In
