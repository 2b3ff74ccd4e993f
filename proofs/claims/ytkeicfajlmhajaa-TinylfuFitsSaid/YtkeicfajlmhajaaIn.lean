/- The walks of package index (keys to places), over a table. -/
import Derived.Test.YtkeicfajlmhajaaIx
import Derived.Test.YtkeicfajlmhajaaFl
import Derived.Test.YtkeicfajlmhajaaHb
import Derived.BigRegion
import Derived.OwnWalk
import Derived.Deep.RegionHeld3
import Derived.Deep.LoopGhost
namespace Go.Proofs.Ytkeicfajlmhajaa.In
open Go Go.RowKit Go.Proofs.Ytkeicfajlmhajaa.K Go.Proofs.Ytkeicfajlmhajaa.Ix Go.Proofs.Ytkeicfajlmhajaa.Hb

abbrev V := Nat × Nat
abbrev Tb := List (Pl V)

def plc : Pl V → List Value
  | .empty => [.int .i64 0, .string ByteArray.empty, .int .i64 0, .int .i64 0]
  | .gone => [.int .i64 1, .string ByteArray.empty, .int .i64 0, .int .i64 0]
  | .full k v => [.int .i64 2, .string k, .int .i64 (v.1 : Int), .int .i64 (v.2 : Int)]
theorem pl4 (p : Pl V) : (plc p).length = 4 := by cases p <;> rfl
def pls (T : Tb) : List Value := T.flatMap plc

/-- Where a key starts. -/
def st (key : ByteArray) (n : Nat) : Nat := pl 0 key n

/-- The index at b: its table at g. -/
structure Xa (w : World) (b g N : Nat) (T : Tb) (n used : Nat) : Prop where
  obj : w.heap[b]? = some (.cells #[.int .u64 0, .slice (some ⟨g, 0, none⟩) N N, .int .i64 (n : Int), .int .i64 (used : Int)] 88 (0, 0))
  row : w.heap[g]? = some (.cells (pls T).toArray 101 (0, 0))
  len : T.length = N
  bg : b ≠ g

theorem cells4 {w : World} {b : Nat} {x y z u : Value} {T : TypeId} (h : w.heap[b]? = some (.cells #[x, y, z, u] T (0, 0))) :
    w.cell? ⟨b, 0, none⟩ = some x ∧ w.cell? ⟨b, 1, none⟩ = some y ∧ w.cell? ⟨b, 2, none⟩ = some z ∧ w.cell? ⟨b, 3, none⟩ = some u ∧ (∀ o, w.frozen? ⟨b, o, none⟩ = false) :=
  ⟨cell_of h 0, cell_of h 1, cell_of h 2, cell_of h 3, free_of h⟩

section
variable {w : World} {b g N n used : Nat} {T : Tb}
theorem Xa.drewN (h : Xa w b g N T n used) (k : Nat) : Xa (w.drewN k) b g N T n used := ⟨h.obj, h.row, h.len, h.bg⟩
theorem Xa.upd {w' : World} {F : Nat → Prop} (h : Xa w b g N T n used) (hu : Upd F w w') (h1 : ¬ F b) (h2 : ¬ F g) : Xa w' b g N T n used := ⟨hu.get h.obj h1, hu.get h.row h2, h.len, h.bg⟩
theorem Xa.below {w' : World} (h : Xa w b g N T n used) (hb : Below w.heap.size w w') : Xa w' b g N T n used :=
  h.upd (Upd.of_below (F := fun _ => False) hb (fun i h1 h2 => by omega)) id id

theorem Xa.cellj (h : Xa w b g N T n used) {i j : Nat} {p : Pl V} (hp : T[i]? = some p) (hj : j < 4) : w.cell? ⟨g, i * 4 + j, none⟩ = (plc p)[j]? := by
  rw [cell_of h.row, List.getElem?_toArray]
  exact flat_get pl4 hp hj
theorem Xa.put (h : Xa w b g N T n used) {i : Nat} {p : Pl V} (hi : i < N) {x0 x1 x2 x3 : Value} (hp : plc p = [x0, x1, x2, x3]) :
    Xa ((((w.setCell ⟨g, i * 4, none⟩ x0).setCell ⟨g, i * 4 + 1, none⟩ x1).setCell ⟨g, i * 4 + 2, none⟩ x2).setCell ⟨g, i * 4 + 3, none⟩ x3) b g N (T.set i p) n used := by
  have hl := h.len
  have hq : T[i]? = some T[i] := List.getElem?_eq_getElem (by omega)
  refine ⟨block_other h.bg (block_other h.bg (block_other h.bg (block_other h.bg h.obj))), ?_, by simpa using hl, h.bg⟩
  rw [block_setCell (block_setCell (block_setCell (block_setCell h.row)))]
  congr 2
  apply Array.ext'
  simp only [Array.toList_setIfInBounds]
  have e := flat_set (vs := [x0, x1, x2, x3]) (j := 0) pl4 (by simp) hq (by rw [hp]; simp [List.drop_of_length_le (Nat.le_of_eq (pl4 _))])
  have hf := flat_length pl4 T
  have h1 : (i + 1) * 4 ≤ T.length * 4 := Nat.mul_le_mul_right _ (by omega)
  have e4 : ∀ (l : List Value) (o : Nat) (a b c d : Value), o + 4 ≤ l.length → (((l.set o a).set (o + 1) b).set (o + 2) c).set (o + 3) d = l.take o ++ [a, b, c, d] ++ l.drop (o + 4) := by
    intro l o a b c d ho
    have g0 := List.take_append_drop o l
    have hd : (l.drop o).length = l.length - o := by simp
    match hx : l.drop o, hd with
    | [], hd => simp at hd; omega
    | [_], hd => simp at hd; omega
    | [_, _], hd => simp at hd; omega
    | [_, _, _], hd => simp at hd; omega
    | y0 :: y1 :: y2 :: y3 :: r, hd =>
      have hlt : (l.take o).length = o := by simp; omega
      have hr : l.drop (o + 4) = r := by
        rw [← List.drop_drop, hx]; rfl
      rw [hr]
      conv => lhs; rw [← g0, hx]
      have s : ∀ (k : Nat) (v : Value) (t : List Value), (l.take o ++ t).set (o + k) v = l.take o ++ t.set k v := by
        intro k v t
        rw [List.set_append_right _ _ (by omega), hlt, Nat.add_sub_cancel_left]
      have s0 := s 0 a
      rw [Nat.add_zero] at s0
      rw [s0, s 1, s 2, s 3]
      simp
  rw [e4 _ _ _ _ _ _ (by unfold pls; rw [hf]; omega)]
  exact e
theorem Xa.counts (h : Xa w b g N T n used) (n' : Nat) : Xa (w.setCell ⟨b, 2, none⟩ (.int .i64 (n' : Int))) b g N T n' used :=
  ⟨block_setCell h.obj, block_other h.bg.symm h.row, h.len, h.bg⟩
theorem Xa.useds (h : Xa w b g N T n used) (u' : Nat) : Xa (w.setCell ⟨b, 3, none⟩ (.int .i64 (u' : Int))) b g N T n u' :=
  ⟨block_setCell h.obj, block_other h.bg.symm h.row, h.len, h.bg⟩
end

/-- What a table is, besides. -/
structure Good (N : Nat) (T : Tb) (n used : Nat) : Prop where
  tab : Tab st T
  len : T.length = N
  n_ : T.countP Pl.isFull = n
  used_ : T.countP Pl.taken = used
  half : 2 * used ≤ N
  big : 8 ≤ N
  top : N ≤ 1000000
  small : ∀ (i : Nat) k v, T[i]? = some (.full k v) → k.size ≤ 140737488351232

section
variable {w : World} {b g N n used : Nat} {T : Tb}

def fr0 : Option Nat → Int
  | none => -1
  | some f => f

/-- What find leaves. -/
def FindPost (T : Tb) (key : ByteArray) (w : World) (e : Ending) (w' : World) : Prop :=
  (∃ q, w' = w.drewN q) ∧
  ((∃ (i : Nat) (v : V), e = .returned (.tuple #[.int .i64 (i : Int), .bool true]) ∧ T[i]? = some (.full key v)) ∨
   (∃ i : Nat, e = .returned (.tuple #[.int .i64 (i : Int), .bool false]) ∧ Spot st T key i))

theorem mod_next (s j N : Nat) : ((s + j) % N + 1) % N = (s + (j + 1)) % N := by
  rw [← Nat.add_assoc, Nat.add_mod (s + j) 1 N, Nat.add_mod ((s + j) % N) 1 N, Nat.mod_mod]

set_option maxHeartbeats 1600000 in
theorem find_any (h : Xa w b g N T n used) (tab : Tab st T) (hem : ∃ e : Nat, T[e]? = some .empty) (h1 : 1 ≤ N) (h2 : N ≤ 1000000) (key : ByteArray) (hk : key.size ≤ 140737488351232) :
    Calls Try.prog 66 #[.pointer (some ⟨b, 0, none⟩), .string key] w (FindPost T key w) := by
  obtain ⟨c0, c1, c2, c3, fr⟩ := cells4 h.obj
  have HH := fun w => hash_any 0 key hk w
  have PL := fun w => place_any (HF 0 key) N (HF_range 0 key) h1 (by omega) w
  have hst : (HF 0 key).toNat % N = st key N := rfl
  rw [hst] at PL
  have hs : st key N < N := Nat.mod_lt _ (by omega)
  generalize HF 0 key = hf at *
  have H := Lib.hid h
  have TB := Lib.hid tab
  have EM := Lib.hid hem
  have HL := Lib.hid h.len
  have H1 := Lib.hid HH
  have H2 := Lib.hid PL
  have P0 : Hid (Probe T (st key N) key 0 none) := Lib.hid (Probe.start _ _ _)
  have S0 : Hid ((st key N + 0) % N = st key N) := Lib.hid (by rw [Nat.add_zero, Nat.mod_eq_of_lt hs])
  clear h tab hem HH PL hst
  go_enter Try.func66, Try.ntmps66
  go_wp2_with fail
  go_region_held3 (fun w' => w'.cell? ⟨b, 0, none⟩ = some (.int .u64 0) ∧ w'.cell? ⟨b, 1, none⟩ = some (.slice (some ⟨g, 0, none⟩) N N))
    (first | (go_keep; done) | assumption)
    (first | (go_at_call 77; refine (H1.out _).mono ?_; rintro e w1 ⟨rfl, rfl⟩) | (go_at_call 76; refine (H2.out _).mono ?_; rintro e w1 ⟨rfl, rfl⟩))
  go_wp2_with fail
  go_loopg [6, 7] N (fun k v6 v7 wr => w.drew = wr ∧ ∃ (j : Nat) (free : Option Nat), j ≤ N ∧ k = N - j ∧ v7 = .int .i64 (((st key N + j) % N : Nat) : Int) ∧ v6 = .int .i64 (fr0 free) ∧ Probe T (st key N) key j free)
  case atStart => exact ⟨rfl, 0, none, by omega, by omega, by rw [S0.out], rfl, P0.out⟩
  case round =>
    clear P0 S0
    obtain ⟨rfl, j, free, hj, hgk, rfl, rfl, hpr⟩ := hrel
    have hjl : j < N := by
      obtain ⟨e, he⟩ := EM.out
      have := hpr.lt he
      rw [HL.out] at this
      exact this
    have hil : (st key N + j) % N < N := Nat.mod_lt _ (by omega)
    have HMN := Lib.hid (mod_next (st key N) j N)
    obtain ⟨p, hp⟩ : ∃ p, T[(st key N + j) % N]? = some p := ⟨_, List.getElem?_eq_getElem (by rw [HL.out]; exact hil)⟩
    have k0 := H.out.cellj hp (j := 0) (by omega)
    have k1 := H.out.cellj hp (j := 1) (by omega)
    rw [Nat.add_zero] at k0
    have HPR := Lib.hid hpr
    have HLE : Hid (st key T.length = st key N ∧ T.length = N) := Lib.hid (by rw [HL.out]; exact ⟨rfl, rfl⟩)
    obtain ⟨i, hi⟩ : ∃ i, i = (st key N + j) % N := ⟨_, rfl⟩
    rw [← hi] at k0 k1 hp hil HMN ⊢
    have HI := Lib.hid hi
    have HPP := Lib.hid hp
    have HGK := Lib.hid hgk
    have z0 : (0 : Int) ≤ (i : Int) := by omega
    have z1 : (i : Int) < (N : Int) := by omega
    have e1 : wrap64 (((i : Int) + 1).tmod (N : Int)) = (((i + 1) % N : Nat) : Int) := by
      have hm := Nat.mod_lt (i + 1) (show N > 0 by omega)
      have e : ((i : Int) + 1).tmod (N : Int) = (((i + 1) % N : Nat) : Int) := by
        rw [Int.tmod_eq_emod_of_nonneg (by omega)]; simp
      rw [e]
      generalize (i + 1) % N = r at *
      unfold wrap64; omega
    have E1 := Lib.hid e1
    have EN : Hid ((((i : Int) + 1) % (N : Int)) = (((st key N + (j + 1)) % N : Nat) : Int)) := Lib.hid (by
      rw [← HMN.out]; simp)
    clear hpr hi hp hgk e1
    cases p with
    | empty =>
      have k0' : w.cell? ⟨g, i * 4, none⟩ = some (.int .i64 0) := k0
      clear k0 k1
      have HE : Hid (T[(st key T.length + j) % T.length]? = some .empty) := Lib.hid (by rw [HLE.out.1, HLE.out.2, ← HI.out]; exact HPP.out)
      have HQ : Hid (Probe T (st key T.length) key j free) := Lib.hid (by rw [HLE.out.1]; exact HPR.out)
      cases free with
      | none =>
        rw [show fr0 none = -1 from rfl]
        go_wp2_with fail
        go_ret2
        refine ⟨⟨1, rfl⟩, .inr ⟨i, rfl, ?_⟩⟩
        have := HQ.out.spot_here TB.out HE.out
        rw [HLE.out.1, HLE.out.2, ← HI.out] at this
        exact this
      | some f =>
        rw [show fr0 (some f) = (f : Int) from rfl]
        have t1 : decide ((f : Int) < 0) = false := by simp
        go_wp2_with fail
        go_ret2
        exact ⟨⟨1, rfl⟩, .inr ⟨f, rfl, HQ.out.spot_free TB.out HE.out⟩⟩
    | gone =>
      have k0' : w.cell? ⟨g, i * 4, none⟩ = some (.int .i64 1) := k0
      clear k0 k1
      have HG : Hid (T[(st key N + j) % T.length]? = some .gone) := Lib.hid (by rw [HLE.out.2, ← HI.out]; exact HPP.out)
      cases free with
      | none =>
        rw [show fr0 none = -1 from rfl]
        have HN := Lib.hid (HPR.out.gone_first HG.out)
        go_wp2_with fail
        go_roundg (N - (j + 1))
        case measure => have := HGK.out; omega
        case rel =>
          have h1 := HN.out
          rw [HLE.out.2, ← HI.out] at h1
          exact ⟨rfl, j + 1, some i, by omega, rfl, by rw [EN.out], rfl, h1⟩
      | some f =>
        rw [show fr0 (some f) = (f : Int) from rfl]
        have t1 : decide ((f : Int) < 0) = false := by simp
        have HN := Lib.hid (HPR.out.gone_more HG.out)
        go_wp2_with fail
        go_roundg (N - (j + 1))
        case measure => have := HGK.out; omega
        case rel => exact ⟨rfl, j + 1, some f, by omega, rfl, by rw [EN.out], rfl, HN.out⟩
    | full k v =>
      have k0' : w.cell? ⟨g, i * 4, none⟩ = some (.int .i64 2) := k0
      have k1' : w.cell? ⟨g, i * 4 + 1, none⟩ = some (.string k) := k1
      clear k0 k1
      by_cases hke : k = key
      · subst hke
        go_wp2_with fail
        go_ret2
        exact ⟨⟨1, rfl⟩, .inl ⟨i, v, rfl, HPP.out⟩⟩
      · have t0 : (k.toList == key.toList) = false := by
          rw [beq_eq_false_iff_ne]
          intro e
          rw [ByteArray.toList_eq, ByteArray.toList_eq] at e
          exact hke (ByteArray.ext (Array.toList_inj.1 e))
        have HN := Lib.hid (HPR.out.full (by rw [HLE.out.2, ← HI.out]; exact HPP.out) hke)
        have HKE := Lib.hid hke
        clear hke
        go_wp2_with fail
        go_roundg (N - (j + 1))
        case measure => have := HGK.out; omega
        case rel => exact ⟨rfl, j + 1, free, by omega, rfl, by rw [EN.out], rfl, HN.out⟩
end

end Go.Proofs.Ytkeicfajlmhajaa.In
