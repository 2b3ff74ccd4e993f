/- The walks of package index: Put; an index over keys and places. -/
import Derived.Test.YtkeicfajlmhajaaIr
namespace Go.Proofs.Ytkeicfajlmhajaa.In
open Go Go.RowKit Go.Proofs.Ytkeicfajlmhajaa.K Go.Proofs.Ytkeicfajlmhajaa.Ix Go.Proofs.Ytkeicfajlmhajaa.Hb

section
variable {w : World} {b g N n used : Nat} {T : Tb}

/-- What Put leaves. -/
def PutPost (b g : Nat) (T : Tb) (n : Nat) (key : ByteArray) (v : V) (w : World) (e : Ending) (w' : World) : Prop :=
  e = .returned (.bool true) ∧ ∃ g' N' T' used', Xa w' b g' N' T' (n + 1) used' ∧ Good N' T' (n + 1) used' ∧ (∀ k u, Has T' k u ↔ (k = key ∧ u = v) ∨ Has T k u) ∧ (g' = g ∨ w.heap.size ≤ g') ∧ Upd (BX b g) w w'

set_option maxHeartbeats 800000 in
theorem put_new (hx : Xa w b g N T n used) (gd : Good N T n used) {key : ByteArray} (hk : key.size ≤ 140737488351232) (hno : ∀ v, ¬ Has T key v) (hn : n ≤ 240000) {r h : Nat} :
    Calls Try.prog 46 #[.pointer (some ⟨b, 0, none⟩), .string key, .agg #[.int .i64 (r : Int), .int .i64 (h : Int)]] w (PutPost b g T n key (r, h) w) := by
  have hb1 : Below w.heap.size w (w.alloc (.cells #[.int .i64 (r : Int), .int .i64 (h : Int)] 62)) := (Below.refl _ _).alloc (Nat.le_refl _) _
  have HX1 := Lib.hid (hx.below hb1)
  have F := Lib.hid (find_no HX1.out gd.tab gd.emp (by have := gd.big; omega) gd.top hk hno)
  have HA := Lib.hid (block_new w (.cells #[.int .i64 (r : Int), .int .i64 (h : Int)] 62))
  have HB1 := Lib.hid hb1
  have HG := Lib.hid gd
  have HK := Lib.hid hk
  have hbl : b ≠ w.heap.size ∧ g ≠ w.heap.size := by
    have h1 := lt_of_block hx.obj
    have h2 := lt_of_block hx.row
    omega
  clear hx gd hno hb1 hk
  go_enter Try.func46, Try.ntmps46
  go_wp2_with fail
  generalize w.alloc (.cells #[.int .i64 (r : Int), .int .i64 (h : Int)] 62) = w2 at *
  obtain ⟨a0, a1, fa⟩ := two_cells HA.out
  refine F.out.mono ?_
  rintro e w3 ⟨i, rfl, sp, q, rfl⟩
  have gd := HG.out
  have hil : i < N := by have := sp.lt; rw [gd.len] at this; exact this
  obtain ⟨p, hp, hnf⟩ : ∃ p, T[i]? = some p ∧ p.isFull = false := by
    rcases sp.open_ with e | e
    · exact ⟨_, e, rfl⟩
    · exact ⟨_, e, rfl⟩
  have hu := gd.half
  have ht := gd.top
  have hb := gd.big
  have c1 := countP_set (p := Pl.isFull) (y := .full key (r, h)) hp
  have c2 := countP_set (p := Pl.taken) (y := .full key (r, h)) hp
  rw [hnf, gd.n_] at c1
  rw [gd.used_] at c2
  have hu1 : (T.set i (.full key (r, h))).countP Pl.taken = used + if p.taken then 0 else 1 := by
    rw [show (Pl.full key (r, h) : Pl V).taken = true from rfl] at c2
    rcases Bool.eq_false_or_eq_true p.taken with e | e <;> rw [e] at c2 ⊢ <;> simp at c2 ⊢ <;> omega
  have hn1 : (T.set i (.full key (r, h))).countP Pl.isFull = n + 1 := by simpa [Pl.isFull] using c1
  have hul : used + (if p.taken then 0 else 1) ≤ used + 1 := by split <;> omega
  have htab := gd.tab.lay (v := (r, h)) sp
  have hhas := fun k u => sp.has (v := (r, h)) k u
  have hlen : (T.set i (.full key (r, h))).length = N := by simpa using gd.len
  have hsm : ∀ (a : Nat) k u, (T.set i (.full key (r, h)))[a]? = some (.full k u) → k.size ≤ 140737488351232 := by
    intro a k u ha
    rw [get_set sp.lt] at ha
    split at ha
    · cases ha; exact HK.out
    · exact gd.small a k u ha
  have HL := Lib.hid (lays_x (HX1.out.drewN q) (r := r) (h := h) (key := key) hil hp hnf (by omega) (by omega))
  have HN1 := Lib.hid hn1
  have HU1 := Lib.hid hu1
  have HTAB := Lib.hid htab
  have HHAS := Lib.hid hhas
  have HLEN := Lib.hid hlen
  have HSM := Lib.hid hsm
  clear sp hp c1 c2 gd hil hnf F hn1 hu1 htab hhas hlen hsm
  obtain ⟨u1, hue⟩ : ∃ u1, u1 = used + (if p.taken then 0 else 1) := ⟨_, rfl⟩
  rw [← hue] at HU1 hul
  have HUE := Lib.hid hue
  clear hue
  go_wp2_with fail
  refine HL.out.mono ?_
  rintro e w4 ⟨rfl, hx4, hu4⟩
  rw [← HUE.out] at hx4
  generalize T.set i (.full key (r, h)) = T1 at *
  obtain ⟨c0, c1, c2, c3, fr⟩ := cells4 hx4.obj
  have HX4 := Lib.hid hx4
  have HU4 := Lib.hid hu4
  clear hx4 hu4 HL
  have hcase : (2 * (u1 : Int) ≤ (N : Int)) ∨ ((N : Int) < 2 * (u1 : Int)) := by omega
  rcases hcase with hc | hc
  · have h1 : ¬ ((N : Int) < 2 * (u1 : Int)) := by omega
    go_wp2_with fail
    go_region
    go_wp2_with fail
    go_ret
    have hu2 : Upd (BX b g) w w2 := Upd.of_below HB1.out (fun k h1 h2 => by omega)
    exact ⟨rfl, g, N, T1, u1, HX4.out.drewN 1, ⟨HTAB.out, HLEN.out, HN1.out, HU1.out, by omega, hb, ht, HSM.out⟩, HHAS.out, .inl rfl, ((hu2.drewN q).trans HU4.out).drew⟩
  · have G := Lib.hid (grows_x (HX4.out.drewN 1) HTAB.out (by omega) (by omega) ht HN1.out rfl HSM.out)
    go_wp2_with fail
    go_region
    go_wp2_with fail
    refine G.out.mono ?_
    rintro e w5 ⟨rfl, T5, hx5, hg5, hu5⟩
    have HX5 := Lib.hid hx5
    have HG5 := Lib.hid hg5
    have HU5 := Lib.hid hu5
    clear hx5 hg5 hu5 G
    go_wp2_with fail
    go_ret
    have hu2 : Upd (BX b g) w w2 := Upd.of_below HB1.out (fun k h1 h2 => by omega)
    have hu4 := ((hu2.drewN q).trans HU4.out).drewN 1
    have hg5 := HG5.out
    obtain ⟨-, hh⟩ := hg5.done
    refine ⟨rfl, _, _, T5, n + 1, HX5.out, ⟨hg5.tab, hg5.len, hg5.full_, hg5.taken_, by omega, by omega, by omega, ?_⟩, fun k u => (hh k u).trans (HHAS.out k u), .inr hu4.size, hu4.then HU5.out (fun k hk e => .inl e)⟩
    intro a k u ha
    obtain ⟨c, hc2⟩ := (hh k u).1 ⟨a, ha⟩
    exact HSM.out c k u hc2
end

end Go.Proofs.Ytkeicfajlmhajaa.In
