/- Package list: Remove, All. -/
import Derived.Test.YtkeicfajlmhajaaLk
import Derived.Deep.LoopGhost
namespace Go.Proofs.Ytkeicfajlmhajaa.Li
open Go Go.RowKit Go.Proofs.Ytkeicfajlmhajaa.K Go.Proofs.Ytkeicfajlmhajaa.Ar

theorem infoI : (Try.prog.info? 3).map (fun i => (i.zero, i.size, i.bytes)) = some (some (.int .i64 0), 1, 8) := by kernel_rfl

section
variable {w : World} {b g cap N n : Nat} {vf : Value} {L : List Lk} {free : List Nat}

/-- Behind the append to the free places. -/
theorem free_facts {i f' cf' : Nat} {w1 : World} {x : Obj} (h : La w b g vf cap N L free n) (hg : (w.alloc x).grownBy w1 vf.ownBlock) (hat : vf.ownBlock = some f' ∨ f' = w.heap.size + 1)
    (hown : w1.ownsRow 0 3 1 (.slice (some ⟨f', 0, none⟩) (free.length + 1) cf') (free.length + 1) (nts free ++ [.int .i64 (i : Int)])) :
    La (w1.setCell ⟨b, 1, none⟩ (.slice (some ⟨f', 0, none⟩) (free.length + 1) cf')) b g (.slice (some ⟨f', 0, none⟩) (free.length + 1) cf') cap N L (free ++ [i]) n ∧ (vf.ownBlock = some f' ∨ w.heap.size ≤ f') ∧
    w1.cell? ⟨b, 0, none⟩ = some (.slice (some ⟨g, 0, none⟩) N cap) ∧ w1.cell? ⟨b, 1, none⟩ = some vf ∧ w1.cell? ⟨b, 2, none⟩ = some (.int .i64 (n : Int)) ∧ (∀ o, w1.frozen? ⟨b, o, none⟩ = false) ∧ Upd (Fp b g vf) w w1 := by
  have hgw := grown_al hg
  have hb1 : w1.heap[b]? = _ := (hgw.block b (lt_of_block h.obj) (fun e => h.bf e.symm)).trans h.obj
  obtain ⟨d0, d1, d2, dfr⟩ := cells3 hb1
  have hr := h.row.kept hgw (.inr (by intro e; exact h.gf (by rw [← e]; rfl)))
  have hat' : vf.ownBlock = some f' ∨ w.heap.size ≤ f' := hat.imp id (fun e => by omega)
  have gl := h.lt g (.inr (.inl rfl))
  have bl := lt_of_block h.obj
  have nb : f' ≠ b := by
    rintro rfl
    rcases hat' with e | e
    · exact h.bf e
    · omega
  have ng : f' ≠ g := by
    rintro rfl
    rcases hat' with e | e
    · exact h.gf e
    · omega
  refine ⟨⟨block_setCell hb1, ownsRow_setCell_other hr (by simpa [Value.ownBlock] using h.bg.symm) _, ?_, h.len, h.bg, by simpa [Value.ownBlock] using nb, by simpa [Value.ownBlock] using ng⟩, hat', d0, d1, d2, dfr,
    (Upd.of_grown hgw).mono (fun k _ hk => .inr (.inr hk))⟩
  have e : nts (free ++ [i]) = nts free ++ [.int .i64 (i : Int)] := by simp [nts]
  rw [e, List.length_append]
  exact ownsRow_setCell_other hown (by simpa [Value.ownBlock] using nb) _
end

section
variable {w : World} {b : Nat} {F : Nat → Prop}

/-- What Remove leaves. -/
def RemPost (b : Nat) (F : Nat → Prop) (xs : List (Nat × ByteArray)) (v : ByteArray) (w : World) (e : Ending) (w' : World) : Prop :=
  e = .returned (.tuple #[.string v, .bool true]) ∧ Lst w' b (more F w w') xs ∧ Upd F w w'

set_option maxHeartbeats 800000 in
theorem lst_remove {p s : List (Nat × ByteArray)} {x : Nat × ByteArray} (h : Lst w b F (p ++ x :: s)) :
    Calls Try.prog 54 #[.pointer (some ⟨b, 0, none⟩), .int .i64 (x.1 : Int)] w (RemPost b F (p ++ s) x.2 w) := by
  have G := Lib.hid (lst_get h (x := x) (by simp))
  obtain ⟨g, vf, cap, L, free, h1, h2, h3, h4, h5, h6⟩ := h
  obtain ⟨t1, t2, t3⟩ := there h2 (x := x) (by simp)
  rw [List.map_append, List.map_cons] at h2
  obtain ⟨e1, e2, l1, l2, -⟩ := h2.lifts
  obtain ⟨k1, k2⟩ := h2.remove
  have LF := Lib.hid (lifts_ h1 t2 l1 l2)
  have hfl : free.length ≤ 100000 := by have := h2.size; omega
  have hlen : (p ++ x :: s).length = (p ++ s).length + 1 := by simp; omega
  have hlen2 : (p ++ s).length ≤ 100000 := by have := h2.size; simp at this ⊢; omega
  have K1 := Lib.hid k1
  have K2 := Lib.hid k2
  have H3 := Lib.hid h3
  have H5 := Lib.hid h5
  have H6 := Lib.hid h6
  have hrm : Hid (removed L x.1 = (lifts L x.1).set x.1 Lk.zero) := Lib.hid rfl
  rw [hlen] at LF
  obtain ⟨i0, hi0, hz0, hz1, hz2⟩ := info_parts infoI
  generalize hm : (p ++ s).length = m at *
  have HM := Lib.hid hm
  have hvx : Hid ((at' L x.1).v = x.2) := Lib.hid (h3 x (by simp))
  generalize x.2 = v at *
  obtain ⟨i, hi⟩ : ∃ i, i = x.1 := ⟨_, rfl⟩
  rw [← hi] at G LF K1 K2 hrm t1 t2 ⊢
  have HI := Lib.hid hi
  obtain ⟨N, hN⟩ : ∃ N, N = L.length := ⟨_, rfl⟩
  rw [← hN] at LF t2 h4
  have HNN := Lib.hid hN
  have y0 : (0 : Int) ≤ (i : Int) := by omega
  have y1 : (i : Int) < (N : Int) := by omega
  clear h1 h2 h3 h5 h6 e1 e2 l1 l2 k1 k2 t1 t3 hlen hm hi hN
  go_enter Try.func54, Try.ntmps54
  go_wp2_with (go_at_call 49; refine G.out.mono ?_; rintro e w' ⟨rfl, rfl⟩)
  refine LF.out.mono ?_
  rintro e w1 ⟨rfl, hla, hu⟩
  obtain ⟨c0, c1, c2, fr⟩ := cells3 hla.obj
  obtain ⟨j0, j1, j2, j3⟩ := hla.cells t2
  have fg := hla.free_
  have bg := hla.bg
  have hpt := hla.put (i := i) Lk.zero t2
  rw [← hrm.out] at hpt
  have HPT := Lib.hid hpt
  have HU := Lib.hid hu
  clear hla hpt hu G LF
  have e1 : ((m + 1 : Nat) : Int) - 1 = (m : Int) := by omega
  go_wp2_with (at_builtin; refine wpList_append_lies _ rfl _ _ 76 rfl 0 3 i0 (.int .i64 0) 1 8 Try.underlying76 hi0 hz0 hz1 hz2 rfl (by decide) vf free.length (nts free) rfl (HPT.out.fr.alloc _) ⟨w1.heap.size, 0, none⟩ 1 1 [.int .i64 (i : Int)] rfl rfl (World.news_of_block (cs := #[.int .i64 (i : Int)]) (block_new' (by simp) _)) (by simp [Value.oneCell']) (by omega) (by unfold maxLen; omega) (by omega) (by omega) (w1.heap.size + 1) (by simp) ?_; intro f' cf' w3 hown hgr hat hlt; obtain ⟨hla, hat', d0, d1, d2, dfr, hu3⟩ := free_facts HPT.out hgr (hat.imp id (fun e => by rw [e]; simp)) hown; have HLA := Lib.hid hla; have HAT := Lib.hid hat'; have HU3 := Lib.hid hu3; clear hla hat' hu3 hat hown hgr hlt)
  go_ret2
  have hend := HLA.out.count m
  have hg : Fp b g vf g := .inr (.inl rfl)
  have hb' : Fp b g vf b := .inl rfl
  have u1 : Upd (Fp b g vf) w w1 := HU.out.mono (fun k _ hk => .inr (.inl hk))
  have u2 := (((u1.setCell (p := ⟨g, i * 4, none⟩) (.inl hg) (.string Lk.zero.v)).setCell (p := ⟨g, i * 4 + 1, none⟩) (.inl hg) (.int .i64 (Lk.zero.prev : Int))).setCell (p := ⟨g, i * 4 + 2, none⟩) (.inl hg) (.int .i64 (Lk.zero.next : Int))).setCell (p := ⟨g, i * 4 + 3, none⟩) (.inl hg) (.bool Lk.zero.there)
  have u3 := ((u2.trans HU3.out).setCell (p := ⟨b, 1, none⟩) (.inl hb') (.slice (some ⟨f', 0, none⟩) (free.length + 1) cf')).setCell (p := ⟨b, 2, none⟩) (.inl hb') (.int .i64 (m : Int))
  have hU := u3.mono (fun k _ hk => H5.out k hk)
  have hs2 := u2.size
  have hrl : (removed L i).length = L.length := by rw [hrm.out]; simp
  refine ⟨rfl, ⟨g, .slice (some ⟨f', 0, none⟩) (free.length + 1) cf', cap, removed L i, free ++ [i], ?_, ?_, ?_, ?_, ?_, more_lt H6.out hU.size⟩, hU⟩
  · rw [hrl, ← HNN.out, HM.out]; exact hend
  · rw [List.map_append]; exact K1.out
  · intro y hy
    have hy' : y ∈ p ++ x :: s := by
      rcases List.mem_append.1 hy with e | e
      · exact List.mem_append_left _ e
      · exact List.mem_append_right _ (List.mem_cons_of_mem _ e)
    rw [← H3.out y hy']
    refine K2.out _ ?_
    rw [← List.map_append]
    exact List.mem_map_of_mem hy
  · rw [hrl, ← HNN.out]; exact h4
  · rintro k (rfl | rfl | hk)
    · exact .inl (H5.out _ hb')
    · exact .inl (H5.out _ hg)
    · rcases HAT.out with e | e
      · have : f' = k := by simpa [Value.ownBlock] using hk
        subst this
        exact .inl (H5.out _ (.inr (.inr e)))
      · have hk2 := hend.lt k (.inr (.inr hk))
        have : f' = k := by simpa [Value.ownBlock] using hk
        subst this
        exact .inr ⟨Nat.le_trans hs2 e, hk2⟩

/-- What All leaves. -/
def AllPost (xs : List (Nat × ByteArray)) (w : World) (e : Ending) (w' : World) : Prop :=
  ∃ v, e = .returned v ∧ w'.ownsRow w.heap.size 9 1 v xs.length (xs.map fun x => Value.string x.2) ∧ Below w.heap.size w w' ∧ (xs = [] → v = .slice none 0 0)

theorem infoS : (Try.prog.info? 9).map (fun i => (i.zero, i.size, i.bytes)) = some (some (.string ByteArray.empty), 1, 16) := by kernel_rfl

theorem own_form' {w : World} {B e size n : Nat} {v : Value} {xs : List Value} (h : w.ownsRow B e size v n xs) : ∃ A c, v = .slice A n c := by
  rcases h.2 with ⟨rfl, h0⟩ | ⟨g, cap, cur, rfl, _⟩
  · exact ⟨none, 0, by rw [h0]⟩
  · exact ⟨_, _, rfl⟩

set_option maxHeartbeats 800000 in
theorem lst_all {xs : List (Nat × ByteArray)} (h : Lst w b F xs) : Calls Try.prog 52 #[.pointer (some ⟨b, 0, none⟩)] w (AllPost xs w) := by
  have FR := Lib.hid (lst_front h)
  obtain ⟨i0, hi0, hz0, hz1, hz2⟩ := info_parts infoS
  have H := Lib.hid h
  have hx : xs.length ≤ 100000 := by
    obtain ⟨g, vf, cap, L, free, h1, h2, h3, h4, h5, h6⟩ := h
    have := h2.size
    simp at this
    omega
  clear h
  go_enter Try.func52, Try.ntmps52
  go_wp2_with (go_at_call 50; refine FR.out.mono ?_; rintro e w' ⟨rfl, rfl⟩)
  go_loopg [3, 4] xs.length (fun k v3 v4 wr => ∃ p s, xs = p ++ s ∧ k = s.length ∧ v4 = .int .i64 (hdl s : Int) ∧ wr.ownsRow w.heap.size 9 1 v3 p.length (p.map fun x => Value.string x.2) ∧ Below w.heap.size w wr ∧ (p = [] → v3 = .slice none 0 0))
  case atStart => exact ⟨[], xs, rfl, rfl, rfl, World.ownsRow_nil _ _ _ _, Below.refl _ _, fun _ => rfl⟩
  case round =>
    obtain ⟨p, s, hxs, hk, rfl, ho, hb, hnil⟩ := hrel
    obtain ⟨gA, gc, rfl⟩ := own_form' ho
    have HO := Lib.hid ho
    have HB := Lib.hid hb
    have HBS := Lib.hid hb.size
    have HXS := Lib.hid hxs
    have HNIL := Lib.hid hnil
    clear ho hb hxs hnil
    cases s with
    | nil =>
      have e : hdl [] = 0 := rfl
      rw [e]
      go_wp2_with fail
      go_ret
      have h1 := HXS.out
      rw [List.append_nil] at h1
      subst h1
      exact ⟨_, rfl, HO.out, HB.out, HNIL.out⟩
    | cons x s =>
      have e : hdl (x :: s) = x.1 := rfl
      rw [e]
      have hp : x.1 ≠ 0 := H.out.pos x (by rw [HXS.out]; simp)
      have hl := H.out.below HB.out
      obtain ⟨g, cap, N, c0, k0, hlt⟩ := lst_cell hl (x := x) (by rw [HXS.out]; simp)
      have hpl : p.length ≤ 100000 := by rw [HXS.out] at hx; simp at hx; omega
      have NX := Lib.hid (fun (w2 : World) (hb2 : Below w.heap.size w w2) => lst_next (p := p) (s := s) (x := x) (w := w2) (b := b) (F := F) (by rw [← HXS.out]; exact H.out.below hb2))
      obtain ⟨i, hi⟩ : ∃ i, i = x.1 := ⟨_, rfl⟩
      rw [← hi] at hp k0 hlt NX ⊢
      have HI := Lib.hid hi
      have t1 : ((i : Int) != 0) = true := by simp; omega
      have z0 : (0 : Int) ≤ (i : Int) := by omega
      have z1 : (i : Int) < (N : Int) := by omega
      clear hl hi e hp
      go_wp2_with (at_builtin; refine wpList_append_lies _ rfl _ _ 22 rfl w.heap.size 9 i0 (.string ByteArray.empty) 1 16 Try.underlying22 hi0 hz0 hz1 hz2 rfl (by decide) (.slice gA p.length gc) p.length _ rfl (HO.out.alloc _) ⟨wr.heap.size, 0, none⟩ 1 1 [.string x.2] rfl rfl (World.news_of_block (cs := #[.string x.2]) (heap_alloc_new wr _)) (by simp [Value.oneCell']) (by omega) (by unfold maxLen; omega) (by omega) (by simp; have := HBS.out; omega) (wr.heap.size + 1) (by simp) ?_; intro f' cf' w3 hown hgr hat hlt3; have hb3 := HB.out.grown (grown_al hgr) HBS.out (fun g hg => (HO.out.lt g hg).1); have HO3 := Lib.hid hown; have HB3 := Lib.hid hb3; clear hown hgr hat hlt3 hb3)
      refine (NX.out _ HB3.out).mono ?_
      rintro e w4 ⟨rfl, rfl⟩
      go_wp2_with fail
      go_roundg s.length
      case measure => rw [hk]; simp
      case rel => exact ⟨p ++ [x], s, by rw [HXS.out]; simp, rfl, rfl, by simpa using HO3.out, HB3.out, fun e => by simp at e⟩
end

end Go.Proofs.Ytkeicfajlmhajaa.Li
