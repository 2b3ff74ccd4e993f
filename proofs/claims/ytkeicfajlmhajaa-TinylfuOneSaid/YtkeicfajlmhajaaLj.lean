/- The walks of package list: lifts, take. -/
import Derived.Test.YtkeicfajlmhajaaLi
namespace Go.Proofs.Ytkeicfajlmhajaa.Li
open Go Go.RowKit Go.Proofs.Ytkeicfajlmhajaa.K Go.Proofs.Ytkeicfajlmhajaa.Ar

section
variable {w : World} {b g cap N n : Nat} {vf : Value} {L : List Lk} {free : List Nat}

theorem lifts_ (h : La w b g vf cap N L free n) {i : Nat} (hi : i < N) (hp : (at' L i).prev < N) (hq : (at' L i).next < N) :
    Calls Try.prog 73 #[.pointer (some ⟨b, 0, none⟩), .int .i64 (i : Int)] w fun e w' =>
      e = .returned (.tuple #[]) ∧ La w' b g vf cap N (lifts L i) free n ∧ Upd (· = g) w w' := by
  obtain ⟨c0, c1, c2, fr⟩ := cells3 h.obj
  obtain ⟨i0, i1, i2, i3⟩ := h.cells hi
  have bg := h.bg
  have y0 : (0 : Int) ≤ (i : Int) := by omega
  have y1 : (i : Int) < (N : Int) := by omega
  have H := Lib.hid h
  have HL : Hid (lifts L i = setPrev (setNext L (at' L i).prev (at' L i).next) (at' L i).next (at' L i).prev) := Lib.hid rfl
  obtain ⟨p0, p1, p2, p3⟩ := h.cells hp
  obtain ⟨q0, q1, q2, q3⟩ := h.cells hq
  have fg := h.free_
  generalize (at' L i).prev = p at *
  generalize (at' L i).next = q at *
  have x0 : (0 : Int) ≤ (p : Int) := by omega
  have x1 : (p : Int) < (N : Int) := by omega
  have v0 : (0 : Int) ≤ (q : Int) := by omega
  have v1 : (q : Int) < (N : Int) := by omega
  clear h
  go_enter Try.func73, Try.ntmps73
  go_wp2_with fail
  go_quiet (fail)
  go_wp2_with fail
  go_region_held3 (fun w' => w'.cell? ⟨b, 0, none⟩ = some (.slice (some ⟨g, 0, none⟩) N cap))
    (first | (go_keep; done) | exact far_set bg (by assumption) | exact far_set' bg (by assumption) | exact far_set bg (far_set' bg c0) | exact far_set' bg (far_set' bg c0))
    (fail)
  go_wp2_with fail
  go_end0
  rw [HL.out]
  exact ⟨rfl, ((H.out.drewN _).next hp).prev hq, (((Upd.refl _ w).drewN _).setB).setB⟩

/-- A link is written whole. -/
theorem La.put (h : La w b g vf cap N L free n) {i : Nat} (k : Lk) (hi : i < N) :
    La ((((w.setCell ⟨g, i * 4, none⟩ (.string k.v)).setCell ⟨g, i * 4 + 1, none⟩ (.int .i64 (k.prev : Int))).setCell ⟨g, i * 4 + 2, none⟩ (.int .i64 (k.next : Int))).setCell ⟨g, i * 4 + 3, none⟩ (.bool k.there))
      b g vf cap N (L.set i k) free n := by
  have hl := h.len
  have s : ∀ (M : List Lk) (x y : Lk), M = L.set i x → M.length = N → at' M i = x ∧ M.set i y = L.set i y := fun M x y hM hMl => by
    subst hM
    exact ⟨by rw [at_set (by omega), if_pos rfl], by rw [List.set_set]⟩
  have h1 := h.set1 (j := 0) (u := .string k.v) (k' := ⟨k.v, (at' L i).prev, (at' L i).next, (at' L i).there⟩) hi (by omega) rfl
  obtain ⟨a1, b1⟩ := s _ _ ⟨k.v, k.prev, (at' L i).next, (at' L i).there⟩ rfl h1.len
  have h2 := h1.set1 (j := 1) (u := .int .i64 (k.prev : Int)) (k' := ⟨k.v, k.prev, (at' L i).next, (at' L i).there⟩) hi (by omega) (by rw [a1]; rfl)
  rw [b1] at h2
  obtain ⟨a2, b2⟩ := s _ _ ⟨k.v, k.prev, k.next, (at' L i).there⟩ rfl h2.len
  have h3 := h2.set1 (j := 2) (u := .int .i64 (k.next : Int)) (k' := ⟨k.v, k.prev, k.next, (at' L i).there⟩) hi (by omega) (by rw [a2]; rfl)
  rw [b2] at h3
  obtain ⟨a3, b3⟩ := s _ _ k rfl h3.len
  have h4 := h3.set1 (j := 3) (u := .bool k.there) (k' := k) hi (by omega) (by rw [a3]; rfl)
  rw [b3] at h4
  exact h4

theorem La.count (h : La w b g vf cap N L free n) (n' : Nat) : La (w.setCell ⟨b, 2, none⟩ (.int .i64 (n' : Int))) b g vf cap N L free n' :=
  ⟨block_setCell h.obj, ownsRow_setCell_other h.row (by simpa [Value.ownBlock] using h.bg.symm) _, ownsRow_setCell_other h.fr h.bf _, h.len, h.bg, h.bf, h.gf⟩

theorem nts_dropLast (l : List Nat) (m : Nat) (hm : l.length = m + 1) : (nts l).take (m * 1) = nts l.dropLast := by
  unfold nts
  rw [Nat.mul_one, List.dropLast_eq_take, hm, Nat.add_sub_cancel, List.map_take]

theorem La.cutfree {gf cf m : Nat} (h : La w b g (.slice (some ⟨gf, 0, none⟩) (m + 1) cf) cap N L free n) (hm : free.length = m + 1) :
    La (w.setCell ⟨b, 1, none⟩ (.slice (some ⟨gf, 0, none⟩) m cf)) b g (.slice (some ⟨gf, 0, none⟩) m cf) cap N L free.dropLast n := by
  have hd : free.dropLast.length = m := by simp [hm]
  have hf := h.fr
  rw [hm] at hf
  have hc := own_cut hf (m := m) (by omega)
  rw [nts_dropLast _ _ hm] at hc
  refine ⟨block_setCell h.obj, ownsRow_setCell_other h.row (by simpa [Value.ownBlock] using h.bg.symm) _, ?_, h.len, h.bg, h.bf, h.gf⟩
  rw [hd]
  exact ownsRow_setCell_other hc (by simpa [Value.ownBlock] using h.bf) _

theorem infoL : (Try.prog.info? 105).map (fun i => (i.zero, i.size, i.bytes)) = some (some (.agg #[.string ByteArray.empty, .int .i64 0, .int .i64 0, .bool false]), 4, 40) := by kernel_rfl

/-- What take leaves. -/
def TakePost (b g : Nat) (vf : Value) (n : Nat) (L : List Lk) (free : List Nat) (v : ByteArray) (w : World) (e : Ending) (w' : World) : Prop :=
  e = .returned (.int .i64 ((took L free v).1 : Int)) ∧ ∃ g' vf' cap', La w' b g' vf' cap' (took L free v).2.1.length (took L free v).2.1 (took L free v).2.2 (n + 1) ∧
    (g' = g ∨ w.heap.size ≤ g') ∧ (∀ k, vf'.ownBlock = some k → vf.ownBlock = some k) ∧ Upd (Fp b g vf) w w'

theorem took_some {i : Nat} (v : ByteArray) (hf : free.getLast? = some i) : took L free v = (i, L.set i (fresh v), free.dropLast) := by unfold took; rw [hf]
theorem took_none (v : ByteArray) (hf : free = []) : took L free v = (L.length, L ++ [fresh v], []) := by subst hf; rfl

theorem take_old (h : La w b g vf cap N L free n) (v : ByteArray) {i : Nat} (hf : free.getLast? = some i) (hi : i < N) (hn : n ≤ 1000000) (hfl : free.length ≤ 1000000) :
    Calls Try.prog 69 #[.pointer (some ⟨b, 0, none⟩), .string v] w (TakePost b g vf n L free v w) := by
  have hpos : 0 < free.length := by
    cases free with
    | nil => simp at hf
    | cons x l => simp
  obtain ⟨gf, cf, rfl⟩ : ∃ gf cf, vf = .slice (some ⟨gf, 0, none⟩) free.length cf := by
    rcases h.fr.2 with ⟨_, h0⟩ | ⟨g', cap', cur, hv, _⟩
    · omega
    · exact ⟨g', cap', hv⟩
  have hfc : w.cell? ⟨gf, free.length - 1, none⟩ = some (.int .i64 (i : Int)) := by
    have := h.fr.cells (g := gf) rfl (free.length - 1) (.int .i64 (i : Int)) (by
      unfold nts
      rw [List.getElem?_map, ← List.getLast?_eq_getElem?, hf]; rfl)
    rw [add_pl, Nat.zero_add] at this
    exact this
  obtain ⟨c0, c1, c2, fr⟩ := cells3 h.obj
  obtain ⟨i0, i1, i2, i3⟩ := h.cells hi
  have fg := h.free_
  have bg := h.bg
  obtain ⟨m, hm⟩ : ∃ m, free.length = m + 1 := ⟨free.length - 1, by omega⟩
  have H := Lib.hid h
  have HM := Lib.hid hm
  have HT := Lib.hid (took_some (L := L) v hf)
  rw [hm, Nat.add_sub_cancel] at hfc
  rw [hm] at c1
  have y0 : (0 : Int) ≤ (i : Int) := by omega
  have y1 : (i : Int) < (N : Int) := by omega
  have e1 : ((m + 1 : Nat) : Int) - 1 = (m : Int) := by omega
  have z0 : (0 : Int) ≤ (m : Int) := by omega
  have z1 : (m : Int) < ((m + 1 : Nat) : Int) := by omega
  have z2 : (m : Int) ≤ (cf : Int) := by
    obtain ⟨cur, _, h1, _⟩ := own_block h.fr
    omega
  rw [hm] at hfl
  clear h hf hpos hm
  go_enter Try.func69, Try.ntmps69
  go_wp2_with fail
  go_ret
  have h := H.out
  have hm := HM.out
  rw [hm] at h
  have h1 := ((h.cutfree hm).put (fresh v) hi).count (n + 1)
  unfold TakePost
  rw [HT.out]
  refine ⟨rfl, g, .slice (some ⟨gf, 0, none⟩) m cf, cap, ?_, .inl rfl, fun k hk => by simpa [Value.ownBlock] using hk, ?_⟩
  · show La _ b g _ cap (L.set i (fresh v)).length _ _ _
    rw [List.length_set, h.len]
    exact h1
  have u1 : Upd (Fp b g (.slice (some ⟨gf, 0, none⟩) (m + 1) cf)) w (w.setCell ⟨b, 1, none⟩ (.slice (some ⟨gf, 0, none⟩) m cf)) := (Upd.refl _ w).setCell (.inl (.inl rfl)) _
  rw [hm]
  exact ((((u1.setCell (p := ⟨g, i * 4, none⟩) (.inl (.inr (.inl rfl))) _).setCell (p := ⟨g, i * 4 + 1, none⟩) (.inl (.inr (.inl rfl))) _).setCell (p := ⟨g, i * 4 + 2, none⟩) (.inl (.inr (.inl rfl))) _).setCell
    (p := ⟨g, i * 4 + 3, none⟩) (.inl (.inr (.inl rfl))) _).setCell (p := ⟨b, 2, none⟩) (.inl (.inl rfl)) _

theorem lk_zero : lkc Lk.zero = [.string ByteArray.empty, .int .i64 0, .int .i64 0, .bool false] := rfl

/-- The arena has a new place. -/
theorem La.grow {g' cap' : Nat} {w1 : World} (h : La w b g vf cap N L free n) (hg : w.grownBy w1 (some g)) (hat : g' = g ∨ w.heap.size ≤ g')
    (hown : w1.ownsRow 0 105 4 (.slice (some ⟨g', 0, none⟩) (N + 1) cap') (N + 1) (lks L ++ lkc Lk.zero)) :
    La (w1.setCell ⟨b, 0, none⟩ (.slice (some ⟨g', 0, none⟩) (N + 1) cap')) b g' vf cap' (N + 1) (L ++ [Lk.zero]) free n := by
  have hlt := lt_of_block h.obj
  have hb1 : w1.heap[b]? = _ := (hg.block b hlt (by simpa using h.bg)).trans h.obj
  have hb2 : b ≠ g' := by
    rcases hat with e | e
    · rw [e]; exact h.bg
    · omega
  have hf1 := h.fr.kept hg (.inr h.gf)
  have hf2 : vf.ownBlock ≠ some g' := by
    rcases hat with e | e
    · rw [e]; exact h.gf
    · intro e2; have := (h.fr.lt _ e2).2; omega
  refine ⟨block_setCell hb1, ?_, ownsRow_setCell_other hf1 h.bf _, by simp [h.len], hb2, h.bf, hf2⟩
  have : lks (L ++ [Lk.zero]) = lks L ++ lkc Lk.zero := by simp [lks]
  rw [this]
  exact ownsRow_setCell_other hown (by simpa [Value.ownBlock] using hb2.symm) _

theorem grown_al {w w' : World} {row : Option Nat} {x : Obj} (hg : (w.alloc x).grownBy w' row) : w.grownBy w' row := by
  refine ⟨hg.os, hg.tape, hg.output, ?_, fun i hi hne => ?_⟩
  · have := hg.size; simp at this; omega
  · rw [hg.block i (by simp; omega) hne]; exact Below.heap_alloc w _ i hi

theorem grow_facts {g' cap' : Nat} {w1 : World} {x : Obj} (h : La w b g vf cap N L free n) (hg : (w.alloc x).grownBy w1 (some g)) (hat : some g = some g' ∨ g' = w.heap.size + 1)
    (hown : w1.ownsRow 0 105 4 (.slice (some ⟨g', 0, none⟩) (N + 1) cap') (N + 1) (lks L ++ lkc Lk.zero)) :
    La (w1.setCell ⟨b, 0, none⟩ (.slice (some ⟨g', 0, none⟩) (N + 1) cap')) b g' vf cap' (N + 1) (L ++ [Lk.zero]) free n ∧ (g' = g ∨ w.heap.size ≤ g') ∧ b ≠ g' ∧
    w1.cell? ⟨b, 0, none⟩ = some (.slice (some ⟨g, 0, none⟩) N cap) ∧ w1.cell? ⟨b, 1, none⟩ = some vf ∧ w1.cell? ⟨b, 2, none⟩ = some (.int .i64 (n : Int)) ∧ (∀ o, w1.frozen? ⟨b, o, none⟩ = false) ∧
    (w1.cell? ⟨g', N * 4, none⟩ = some (.string ByteArray.empty) ∧ w1.cell? ⟨g', N * 4 + 1, none⟩ = some (.int .i64 0) ∧ w1.cell? ⟨g', N * 4 + 2, none⟩ = some (.int .i64 0) ∧ w1.cell? ⟨g', N * 4 + 3, none⟩ = some (.bool false)) ∧
    (∀ o, w1.frozen? ⟨g', o, none⟩ = false) ∧ Upd (Fp b g vf) w w1 := by
  have hgw := grown_al hg
  have hat' : g' = g ∨ w.heap.size ≤ g' := by
    rcases hat with e | e
    · left; injection e with e; exact e.symm
    · right; omega
  have hl := h.grow hgw hat' hown
  have hb1 : w1.heap[b]? = _ := (hgw.block b (lt_of_block h.obj) (by simpa using h.bg)).trans h.obj
  obtain ⟨d0, d1, d2, dfr⟩ := cells3 hb1
  obtain ⟨cur, hc, _⟩ := own_block hown
  have hlen : (lks L).length = N * 4 := by unfold lks; rw [flat_length lk4, h.len]
  have ck : ∀ j u, (lkc Lk.zero)[j]? = some u → w1.cell? ⟨g', N * 4 + j, none⟩ = some u := fun j u hu => by
    have := hown.cells (g := g') rfl (N * 4 + j) u (by rw [List.getElem?_append_right (by omega), hlen, Nat.add_sub_cancel_left]; exact hu)
    rw [add_pl, Nat.zero_add] at this
    exact this
  exact ⟨hl, hat', hl.bg, d0, d1, d2, dfr, ⟨ck 0 _ rfl, ck 1 _ rfl, ck 2 _ rfl, ck 3 _ rfl⟩, free_of hc, (Upd.of_grown hgw).mono (fun i _ hi => .inr (.inl (by injection hi with e; exact e.symm)))⟩

theorem take_new (h : La w b g vf cap N L free n) (v : ByteArray) (hf : free = []) (hN : N ≤ 1000000) (hn : n ≤ 1000000) :
    Calls Try.prog 69 #[.pointer (some ⟨b, 0, none⟩), .string v] w (TakePost b g vf n L free v w) := by
  have HT := Lib.hid (took_none (L := L) v hf)
  subst hf
  obtain ⟨A, cf, hvf⟩ : ∃ A cf, vf = .slice A 0 cf := by
    rcases h.fr.2 with ⟨h1, _⟩ | ⟨g', cap', cur, hv, _⟩
    · exact ⟨none, 0, h1⟩
    · exact ⟨_, _, hv⟩
  obtain ⟨c0, c1, c2, fr⟩ := cells3 h.obj
  obtain ⟨i0, hi0, hz0, hz1, hz2⟩ := info_parts infoL
  have H := Lib.hid h
  have HV := Lib.hid hvf
  rw [hvf] at c1
  clear h hvf
  go_enter Try.func69, Try.ntmps69
  go_wp2_with (at_builtin; refine wpList_append_lies _ rfl _ _ 89 rfl 0 105 i0 (.agg #[.string ByteArray.empty, .int .i64 0, .int .i64 0, .bool false]) 4 40 Try.underlying89 hi0 hz0 hz1 hz2 rfl (by decide) (.slice (some ⟨g, 0, none⟩) N cap) N (lks L) rfl (H.out.row.alloc _) ⟨w.heap.size, 0, none⟩ 1 1 (lkc Lk.zero) rfl rfl (World.news_of_block (cs := #[.string ByteArray.empty, .int .i64 0, .int .i64 0, .bool false]) (heap_alloc_new w _)) (by simp [lk_zero, Value.oneCell']) (by omega) (by unfold maxLen; omega) (by omega) (by omega) (w.heap.size + 1) (by simp) ?_; intro g' cap' w1 hown hgr hat hlt; obtain ⟨hla, hat', bg', d0, d1, d2, dfr, ⟨k0, k1, k2, k3⟩, kf, hu⟩ := grow_facts H.out hgr hat hown; have HLA := Lib.hid hla; have HAT := Lib.hid hat'; have HU := Lib.hid hu; have z0 : (0 : Int) ≤ (N : Int) := Int.natCast_nonneg _; have z1 : (N : Int) < ((N + 1 : Nat) : Int) := Int.ofNat_lt.2 (Nat.lt_succ_self N); clear hla hat' hu hat hown hgr hlt)
  go_ret
  unfold TakePost
  rw [HT.out]
  have hl := H.out.len
  have h1 := ((HLA.out.put (i := N) (fresh v) (by omega)).count (n + 1))
  have e : (L ++ [Lk.zero]).set N (fresh v) = L ++ [fresh v] := by
    rw [← hl, List.set_append_right _ _ (Nat.le_refl _), Nat.sub_self]; rfl
  rw [e] at h1
  have hg' : Fp b g vf g' ∨ w.heap.size ≤ g' := by
    rcases HAT.out with e | e
    · exact .inl (.inr (.inl e))
    · exact .inr e
  refine ⟨by rw [hl]; rfl, g', vf, cap', ?_, HAT.out, fun k hk => hk, ?_⟩
  · show La _ b g' vf cap' (L ++ [fresh v]).length _ _ _
    rw [List.length_append, hl]
    exact h1
  exact (((((HU.out.setCell (p := ⟨b, 0, none⟩) (.inl (.inl rfl)) _).setCell (p := ⟨g', N * 4, none⟩) hg' _).setCell (p := ⟨g', N * 4 + 1, none⟩) hg' _).setCell (p := ⟨g', N * 4 + 2, none⟩) hg' _).setCell
    (p := ⟨g', N * 4 + 3, none⟩) hg' _).setCell (p := ⟨b, 2, none⟩) (.inl (.inl rfl)) _

theorem take_any (h : La w b g vf cap N L free n) (v : ByteArray) (hfree : ∀ i ∈ free, i < N) (hN : N ≤ 1000000) (hn : n ≤ 1000000) (hfl : free.length ≤ 1000000) :
    Calls Try.prog 69 #[.pointer (some ⟨b, 0, none⟩), .string v] w (TakePost b g vf n L free v w) := by
  cases hf : free.getLast? with
  | none => exact take_new h v (by simpa using hf) hN hn
  | some i => exact take_old h v hf (hfree i (List.mem_of_getLast? hf)) hn hfl
end

end Go.Proofs.Ytkeicfajlmhajaa.Li
