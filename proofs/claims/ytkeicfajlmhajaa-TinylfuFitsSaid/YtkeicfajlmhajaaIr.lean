/- The walks of package index: grows. -/
import Derived.Test.YtkeicfajlmhajaaIq
namespace Go.Proofs.Ytkeicfajlmhajaa.In
open Go Go.RowKit Go.Proofs.Ytkeicfajlmhajaa.K Go.Proofs.Ytkeicfajlmhajaa.Ix Go.Proofs.Ytkeicfajlmhajaa.Hb

theorem infoP : (Try.prog.info? 101).map (fun i => (i.zero, i.size, i.bytes)) = some (some (.agg #[.int .i64 0, .string ByteArray.empty, .int .i64 0, .int .i64 0]), 4, 40) := by kernel_rfl

theorem made_pls (N : Nat) : madeCells #[.int .i64 0, .string ByteArray.empty, .int .i64 0, .int .i64 0] (N * 4) = (pls (List.replicate N (Pl.empty : Pl V))).toArray := by
  apply Array.ext'
  apply List.ext_getElem?
  intro k
  have hl : (pls (List.replicate N (Pl.empty : Pl V))).length = N * 4 := by
    have := flat_length pl4 (List.replicate N (Pl.empty : Pl V))
    simpa [pls] using this
  rcases Nat.lt_or_ge k (N * 4) with hk | hk
  · obtain ⟨i, j, hj, rfl⟩ : ∃ i j, j < 4 ∧ k = i * 4 + j := ⟨k / 4, k % 4, Nat.mod_lt _ (by omega), by omega⟩
    have hp : (List.replicate N (Pl.empty : Pl V))[i]? = some .empty := by
      rw [List.getElem?_replicate, if_pos (by omega)]
    have h1 := flat_get (enc := plc) pl4 hp hj
    show _ = (pls _)[_]?
    unfold pls
    rw [h1]
    simp only [madeCells, Array.toList_map, Array.toList_range, List.getElem?_map]
    rw [List.getElem?_range hk]
    have hm : (i * 4 + j) % 4 = j := by omega
    simp only [Option.map_some]
    rcases (by omega : j = 0 ∨ j = 1 ∨ j = 2 ∨ j = 3) with rfl | rfl | rfl | rfl <;> simp [hm, plc]
  · rw [List.getElem?_eq_none (by simp [madeCells]; omega), List.getElem?_eq_none (by simpa [hl] using hk)]

theorem make_pls (N : Nat) (hN : N ≤ 1000000) (w : World) :
    (Instr.makeSlice 86 (.int .i64 (N : Int)) (.int .i64 (N : Int))).run Try.prog w = .ok (.slice (some ⟨w.heap.size, 0, none⟩) N N) (w.alloc (.cells (pls (List.replicate N .empty)).toArray 101)) := by
  obtain ⟨i, h1, h2, h3, h4⟩ := info_parts infoP
  have hr := run_make (P := Try.prog) w 86 101 i _ Try.underlying86 h1 h2 .i64 .i64 (N : Int) (N : Int) (by omega) (Int.le_refl _) (by rw [h4]; omega) (by omega)
  have hz : Value.cells (.agg #[.int .i64 0, .string ByteArray.empty, .int .i64 0, .int .i64 0]) = #[.int .i64 0, .string ByteArray.empty, .int .i64 0, .int .i64 0] := by simp [Value.cells]
  rw [Int.toNat_natCast, h3, hz, made_pls N] at hr
  exact hr

section
variable {w : World} {b g N n used : Nat} {T : Tb}

/-- A make whose run is known. -/
theorem wp_make_run {P : Program} {w w' : World} {ops : Array Oper} {rest : List Oper} {o : Oper} {a : Act} {Q : Exit → Act → World → Prop}
    (hg : o.guard = none) (l c : Operand) (t : TypeId) (hop : o.op = Op.makeSlice t l c) (x y v : Value) (hl : a.eval l = x) (hc : a.eval c = y)
    (hrun : (Instr.makeSlice t x y).run P w = .ok v w') (hK : wpList P ops Q rest (a.put o.dst v) w') : wpList P ops Q (o :: rest) a w := by
  refine wpList_plain hg fun K hK' => ?_
  unfold Oper.wp
  simp [execOp, hop, hl, hc, hrun, Result.andThen]
  exact hK' _ _ hK

/-- A table without deleted places, as far as the old one was gone through. -/
structure Grow (T T' : Tb) (M j m : Nat) : Prop where
  tab : Tab st T'
  len : T'.length = M
  free : ∀ i : Nat, T'[i]? ≠ some .gone
  full_ : T'.countP Pl.isFull = m
  taken_ : T'.countP Pl.taken = m
  m_ : m = (T.take j).countP Pl.isFull
  has : ∀ k v, Has T' k v ↔ Has (T.take j) k v

theorem Grow.start (T : Tb) {M : Nat} (hM : 1 ≤ M) : Grow T (List.replicate M .empty) M 0 0 :=
  ⟨tab_new st M (by omega), by simp, fun i h => by rw [List.getElem?_replicate] at h; split at h <;> simp at h, (count_new M).1, (count_new M).2, by simp,
    fun k v => ⟨fun h => absurd h (has_new M k v), fun ⟨i, hi⟩ => by simp at hi⟩⟩

theorem Grow.skip {T T' : Tb} {M j m : Nat} {p : Pl V} (h : Grow T T' M j m) (hp : T[j]? = some p) (hf : p.isFull = false) : Grow T T' M (j + 1) m := by
  have hj := lt_of_getElem? hp
  refine ⟨h.tab, h.len, h.free, h.full_, h.taken_, ?_, fun k v => ?_⟩
  · rw [countP_take_succ hp, hf]; simpa using h.m_
  · rw [has_take_succ hj, h.has k v]
    constructor
    · exact .inl
    · rintro (e | e)
      · exact e
      · rw [hp] at e
        cases e
        cases hf

theorem Grow.lay {T T' : Tb} {M j m i : Nat} {key : ByteArray} {v : V} (h : Grow T T' M j m) (hp : T[j]? = some (.full key v)) (sp : Spot st T' key i) :
    Grow T (T'.set i (.full key v)) M (j + 1) (m + 1) ∧ T'[i]? = some .empty := by
  have hj := lt_of_getElem? hp
  have he : T'[i]? = some .empty := sp.open_.resolve_right (h.free i)
  have c1 := countP_set (p := Pl.isFull) (y := .full key v) he
  have c2 := countP_set (p := Pl.taken) (y := .full key v) he
  have d1 := h.full_
  have d2 := h.taken_
  refine ⟨⟨h.tab.lay sp, by simpa using h.len, ?_, ?_, ?_, ?_, fun k u => ?_⟩, he⟩
  · intro a ha
    rw [get_set sp.lt] at ha
    split at ha
    · cases ha
    · exact h.free a ha
  · simp [Pl.isFull] at c1; omega
  · simp [Pl.taken] at c2; omega
  · rw [countP_take_succ hp]; have := h.m_; simp [Pl.isFull]; omega
  · rw [sp.has, has_take_succ hj, h.has k u, hp]
    constructor
    · rintro (⟨rfl, rfl⟩ | e)
      · exact .inr rfl
      · exact .inl e
    · rintro (e | e)
      · exact .inr e
      · cases e; exact .inl ⟨rfl, rfl⟩

theorem Grow.absent {T T' : Tb} {M j m : Nat} {key : ByteArray} {v : V} (h : Grow T T' M j m) (tab : Tab st T) (hp : T[j]? = some (.full key v)) (u : V) : ¬ Has T' key u := by
  intro hu
  obtain ⟨i, hi⟩ := (h.has key u).1 hu
  rw [List.getElem?_take] at hi
  split at hi
  · have := tab.uniq _ _ _ _ _ hi hp; omega
  · cases hi

theorem Grow.le {T T' : Tb} {M j m : Nat} (h : Grow T T' M j m) : m ≤ T.countP Pl.isFull := by
  rw [h.m_]; exact (List.take_sublist j T).countP_le

theorem Grow.done {T T' : Tb} {M m : Nat} (h : Grow T T' M T.length m) : m = T.countP Pl.isFull ∧ ∀ k v, Has T' k v ↔ Has T k v := by
  have e := List.take_length (l := T)
  have h1 := h.m_
  have h2 := h.has
  rw [e] at h1 h2
  exact ⟨h1, h2⟩

/-- What grows leaves. -/
def GrowPost (b : Nat) (T : Tb) (M n : Nat) (w : World) (e : Ending) (w' : World) : Prop :=
  e = .returned (.tuple #[]) ∧ ∃ T', Xa w' b w.heap.size M T' n n ∧ Grow T T' M T.length n ∧ Upd (· = b) w w'

set_option maxHeartbeats 800000 in
theorem grows_x {M : Nat} (hx : Xa w b g N T n used) (tab : Tab st T) (hn1 : 1 ≤ n) (hn : n ≤ 249000) (hN : N ≤ 1000000) (hc : T.countP Pl.isFull = n) (hM : M = 4 * (n + 1))
    (small : ∀ (i : Nat) k v, T[i]? = some (.full k v) → k.size ≤ 140737488351232) :
    Calls Try.prog 68 #[.pointer (some ⟨b, 0, none⟩)] w (GrowPost b T M n w) := by
  obtain ⟨c0, c1, c2, c3, fr⟩ := cells4 hx.obj
  have HMK := Lib.hid (make_pls M (by omega))
  have e1 : 4 * ((n : Int) + 1) = (M : Int) := by omega
  have e2 : (if (8 : Int) < (M : Int) then (M : Int) else 8) = (M : Int) := by split <;> omega
  have HX := Lib.hid hx
  have HT := Lib.hid tab
  have HS := Lib.hid small
  have HC := Lib.hid hc
  have HM := Lib.hid hM
  have hbz : b ≠ w.heap.size := by have := lt_of_block hx.obj; omega
  have HG := Lib.hid (Grow.start T (M := M) (by omega))
  have HOB := Lib.hid (block_alloc (o := .cells (pls (List.replicate M .empty)).toArray 101) hx.obj)
  have HOLD := Lib.hid (block_alloc (o := .cells (pls (List.replicate M .empty)).toArray 101) hx.row)
  have HROW := Lib.hid (block_new w (.cells (pls (List.replicate M .empty)).toArray 101))
  have HU1 : Hid (Upd (· = b) w (w.alloc (.cells (pls (List.replicate M .empty)).toArray 101))) := Lib.hid ((Upd.refl _ w).alloc _)
  have hgz : g ≠ w.heap.size := by have := lt_of_block hx.row; omega
  have bg := hx.bg
  clear hx tab small hc hM
  go_enter Try.func68, Try.ntmps68
  go_wp2_with (at_make; refine wp_make_run rfl _ _ _ rfl _ _ _ rfl rfl (HMK.out _) ?_; generalize w.alloc (.cells (pls (List.replicate M .empty)).toArray 101) = w1 at *; obtain ⟨d0, d1, d2, d3, dfr⟩ := cells4 HOB.out)
  have HX2 : Hid (Xa (((w1.setCell ⟨b, 1, none⟩ (.slice (some ⟨w.heap.size, 0, none⟩) M M)).setCell ⟨b, 2, none⟩ (.int .i64 0)).setCell ⟨b, 3, none⟩ (.int .i64 0)) b w.heap.size M (List.replicate M .empty) 0 0) := Lib.hid
    ⟨block_setCell (block_setCell (block_setCell HOB.out)), block_other hbz.symm (block_other hbz.symm (block_other hbz.symm HROW.out)), by simp, hbz⟩
  have HOLD2 := Lib.hid (block_other (p := ⟨b, 3, none⟩) (v := .int .i64 0) bg.symm (block_other (p := ⟨b, 2, none⟩) (v := .int .i64 0) bg.symm (block_other (p := ⟨b, 1, none⟩) (v := .slice (some ⟨w.heap.size, 0, none⟩) M M) bg.symm HOLD.out)))
  have HU2 := Lib.hid (((HU1.out.setCell (p := ⟨b, 1, none⟩) (.inl rfl) (.slice (some ⟨w.heap.size, 0, none⟩) M M)).setCell (p := ⟨b, 2, none⟩) (.inl rfl) (.int .i64 0)).setCell (p := ⟨b, 3, none⟩) (.inl rfl) (.int .i64 0))
  clear HOB HOLD HROW HU1
  go_loopg [30] N (fun k v30 wr => ∃ (j m : Nat) (T' : Tb), k = N - j ∧ j ≤ N ∧ v30 = .int .i64 (j : Int) ∧ Xa wr b w.heap.size M T' m m ∧ Grow T T' M j m ∧ wr.heap[g]? = some (.cells (pls T).toArray 101 (0, 0)) ∧ Upd (· = b) w wr)
  case atStart => exact ⟨0, 0, _, by omega, by omega, rfl, HX2.out, HG.out, HOLD2.out, HU2.out⟩
  case round =>
    clear d0 d1 d2 d3 dfr HX2 HOLD2 HU2 HG c0 c1 c2 c3 fr
    obtain ⟨j, m, T', hgk, hj, rfl, hx', hg', hold, hu'⟩ := hrel
    have HX' := Lib.hid hx'
    have HG' := Lib.hid hg'
    have HO' := Lib.hid hold
    have HU' := Lib.hid hu'
    have HGK := Lib.hid hgk
    have hmn : m ≤ n := by have := hg'.le; rw [HC.out] at this; exact this
    clear hx' hg' hold hu' hgk
    rcases Nat.eq_or_lt_of_le hj with rfl | hjl
    · go_wp2_with fail
      go_end0
      have e := HX.out.len
      have hG := HG'.out
      rw [← e] at hG
      obtain ⟨hm, -⟩ := hG.done
      rw [HC.out] at hm
      subst hm
      exact ⟨rfl, T', HX'.out, hG, HU'.out⟩
    · obtain ⟨p, hp⟩ : ∃ p, T[j]? = some p := ⟨_, List.getElem?_eq_getElem (by rw [HX.out.len]; exact hjl)⟩
      have z0 : (0 : Int) ≤ (j : Int) := by omega
      have z1 : (j : Int) < (N : Int) := by omega
      have HP := Lib.hid hp
      have kk : ∀ i, i < 4 → wr.cell? ⟨g, j * 4 + i, none⟩ = (plc p)[i]? := by
        intro i hi
        rw [cell_of HO'.out, List.getElem?_toArray]
        exact flat_get pl4 hp hi
      have k0 := kk 0 (by omega)
      have k1 := kk 1 (by omega)
      have k2 := kk 2 (by omega)
      have k3 := kk 3 (by omega)
      rw [Nat.add_zero] at k0
      clear kk hp
      cases p with
      | empty =>
        have k0' : wr.cell? ⟨g, j * 4, none⟩ = some (.int .i64 0) := k0
        have k1' : wr.cell? ⟨g, j * 4 + 1, none⟩ = some (.string ByteArray.empty) := k1
        have k2' : wr.cell? ⟨g, j * 4 + 2, none⟩ = some (.int .i64 0) := k2
        have k3' : wr.cell? ⟨g, j * 4 + 3, none⟩ = some (.int .i64 0) := k3
        clear k0 k1 k2 k3
        go_wp2_with fail
        go_roundg (N - (j + 1))
        case measure => rw [HGK.out]; omega
        case rel => exact ⟨j + 1, m, T', rfl, hjl, rfl, HX'.out.below ((Below.refl _ _).alloc (Nat.le_refl _) _), HG'.out.skip HP.out rfl, block_alloc HO'.out, HU'.out.alloc _⟩
      | gone =>
        have k0' : wr.cell? ⟨g, j * 4, none⟩ = some (.int .i64 1) := k0
        have k1' : wr.cell? ⟨g, j * 4 + 1, none⟩ = some (.string ByteArray.empty) := k1
        have k2' : wr.cell? ⟨g, j * 4 + 2, none⟩ = some (.int .i64 0) := k2
        have k3' : wr.cell? ⟨g, j * 4 + 3, none⟩ = some (.int .i64 0) := k3
        clear k0 k1 k2 k3
        go_wp2_with fail
        go_roundg (N - (j + 1))
        case measure => rw [HGK.out]; omega
        case rel => exact ⟨j + 1, m, T', rfl, hjl, rfl, HX'.out.below ((Below.refl _ _).alloc (Nat.le_refl _) _), HG'.out.skip HP.out rfl, block_alloc HO'.out, HU'.out.alloc _⟩
      | full key v =>
        obtain ⟨r, h⟩ := v
        have k0' : wr.cell? ⟨g, j * 4, none⟩ = some (.int .i64 2) := k0
        have k1' : wr.cell? ⟨g, j * 4 + 1, none⟩ = some (.string key) := k1
        have k2' : wr.cell? ⟨g, j * 4 + 2, none⟩ = some (.int .i64 (r : Int)) := k2
        have k3' : wr.cell? ⟨g, j * 4 + 3, none⟩ = some (.int .i64 (h : Int)) := k3
        clear k0 k1 k2 k3
        have hb1 : Below wr.heap.size wr (wr.alloc (.cells #[.int .i64 2, .string key, .int .i64 (r : Int), .int .i64 (h : Int)] 101)) := (Below.refl _ _).alloc (Nat.le_refl _) _
        have hxa := HX'.out.below hb1
        have hgr := HG'.out
        have hem : ∃ e : Nat, T'[e]? = some .empty := empty_of_count (by rw [hgr.taken_, hgr.len, HM.out]; omega)
        have F := Lib.hid (find_no hxa hgr.tab hem (by rw [HM.out]; omega) (by rw [HM.out]; omega) (HS.out _ _ _ HP.out) (hgr.absent HT.out HP.out))
        have HXA := Lib.hid hxa
        have HA := Lib.hid (block_new wr (.cells #[.int .i64 2, .string key, .int .i64 (r : Int), .int .i64 (h : Int)] 101))
        have HOA := Lib.hid (block_alloc (o := .cells #[.int .i64 2, .string key, .int .i64 (r : Int), .int .i64 (h : Int)] 101) HO'.out)
        have HUA := Lib.hid (HU'.out.alloc (.cells #[.int .i64 2, .string key, .int .i64 (r : Int), .int .i64 (h : Int)] 101))
        have HSZ := Lib.hid HU'.out.size
        clear hb1 hxa hgr hem
        go_wp2_with fail
        generalize wr.alloc (.cells #[.int .i64 2, .string key, .int .i64 (r : Int), .int .i64 (h : Int)] 101) = w2 at *
        obtain ⟨a0, a1, a2, a3, fra⟩ := cells4 HA.out
        refine F.out.mono ?_
        rintro e w3 ⟨i, rfl, sp, q, rfl⟩
        obtain ⟨hlay, hie⟩ := HG'.out.lay HP.out sp
        have hil : i < M := by have := sp.lt; rw [HG'.out.len] at this; exact this
        have HL := Lib.hid (lays_x (HXA.out.drewN q) (r := r) (h := h) (key := key) hil hie rfl (by omega) (by omega))
        have HLAY := Lib.hid hlay
        clear sp hlay hie F
        go_wp2_with fail
        refine HL.out.mono ?_
        rintro e w4 ⟨rfl, hx4, hu4⟩
        have HX4 : Hid (Xa w4 b w.heap.size M (T'.set i (.full key (r, h))) (m + 1) (m + 1)) := Lib.hid hx4
        have HU4 := Lib.hid hu4
        clear hx4 hu4 HL
        go_wp2_with fail
        go_roundg (N - (j + 1))
        case measure => rw [HGK.out]; omega
        case rel =>
          refine ⟨j + 1, m + 1, _, rfl, hjl, rfl, HX4.out, HLAY.out, HU4.out.get (block_drewN HOA.out) ?_, (HUA.out.drewN q).then HU4.out ?_⟩
          · rintro (e | e)
            · exact bg e.symm
            · exact hgz e
          · rintro k hk (e | e)
            · exact e
            · omega
end

end Go.Proofs.Ytkeicfajlmhajaa.In
