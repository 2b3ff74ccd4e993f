/- Package list as rows of handles and values: New, PushBack, Remove, Get, Front, Next, Len. -/
import Derived.Test.YtkeicfajlmhajaaLj
namespace Go.Proofs.Ytkeicfajlmhajaa.Li
open Go Go.RowKit Go.Proofs.Ytkeicfajlmhajaa.K Go.Proofs.Ytkeicfajlmhajaa.Ar

/-- The list at b, all its memory in F: its handles and values. -/
def Lst (w : World) (b : Nat) (F : Nat → Prop) (xs : List (Nat × ByteArray)) : Prop :=
  ∃ g vf cap L free, La w b g vf cap L.length L free xs.length ∧ Ok L free (xs.map (·.1)) ∧ (∀ x ∈ xs, (at' L x.1).v = x.2) ∧ L.length ≤ 100000 ∧ (∀ k, Fp b g vf k → F k) ∧ ∀ k, F k → k < w.heap.size

/-- What a step may have made besides. -/
def more (F : Nat → Prop) (w w' : World) : Nat → Prop := fun k => F k ∨ (w.heap.size ≤ k ∧ k < w'.heap.size)

section
variable {w : World} {b : Nat} {F : Nat → Prop} {xs : List (Nat × ByteArray)}

theorem Lst.lt (h : Lst w b F xs) : ∀ k, F k → k < w.heap.size := by obtain ⟨g, vf, cap, L, free, _, _, _, _, _, h⟩ := h; exact h
theorem Lst.self (h : Lst w b F xs) : F b := by obtain ⟨g, vf, cap, L, free, _, _, _, _, h, _⟩ := h; exact h b (.inl rfl)
theorem Lst.drewN (h : Lst w b F xs) (k : Nat) : Lst (w.drewN k) b F xs := by
  obtain ⟨g, vf, cap, L, free, h1, h2, h3, h4, h5, h6⟩ := h
  exact ⟨g, vf, cap, L, free, h1.drewN k, h2, h3, h4, h5, h6⟩
theorem Lst.upd {w' : World} {G : Nat → Prop} (h : Lst w b F xs) (hu : Upd G w w') (hG : ∀ k, F k → ¬ G k) : Lst w' b F xs := by
  obtain ⟨g, vf, cap, L, free, h1, h2, h3, h4, h5, h6⟩ := h
  exact ⟨g, vf, cap, L, free, h1.upd hu (fun k hk => hG k (h5 k hk)), h2, h3, h4, h5, fun k hk => Nat.lt_of_lt_of_le (h6 k hk) hu.size⟩
theorem Lst.below {w' : World} (h : Lst w b F xs) (hb : Below w.heap.size w w') : Lst w' b F xs :=
  h.upd (Upd.of_below (F := fun _ => False) hb (fun i h1 h2 => by omega)) (fun _ _ => id)
theorem Lst.mono {G : Nat → Prop} (h : Lst w b F xs) (hG : ∀ k, F k → G k) (hlt : ∀ k, G k → k < w.heap.size) : Lst w b G xs := by
  obtain ⟨g, vf, cap, L, free, h1, h2, h3, h4, h5, h6⟩ := h
  exact ⟨g, vf, cap, L, free, h1, h2, h3, h4, fun k hk => hG k (h5 k hk), hlt⟩
theorem Lst.nodup (h : Lst w b F xs) : (xs.map (·.1)).Nodup := by
  obtain ⟨g, vf, cap, L, free, _, h2, _⟩ := h
  have := h2.nodup
  rw [List.cons_append, List.nodup_cons, List.nodup_append] at this
  exact this.2.1
theorem Lst.pos (h : Lst w b F xs) : ∀ x ∈ xs, x.1 ≠ 0 := by
  obtain ⟨g, vf, cap, L, free, _, h2, _⟩ := h
  intro x hx e
  have := h2.nodup
  rw [List.cons_append, List.nodup_cons] at this
  exact this.1 (List.mem_append_left _ (e ▸ List.mem_map_of_mem hx))

theorem more_lt {w' : World} (h : ∀ k, F k → k < w.heap.size) (hs : w.heap.size ≤ w'.heap.size) : ∀ k, more F w w' k → k < w'.heap.size := by
  rintro k (hk | hk)
  · exact Nat.lt_of_lt_of_le (h k hk) hs
  · exact hk.2

/-- A handle of the row is there. -/
theorem there {L : List Lk} {free : List Nat} (hok : Ok L free (xs.map (·.1))) {x : Nat × ByteArray} (hx : x ∈ xs) : x.1 ≠ 0 ∧ x.1 < L.length ∧ (at' L x.1).there = true := by
  have hm : x.1 ∈ xs.map (·.1) := List.mem_map_of_mem hx
  have := hok.nodup
  rw [List.cons_append, List.nodup_cons] at this
  exact ⟨fun e => this.1 (List.mem_append_left _ (e ▸ hm)), hok.lt _ hm⟩

theorem lst_get (h : Lst w b F xs) {x : Nat × ByteArray} (hx : x ∈ xs) :
    Calls Try.prog 49 #[.pointer (some ⟨b, 0, none⟩), .int .i64 (x.1 : Int)] w fun e w' => e = .returned (.tuple #[.string x.2, .bool true]) ∧ w = w' := by
  obtain ⟨g, vf, cap, L, free, h1, h2, h3, h4, h5, h6⟩ := h
  obtain ⟨t1, t2, t3⟩ := there h2 hx
  rw [← h3 x hx]
  exact get_yes h1 t1 t2 t3
theorem lst_len (h : Lst w b F xs) : Calls Try.prog 48 #[.pointer (some ⟨b, 0, none⟩)] w fun e w' => e = .returned (.int .i64 (xs.length : Int)) ∧ w = w' := by
  obtain ⟨g, vf, cap, L, free, h1, h2, h3, h4, h5, h6⟩ := h
  exact len_ h1
/-- The handle at the head of a row; 0: it is empty. -/
def hdl (s : List (Nat × ByteArray)) : Nat := (s.map (·.1)).headD 0

/-- The handle at the front; 0: there is none. -/
theorem lst_front (h : Lst w b F xs) : Calls Try.prog 50 #[.pointer (some ⟨b, 0, none⟩)] w fun e w' => e = .returned (.int .i64 (hdl xs : Int)) ∧ w = w' := by
  obtain ⟨g, vf, cap, L, free, h1, h2, h3, h4, h5, h6⟩ := h
  unfold hdl
  rw [← chain_first h2.chain]
  exact front h1 h2.pos
/-- The handle behind. -/
theorem lst_next {p s : List (Nat × ByteArray)} {x : Nat × ByteArray} (h : Lst w b F (p ++ x :: s)) :
    Calls Try.prog 72 #[.pointer (some ⟨b, 0, none⟩), .int .i64 (x.1 : Int)] w fun e w' => e = .returned (.int .i64 (hdl s : Int)) ∧ w = w' := by
  obtain ⟨g, vf, cap, L, free, h1, h2, h3, h4, h5, h6⟩ := h
  unfold hdl
  obtain ⟨t1, t2, t3⟩ := there h2 (x := x) (by simp)
  have hc := h2.chain
  rw [List.map_append, List.map_cons] at hc
  rw [← chain_first (chain_append.1 hc).2]
  exact next_ h1 t1 t2 t3

theorem lst_cell {x : Nat × ByteArray} (h : Lst w b F xs) (hx : x ∈ xs) :
    ∃ g cap N, w.cell? ⟨b, 0, none⟩ = some (.slice (some ⟨g, 0, none⟩) N cap) ∧ w.cell? ⟨g, x.1 * 4, none⟩ = some (.string x.2) ∧ x.1 < N := by
  obtain ⟨g, vf, cap, L, free, h1, h2, h3, h4, h5, h6⟩ := h
  obtain ⟨t1, t2, t3⟩ := there h2 hx
  refine ⟨g, cap, L.length, (cells3 h1.obj).1, ?_, t2⟩
  rw [← h3 x hx]
  exact (h1.cells t2).1

/-- A list with nothing. -/
theorem lst_new (w : World) : Calls Try.prog 39 #[] w fun e w' => e = .returned (.pointer (some ⟨w.heap.size + 1, 0, none⟩)) ∧
    Lst w' (w.heap.size + 1) (fun k => w.heap.size ≤ k ∧ k < w'.heap.size) [] ∧ Below w.heap.size w w' := by
  have hmk : ∀ w : World, (Instr.makeSlice 89 (.int .i64 1) (.int .i64 1)).run Try.prog w = .ok (.slice (some ⟨w.heap.size, 0, none⟩) 1 1) (w.alloc (.cells #[.string ByteArray.empty, .int .i64 0, .int .i64 0, .bool false] 105)) := fun _ => by kernel_rfl
  go_enter Try.func39, Try.ntmps39
  go_wp2
  go_ret
  have hb0 := block_new w (.cells #[.string ByteArray.empty, .int .i64 0, .int .i64 0, .bool false] 105)
  have hb1 := block_alloc (o := .cells #[.slice (some ⟨w.heap.size, 0, none⟩) 1 1, .slice none 0 0, .int .i64 0] 91) hb0
  refine ⟨rfl, ⟨w.heap.size, .slice none 0 0, 1, [Lk.zero], [], ⟨block_new' (by simp) _, ⟨rfl, .inr ⟨w.heap.size, 1, _, rfl, Nat.zero_le _, hb1, Nat.le_refl _, by unfold maxLen; omega, rfl, rfl⟩⟩, World.ownsRow_nil _ _ _ _, rfl, by omega, by simp [Value.ownBlock], by simp [Value.ownBlock]⟩,
    ok_new, by simp, by simp, ?_, fun k hk => hk.2⟩, ((Below.refl _ _).alloc (Nat.le_refl _) _).alloc (by simp) _⟩
  rintro k (rfl | rfl | hk)
  · simp
  · simp; omega
  · simp [Value.ownBlock] at hk

/-- What PushBack leaves. -/
def PushPost (b : Nat) (F : Nat → Prop) (xs : List (Nat × ByteArray)) (v : ByteArray) (w : World) (e : Ending) (w' : World) : Prop :=
  ∃ i : Nat, e = .returned (.int .i64 (i : Int)) ∧ i ∉ xs.map (·.1) ∧ Lst w' b (more F w w') (xs ++ [(i, v)]) ∧ Upd F w w'

theorem push_end {g g' cap' : Nat} {vf vf' : Value} {L : List Lk} {free : List Nat} {v : ByteArray} {w1 w2 : World} (hlt : ∀ k, F k → k < w.heap.size) (hF : ∀ k, Fp b g vf k → F k) (ok : Ok L free (xs.map (·.1))) (hv : ∀ x ∈ xs, (at' L x.1).v = x.2) (hL : L.length ≤ 100000) (hx : xs.length ≤ 90000)
    (h1 : La w1 b g' vf' cap' (took L free v).2.1.length (took L free v).2.1 (took L free v).2.2 (xs.length + 1)) (hg : g' = g ∨ w.heap.size ≤ g') (hvf : ∀ k, vf'.ownBlock = some k → vf.ownBlock = some k) (hu : Upd (Fp b g vf) w w1)
    (h2 : La w2 b g' vf' cap' (took L free v).2.1.length (pushed L free v) (took L free v).2.2 (xs.length + 1)) (hu2 : Upd (· = g') w1 w2) :
    (took L free v).1 ∉ xs.map (·.1) ∧ Lst w2 b (more F w w2) (xs ++ [((took L free v).1, v)]) ∧ Upd F w w2 := by
  obtain ⟨o1, o2, o3, _, _, o6⟩ := ok.push v
  have tk := ok.take v
  have hU : Upd F w w2 := (hu.mono (fun i _ hi => hF i hi)).then hu2 (fun i hi e => by
    rcases hg with e2 | e2
    · exact hF i (.inr (.inl (e.trans e2)))
    · have : i = g' := e
      omega)
  have hg1 := h1.lt g' (.inr (.inl rfl))
  refine ⟨tk.new, ⟨g', vf', cap', pushed L free v, (took L free v).2.2, ?_, ?_, ?_, ?_, ?_, more_lt hlt hU.size⟩, hU⟩
  · rw [o6, List.length_append]; exact h2
  · rw [List.map_append]; exact o1
  · intro x hx
    rcases List.mem_append.1 hx with hx | hx
    · rw [o2 _ (List.mem_map_of_mem hx)]; exact hv x hx
    · rw [List.mem_singleton] at hx; subst hx; exact o3
  · rw [o6]
    exact tk.few 100000 hL (by simp; omega)
  · rintro k (rfl | rfl | hk)
    · exact .inl (hF _ (.inl rfl))
    · rcases hg with e | e
      · exact .inl (hF _ (.inr (.inl e)))
      · exact .inr ⟨e, Nat.lt_of_lt_of_le hg1 hu2.size⟩
    · exact .inl (hF _ (.inr (.inr (hvf k hk))))

theorem lst_push (h : Lst w b F xs) (v : ByteArray) (hx : xs.length ≤ 90000) :
    Calls Try.prog 47 #[.pointer (some ⟨b, 0, none⟩), .string v] w (PushPost b F xs v w) := by
  obtain ⟨g, vf, cap, L, free, h1, h2, h3, h4, h5, h6⟩ := h
  obtain ⟨o1, o2, o3, o4, o5, o6⟩ := h2.push v
  have tk := h2.take v
  have T := Lib.hid (take_any h1 v (fun i hi => (h2.freelt i hi).1) (by omega) (by omega) (by have := h2.size; omega))
  have E := Lib.hid (fun (g' cap' : Nat) (vf' : Value) (w1 w2 : World) => push_end (w := w) (g' := g') (cap' := cap') (vf' := vf') (w1 := w1) (w2 := w2) h6 h5 h2 h3 h4 hx (v := v))
  have TL := Lib.hid tk.lt
  have O4 := Lib.hid o4
  have O5 := Lib.hid o5
  have HP : Hid (pushed L free v = lays (took L free v).2.1 (took L free v).1 (at' (took L free v).2.1 0).prev 0) := Lib.hid rfl
  clear h1 h2 h3 h4 h5 h6 o1 o2 o3 o4 o5 o6 tk
  go_enter Try.func47, Try.ntmps47
  go_wp2_with fail
  refine T.out.mono ?_
  rintro e w1 ⟨rfl, g', vf', cap', hla, hg, hvf, hu⟩
  obtain ⟨c0, c1, c2, fr⟩ := cells3 hla.obj
  obtain ⟨-, k1, -, -⟩ := hla.cells O5.out
  rw [Nat.zero_mul] at k1
  have LY := lays_ hla TL.out O4.out O5.out
  rw [← HP.out] at LY
  have EE := Lib.hid (fun w2 => E.out g' cap' vf' w1 w2 hla hg hvf hu)
  have z1 : (0 : Int) < ((took L free v).2.1.length : Int) := Int.ofNat_lt.2 O5.out
  generalize (at' (took L free v).2.1 0).prev = p at *
  generalize (took L free v).2.1.length = N at *
  generalize (took L free v).1 = i at *
  have HLY := Lib.hid LY
  clear LY hla hg hvf hu T E TL O4 O5 HP
  go_wp2_with fail
  refine HLY.out.mono ?_
  rintro e w2 ⟨rfl, hl2, hu2⟩
  have HE := Lib.hid (EE.out w2 hl2 hu2)
  clear hl2 hu2
  go_wp2_with fail
  go_ret
  exact ⟨i, rfl, HE.out⟩
end

end Go.Proofs.Ytkeicfajlmhajaa.Li
