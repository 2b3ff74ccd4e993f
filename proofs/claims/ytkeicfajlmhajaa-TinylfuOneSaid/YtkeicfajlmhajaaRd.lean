/- The rows of an engine: push, oldest. -/
import Derived.Test.YtkeicfajlmhajaaRc
namespace Go.Proofs.Ytkeicfajlmhajaa.Rw
open Go Go.RowKit Go.Proofs.Ytkeicfajlmhajaa.K
open Go.Proofs.Ytkeicfajlmhajaa.Li (Lst more more_lt hdl)
open Go.Proofs.Ytkeicfajlmhajaa.In (Idx V)

section
variable {R : Nat} {w : World} {v : Value} {F : Nat → Prop} {K : Nat → List ByteArray}

theorem more_then {F : Nat → Prop} {a b c : World} (h1 : Upd F a b) (k : Nat) (h : more (more F a b) b c k) (hs : b.heap.size ≤ c.heap.size) : more F a c k := by
  rcases h with (h | h) | h
  · exact .inl h
  · exact .inr ⟨h.1, by omega⟩
  · exact .inr ⟨Nat.le_trans h1.size h.1, h.2⟩

theorem rv_inj {s s' R cap cap' bx bx' : Nat} (h : rv s R cap bx = rv s' R cap' bx') : s = s' ∧ cap = cap' ∧ bx = bx' := by
  unfold rv at h
  cases h
  exact ⟨rfl, rfl, rfl⟩

theorem sum_le (f g : Nat → Nat) : ∀ R, (∀ q, q < R → f q ≤ g q) → ((List.range R).map f).sum ≤ ((List.range R).map g).sum := by
  intro R
  induction R with
  | zero => intro _; simp
  | succ R ih =>
    intro h
    rw [List.range_succ, List.map_append, List.map_append, List.sum_append, List.sum_append]
    have h1 := ih (fun q hq => h q (by omega))
    have h2 := h R (by omega)
    simp only [List.map_cons, List.map_nil, List.sum_cons, List.sum_nil]
    omega
theorem less_length (K : Nat → List ByteArray) (key : ByteArray) (r : Nat) : (less K key r).length ≤ (K r).length := List.length_filter_le _ _
theorem sum_congr {f g : Nat → Nat} (R : Nat) (h : ∀ q, q < R → f q = g q) : ((List.range R).map f).sum = ((List.range R).map g).sum := by
  rw [List.map_congr_left (fun q hq => h q (List.mem_range.1 hq))]

theorem push_mem {s cap bx n : Nat} {l : Nat → Nat} {X : Nat → Row} {Fx : Nat → Prop} {Fr : Nat → Nat → Prop} {M : ByteArray → V → Prop} (h : Rws R w s cap bx n l X Fx Fr M) {key : ByteArray} {r i : Nat} (hr : r < R) (k : ByteArray) (u : V) :
    ((k = key ∧ u = (r, i)) ∨ M k u) ↔ u.1 < R ∧ (u.2, k) ∈ upd X r (X r ++ [(i, key)]) u.1 := by
  obtain ⟨a, c⟩ := u
  rw [h.mem]
  show _ ∨ (a < R ∧ (c, k) ∈ X a) ↔ a < R ∧ (c, k) ∈ upd X r (X r ++ [(i, key)]) a
  by_cases ha : a = r
  · subst ha
    rw [upd_same]
    simp only [List.mem_append, List.mem_singleton, Prod.mk.injEq, true_and]
    constructor
    · rintro (⟨rfl, rfl⟩ | ⟨h1, h2⟩)
      · exact ⟨hr, .inr ⟨rfl, rfl⟩⟩
      · exact ⟨h1, .inl h2⟩
    · rintro ⟨h1, h2 | ⟨rfl, rfl⟩⟩
      · exact .inr ⟨h1, h2⟩
      · exact .inl ⟨rfl, rfl⟩
  · rw [upd_other X _ ha]
    constructor
    · rintro (⟨-, e⟩ | e)
      · cases e; exact absurd rfl ha
      · exact e
    · exact .inr

set_option maxHeartbeats 800000 in
theorem rows_push (h : Rows R w v F K) {key : ByteArray} (hk : key.size ≤ 140737488351232) {r : Nat} (hr : r < R) (hlen : (K r).length ≤ 90000) (htot : ((List.range R).map fun q => (K q).length).sum ≤ 240000) :
    Calls Try.prog 29 #[v, .int .i64 (r : Int), .string key] w (RowsPost R v F (upd (less K key) r (less K key r ++ [key])) w) := by
  have hvf : ∃ s cap bx, v = rv s R cap bx := by obtain ⟨s, cap, bx, n, l, X, Fx, Fr, M, h1, _⟩ := h; exact ⟨s, cap, bx, h1⟩
  obtain ⟨s, cap, bx, rfl⟩ := hvf
  have hb2 : Below w.heap.size w (w.alloc (.cells #[.slice (some ⟨s, 0, none⟩) R cap, .pointer (some ⟨bx, 0, none⟩)] 42)) := (Below.refl _ _).alloc (Nat.le_refl _) _
  have D := Lib.hid (rows_drop (h.below hb2) hk)
  have HB2 := Lib.hid hb2
  have HV := Lib.hid (block_new w (.cells #[.slice (some ⟨s, 0, none⟩) R cap, .pointer (some ⟨bx, 0, none⟩)] 42))
  have HF := Lib.hid h.lt
  have HK := Lib.hid hk
  have HLEN := Lib.hid hlen
  have HTOT := Lib.hid htot
  have z0 : (0 : Int) ≤ (r : Int) := by omega
  have z1 : (r : Int) < (R : Int) := by omega
  clear h hb2 hk
  unfold rv at *
  go_enter Try.func29, Try.ntmps29
  go_wp2_with fail
  generalize w.alloc (.cells #[.slice (some ⟨s, 0, none⟩) R cap, .pointer (some ⟨bx, 0, none⟩)] 42) = w2 at *
  refine D.out.mono ?_
  rintro e w3 ⟨rfl, ⟨s', cap', bx', n, l, X, Fx, Fr, M, hv, h2, h3, h4, h5, h6, h7⟩, hu3⟩
  obtain ⟨rfl, rfl, rfl⟩ := rv_inj hv
  have hzb : w.heap.size < w2.heap.size := lt_of_block HV.out
  have nbx : ¬ Fx w.heap.size := by
    intro hh
    rcases h5 _ hh with e | e
    · have := HF.out _ e; omega
    · omega
  have nbr : ¬ Fr r w.heap.size := by
    intro hh
    rcases h6 r hr _ hh with e | e
    · have := HF.out _ e; omega
    · omega
  have hnF : ¬ F w.heap.size := fun hh => by have := HF.out _ hh; omega
  obtain ⟨b0, b1, -⟩ := In.two_cells (hu3.get HV.out hnF)
  have hc := h2.cell hr
  have h3r := congrArg List.length (h3 r hr)
  rw [List.length_map] at h3r
  have hl9 : (X r).length ≤ 90000 := by have := less_length K key r; omega
  have hn9 : n ≤ 240000 := by
    rw [h2.n_, sum_congr R (g := fun q => (less K key q).length) (fun q hq => by rw [h3 q hq, List.length_map])]
    exact Nat.le_trans (sum_le _ _ R (fun q _ => less_length K key q)) htot
  have hab : ∀ u, ¬ M key u := Rows.absent h2 h3 (fun q _ => less_not K key q)
  have PU := Lib.hid (Li.lst_push ((h2.lst r hr).drewN 1) key hl9)
  have PT := Lib.hid (fun (w4 : World) (i : Nat) (hu4 : Upd (Fr r) w3.drew w4) => In.idx_put (r := r) (h' := i) ((h2.idx.drewN 1).upd hu4 (fun k hk hf => h2.sepx r hr k hf hk)) HK.out hab hn9)
  have H2 := Lib.hid h2
  have H3 := Lib.hid h3
  have H5 := Lib.hid h5
  have H6 := Lib.hid h6
  have HU3 := Lib.hid hu3
  have H4 := Lib.hid h4
  have H7 := Lib.hid h7
  have nsx : ¬ Fx s := h2.sx
  have nsr : ¬ Fr r s := h2.sr r hr
  clear h2 h3 h4 h5 h6 h7 hu3 h3r hl9 hn9 hab
  have S0 : w3.drew.cell? ⟨w.heap.size, 0, none⟩ = some (.slice (some ⟨s, 0, none⟩) R cap) ∧ w3.drew.cell? ⟨w.heap.size, 1, none⟩ = some (.pointer (some ⟨bx, 0, none⟩)) ∧ w3.drew.cell? ⟨s, r, none⟩ = some (.pointer (some ⟨l r, 0, none⟩)) := ⟨b0, b1, hc⟩
  go_wp2_with fail
  go_region_held3 (fun w' => w'.cell? ⟨w.heap.size, 0, none⟩ = some (.slice (some ⟨s, 0, none⟩) R cap) ∧ w'.cell? ⟨w.heap.size, 1, none⟩ = some (.pointer (some ⟨bx, 0, none⟩)) ∧ w'.cell? ⟨s, r, none⟩ = some (.pointer (some ⟨l r, 0, none⟩)))
    (first | (go_keep; done) | exact ⟨by assumption, by assumption, by assumption⟩)
    (first | (go_at_call 47; refine PU.out.mono ?_; rintro e w4 ⟨i, rfl, hni, hl4, hu4⟩; have q0 := cell_upd hu4 nbr b0; have q1 := cell_upd hu4 nbr b1; have q2 := cell_upd hu4 nsr hc; have PTI := Lib.hid (PT.out w4 i hu4); have HL4 := Lib.hid hl4; have HU4 := Lib.hid hu4; clear hl4 hu4) | (go_at_call 46; refine PTI.out.mono ?_; rintro e w5 ⟨rfl, hi5, hu5⟩; have p0 := cell_upd hu5 nbx q0; have p1 := cell_upd hu5 nbx q1; have p2 := cell_upd hu5 nsx q2; have HI5 := Lib.hid hi5; have HU5 := Lib.hid hu5; clear hi5 hu5))
  go_end0
  have h2 := H2.out
  have h3 := H3.out
  have u34 : Upd (Fr r) w3 w4 := HU4.out.of_drew
  have s34 := u34.size
  have s45 := HU5.out.size
  have hu35 : Upd (fun k => Fx k ∨ Fr r k) w3 w5 := (u34.mono (fun k _ hk => .inr hk)).trans (HU5.out.mono (fun k _ hk => .inl hk))
  have hG : ∀ k, more (Fr r) w3.drew w4 k → Fr r k ∨ w3.heap.size ≤ k := by
    rintro k (hk | hk)
    · exact .inl hk
    · exact .inr hk.1
  have hGlt : ∀ k, more (Fr r) w3.drew w4 k → k < w4.heap.size := HL4.out.lt
  have hxlt : ∀ k, Fx k → k < w3.heap.size := fun k hk => H7.out k (H5.out k hk)
  have hGx : ∀ k, more (Fr r) w3.drew w4 k → ¬ Fx k := by
    intro k hk hf
    rcases hG k hk with e | e
    · exact h2.sepx r hr k e hf
    · have := hxlt k hf; omega
  have hX' : ∀ k, more Fx w4 w5 k → Fx k ∨ w3.heap.size ≤ k := by
    rintro k (hk | hk)
    · exact .inl hk
    · have := hk.1; exact .inr (by omega)
  have hd : ∀ k, more (Fr r) w3.drew w4 k → ¬ more Fx w4 w5 k := by
    rintro k hk (h | h)
    · exact hGx k hk h
    · have := hGlt k hk; have := h.1; omega
  have hl5 := HL4.out.upd HU5.out hGx
  have hrw := h2.turn hr hu35 hl5 HI5.out hG hX' hd (push_mem h2 hr) (by
    have e := sum_upd X r (X r ++ [(i, key)]) R hr
    have e2 := h2.n_
    simp only [List.length_append, List.length_cons, List.length_nil] at e
    omega)
  have hU2 : Upd F w w2 := Upd.of_below HB2.out (fun k h1 h2 => by omega)
  have hU3 := hU2.trans HU3.out
  have hup : ∀ k, k < w.heap.size → Fx k ∨ Fr r k → F k := by
    intro k hk h
    have hm : more F w2 w3 k := by
      rcases h with h | h
      · exact H5.out k h
      · exact H6.out r hr k h
    rcases hm with e | e
    · exact e
    · have := HB2.out.size; omega
  have hU5 : Upd F w w5 := hU3.then hu35 hup
  have hF3 : ∀ k, more F w2 w3 k → more F w w5 k := by
    rintro k (e | e)
    · exact .inl e
    · have h1 := HB2.out.size; have h2 := e.1; have h3 := e.2; exact .inr ⟨by omega, by omega⟩
  have hnew : ∀ k, w3.heap.size ≤ k → k < w5.heap.size → more F w w5 k := fun k h1 h2 => .inr ⟨by have := hU3.size; omega, h2⟩
  refine ⟨rfl, ⟨s, cap, bx, _, l, _, _, _, _, rfl, hrw, ?_, hF3 _ H4.out, ?_, ?_, more_lt HF.out hU5.size⟩, hU5⟩
  · intro a ha
    by_cases e : a = r
    · subst e
      rw [Rw.upd_same, Rw.upd_same, h3 a ha]
      simp
    · rw [Rw.upd_other _ _ e, Rw.upd_other _ _ e, h3 a ha]
  · intro k hk
    rcases hX' k hk with e | e
    · exact hF3 _ (H5.out k e)
    · exact hnew k e (HI5.out.lt k hk)
  · intro a ha k hk
    by_cases e : a = r
    · subst e
      rw [Rw.upd_same] at hk
      rcases hG k hk with e | e
      · exact hF3 _ (H6.out a ha k e)
      · exact hnew k e (by have := hGlt k hk; omega)
    · rw [Rw.upd_other _ _ e] at hk
      exact hF3 _ (H6.out a ha k hk)
end

end Go.Proofs.Ytkeicfajlmhajaa.Rw
