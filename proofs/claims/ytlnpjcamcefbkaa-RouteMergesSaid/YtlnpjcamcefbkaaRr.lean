/- The walk of the reference's Order: it tells the same order. -/
import Derived.Test.YtlnpjcamcefbkaaRk
namespace Go.Proofs.Ytlnpjcamcefbkaa.Rw
open Go Go.RowKit Go.Proofs.Ytlnpjcamcefbkaa.K Go.Proofs.Ytlnpjcamcefbkaa.Ro

/-- What is below nothing is nothing. -/
def pos (l : List Int) : List Int := l.map (max 0)

theorem tot_pos (l : List Int) : tot (pos l) = tot l := by
  induction l with
  | nil => rfl
  | cons n l ih => simp only [pos, List.map_cons, tot] at *; rw [ih]; omega
theorem clF_pos (l : List Int) : ∀ i, clF i (pos l) = clF i l := by
  induction l with
  | nil => intro i; rfl
  | cons n l ih =>
    intro i
    simp only [pos, List.map_cons, clF] at *
    rw [ih]
    by_cases h : 1 ≤ n
    · rw [if_pos h, if_pos (by omega)]
    · rw [if_neg h, if_neg (by omega)]
theorem cl_pos' (l : List Int) : cl (pos l) = cl l := clF_pos l 0
theorem who_pos (l ps : List Int) (i : Nat) : who (pos l) ps i = who l ps i := by unfold who; rw [cl_pos']
theorem after_pos {l ps : List Int} {i : Nat} (h : 1 ≤ tot l) : after (pos l) ps i = pos (after l ps i) := by
  obtain ⟨x, _, h2, h3, h4⟩ := who_spec (ps := ps) (i := i) h
  obtain ⟨x', _, h2', h3', h4'⟩ := who_spec (ps := ps) (i := i) (left := pos l) (by rw [tot_pos]; exact h)
  rw [who_pos] at h2' h4'
  have : (pos l)[who l ps i]? = some (max 0 x) := by unfold pos; rw [List.getElem?_map, h2]; rfl
  rw [this] at h2'
  cases h2'
  rw [h4', h4]
  have e : max 0 x - 1 = max 0 (x - 1) := by omega
  rw [e]
  unfold pos
  rw [List.map_set]
theorem ordF_pos (ps : List Int) (k : Nat) : ∀ (i : Nat) (l : List Int), (k : Int) ≤ tot l → ordF k i (pos l) ps = ordF k i l ps := by
  induction k with
  | zero => intro i l _; rfl
  | succ k ih =>
    intro i l h
    have ht := after_tot (ps := ps) (i := i) (left := l) (by omega)
    rw [ordF, ordF, who_pos, after_pos (by omega), ih (i + 1) _ (by omega)]
theorem ord_pos (cs ps : List Int) : ord (pos cs) ps = ord cs ps := by
  unfold ord
  rw [tot_pos]
  have := tot_nonneg cs
  split
  · rfl
  · exact ordF_pos ps _ 0 cs (by omega)

theorem append1' {ops : Array Oper} {rest : List Oper} {o : Oper} {a : Act} {Q : Exit → Act → World → Prop} {w : World} (hgd : o.guard = none) (s x : Operand)
    (ho : o.op = .call { callee := .builtin .append, args := #[s, x], argTypes := #[22, 22] }) (B : Nat) (v : Value) (n : Nat) (xs : List Value) (hs : a.eval s = v)
    (hown : w.ownsRow B 3 1 v n xs) (hB : B ≤ w.heap.size) (hn : n ≤ 17592186044404) (k : Int) (c : Nat) (H : Nat) (hH : w.heap.size = H)
    (hx : a.eval x = .slice (some ⟨H, 0, none⟩) 1 c)
    (h : ∀ g cap w', w'.ownsRow B 3 1 (.slice (some ⟨g, 0, none⟩) (n + 1) cap) (n + 1) (xs ++ [.int .i64 k]) → w.grownBy w' v.ownBlock → (v.ownBlock = some g ∨ H ≤ g) →
      wpList Try.prog ops Q rest (a.put o.dst (.slice (some ⟨g, 0, none⟩) (n + 1) cap)) w') :
    wpList Try.prog ops Q (o :: rest) a (w.alloc (.cells #[.int .i64 k] 3)) := by
  subst hH
  exact append1 hgd s x ho B v n xs hs hown hB hn k c hx h

/-- In the first loop. -/
structure LA (B : Nat) (cs : List Int) (k : Nat) (vl : Value) (w wr : World) : Prop where
  left : wr.ownsRow B 3 1 vl k (ints ((pos cs).take k))
  few : tot (cs.take k) ≤ 65536
  below : Below B w wr

theorem pos_succ {cs : List Int} {k : Nat} {x : Int} (hx : cs[k]? = some x) : ints ((pos cs).take (k + 1)) = ints ((pos cs).take k) ++ [.int .i64 (max 0 x)] := by
  rw [take_succ' (pos cs) k (max 0 x) (by unfold pos; rw [List.getElem?_map, hx]; rfl)]
  simp [ints]

/-- In the second loop. -/
structure LB (B : Nat) (cs ps : List Int) (k : Nat) (vl vo : Value) (w wr : World) : Prop where
  left : wr.ownsRow B 3 1 vl cs.length (ints (leftF k 0 cs ps))
  ord : wr.ownsRow B 3 1 vo k (nats (ordF k 0 cs ps))
  lo : ∀ g, vl.ownBlock = some g → vo.ownBlock ≠ some g
  below : Below B w wr

/-- In the loop within it. -/
structure LC (B : Nat) (cs ps : List Int) (k i : Nat) (vl vc vo : Value) (w wr : World) : Prop where
  b : LB B cs ps k vl vo w wr
  cli : wr.ownsRow B 3 1 vc (cl ((leftF k 0 cs ps).take i)).length (nats (cl ((leftF k 0 cs ps).take i)))
  lc : ∀ g, vl.ownBlock = some g → vc.ownBlock ≠ some g
  co : ∀ g, vc.ownBlock = some g → vo.ownBlock ≠ some g

theorem lc_step {B k i : Nat} {cs ps : List Int} {vl vc vo v' : Value} {w wr w1 : World} {x : Int} (h : LC B cs ps k i vl vc vo w wr) (hB : B ≤ wr.heap.size) (hx : (leftF k 0 cs ps)[i]? = some x) (h1 : 1 ≤ x)
    (hg : wr.grownBy w1 vc.ownBlock) (ho : w1.ownsRow B 3 1 v' ((cl ((leftF k 0 cs ps).take i)).length + 1) (nats (cl ((leftF k 0 cs ps).take i)) ++ [.int .i64 (i : Int)]))
    (hv : ∀ g, v'.ownBlock = some g → vc.ownBlock = some g ∨ wr.heap.size ≤ g) : LC B cs ps k (i + 1) vl v' vo w w1 := by
  have hs := cl_succ _ i x hx
  rw [if_pos h1] at hs
  refine ⟨⟨h.b.left.kept hg (kept_of h.lc), h.b.ord.kept hg (kept_of (fun g hg he => h.co g he hg)), h.b.lo, h.b.below.grown hg hB (fun g hgg => (h.cli.lt g hgg).1)⟩, ?_, fun g hgl he => ?_, fun g hgl he => ?_⟩
  · rw [hs]; simpa [nats] using ho
  · rcases hv g he with e | e
    · exact h.lc g hgl e
    · have := (h.b.left.lt g hgl).2; omega
  · rcases hv g hgl with e | e
    · exact h.co g e he
    · have := (h.b.ord.lt g he).2; omega

theorem lc_skip {B k i : Nat} {cs ps : List Int} {vl vc vo : Value} {w wr : World} {x : Int} (h : LC B cs ps k i vl vc vo w wr) (hx : (leftF k 0 cs ps)[i]? = some x) (h1 : ¬ 1 ≤ x) :
    LC B cs ps k (i + 1) vl vc vo w wr := by
  have hs := cl_succ _ i x hx
  rw [if_neg h1, List.append_nil] at hs
  exact ⟨h.b, by rw [hs]; exact h.cli, h.lc, h.co⟩

theorem lc_done {B k : Nat} {cs ps : List Int} {vl vc vo : Value} {w wr : World} (h : LC B cs ps k cs.length vl vc vo w wr) (hk : (k : Int) ≤ tot cs) : L2 B cs ps k vl vc vo w wr := by
  have e : (leftF k 0 cs ps).take cs.length = leftF k 0 cs ps := List.take_of_length_le (by have := (leftF_tot k 0 cs ps hk).2; omega)
  have hc := h.cli
  rw [e] at hc
  exact ⟨h.b.left, hc, h.b.ord, h.lc, h.b.lo, h.co, h.b.below⟩

/-- A round's end: one operation less, one client more. -/
theorem lb_next {B k gl cl' g cap W : Nat} {cs ps : List Int} {vc vo : Value} {w wr w1 : World} {x : Int} (h : L2 B cs ps k (.slice (some ⟨gl, 0, none⟩) cs.length cl') vc vo w wr) (hk : (k : Int) < tot cs) (hB : B ≤ wr.heap.size)
    (eW : W = who (leftF k 0 cs ps) ps k) (hx : (leftF k 0 cs ps)[W]? = some x)
    (hg : (wr.setCell ⟨gl, W, none⟩ (.int .i64 (x - 1))).grownBy w1 vo.ownBlock)
    (ho : w1.ownsRow B 3 1 (.slice (some ⟨g, 0, none⟩) (k + 1) cap) (k + 1) (nats (ordF k 0 cs ps) ++ [.int .i64 (W : Int)]))
    (hv : vo.ownBlock = some g ∨ wr.heap.size ≤ g) : LB B cs ps (k + 1) (.slice (some ⟨gl, 0, none⟩) cs.length cl') (.slice (some ⟨g, 0, none⟩) (k + 1) cap) w w1 := by
  have ht := leftF_tot k 0 cs ps (by omega)
  subst eW
  obtain ⟨x', h1, h2, h3, h4⟩ := who_spec (ps := ps) (i := k) (left := leftF k 0 cs ps) (by omega)
  rw [hx] at h2
  cases h2
  have e := leftF_snoc k 0 cs ps
  rw [Nat.zero_add, h4] at e
  have hno := h.lo gl rfl
  have hgl := (h.left.lt gl rfl)
  have l1 := own_set h.left (who (leftF k 0 cs ps) ps k) (.int .i64 (x - 1))
  refine ⟨?_, ?_, ?_, ?_⟩
  · rw [e]
    have := l1.kept hg (kept_of (fun g' hg' => by
      have : gl = g' := by simpa [Value.ownBlock] using hg'
      subst this; exact hno))
    simpa [ints, List.map_set] using this
  · rw [ordF_snoc, Nat.zero_add]; simpa [nats] using ho
  · intro g' hg' he
    have e1 : gl = g' := by simpa [Value.ownBlock] using hg'
    have e2 : g = g' := by simpa [Value.ownBlock] using he
    subst e1 e2
    rcases hv with e3 | e3
    · exact hno e3
    · have := hgl.2; omega
  · exact (h.below.setCell (p := ⟨gl, who (leftF k 0 cs ps) ps k, none⟩) hgl.1 _).grown hg (by simpa using hB) (fun g' hg' => (h.ord.lt g' hg').1)

end Go.Proofs.Ytlnpjcamcefbkaa.Rw
