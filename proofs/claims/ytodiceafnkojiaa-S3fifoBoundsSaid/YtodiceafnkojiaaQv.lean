/- S3-FIFO in memory: counted, State. -/
import Derived.Test.YtodiceafnkojiaaTx
import Derived.Test.YtodiceafnkojiaaQe
namespace Go.Proofs.Ytodiceafnkojiaa.Eg
open Go Go.RowKit Go.Proofs.Ytodiceafnkojiaa.K Go.Proofs.Ytodiceafnkojiaa.Sl
open Go.Proofs.Ytodiceafnkojiaa.Li (more more_lt infoS own_form')
open Go.Proofs.Ytodiceafnkojiaa.Rw
open Go.Proofs.Ytodiceafnkojiaa.Tx (txt str three text_any join_own join_three)

/-- A digit. -/
def dig (n : Nat) : ByteArray := Utf8.encode (48 + (n : Int))
/-- A key with its count. -/
def ctx (K : Ks) (k : ByteArray) : ByteArray := k ++ ⟨#[47]⟩ ++ dig (K.n k)
theorem dig_size {n : Nat} (h : n ≤ 3) : (dig n).size = 1 := by
  rcases (by omega : n = 0 ∨ n = 1 ∨ n = 2 ∨ n = 3) with rfl | rfl | rfl | rfl <;> decide
theorem ctx_size {c : Nat} {K : Ks} (hi : Inv c K) {r : Nat} (hr : r < 3) {k : ByteArray} (hk : k ∈ K.r r) : (ctx K k).size ≤ 50 := by
  have h1 := hi.small r hr k hk
  have h2 := dig_size (hi.cnt k)
  unfold ctx
  rw [ByteArray.size_append, ByteArray.size_append, h2]
  show k.size + 1 + 1 ≤ 50
  omega
/-- A row with its counts. -/
def counts (K : Ks) (r : Nat) : List ByteArray := (K.r r).map (ctx K)
theorem counts_size {c : Nat} {K : Ks} (hi : Inv c K) {r : Nat} (hr : r < 3) : ∀ k ∈ counts K r, k.size ≤ 50 := by
  intro k hk
  obtain ⟨x, hx, rfl⟩ := List.mem_map.1 hk
  exact ctx_size hi hr hx

/-- All as a text. -/
def stext (K : Ks) : ByteArray := str (three (txt [83] (counts K 0)) (txt [77] (counts K 1)) (txt [71] (K.r 2)))

section
variable {w W W' : World} {b c : Nat} {F : Nat → Prop} {K : Ks}

theorem keys_w {s cap bx : Nat} {G : Nat → Prop} {R : Rs} (h : Rw.Rows 3 w (rva s cap bx) G R) (W : World) (a r : Nat) (z : Int) (hb : Below w.heap.size w W) (hz : z = (r : Int)) (hr : r < 3) (hl : (R r).length ≤ 80000) (ha : W.cell? ⟨a, 0, none⟩ = some (.int .i64 z)) :
    Calls Try.prog 48 #[rva s cap bx, .slice (some ⟨a, 0, none⟩) 1 1] W (Texts (R r) W) := by
  subst hz
  refine (rows_keys (rs := [r]) (a := a) (c := 1) (h.below hb) (by simp; exact hr) (fun j q hj => ?_) (by simp) (by rw [cat_1]; omega)).mono ?_
  · match j with
    | 0 => simp at hj; subst hj; exact ha
    | _ + 1 => simp at hj
  · rintro e w' ⟨v, h1, h2, h3⟩
    rw [cat_1] at h2
    exact ⟨v, h1, h2, h3⟩

theorem mem_row {r : Nat} (hr : r < 2) {k : ByteArray} (hk : k ∈ K.r r) : k ∈ res K := by
  rw [mem_res]
  match r, hr with
  | 0, _ => exact .inl hk
  | 1, _ => exact .inr hk

/-- A row whose first j keys have got their counts. -/
def part (K : Ks) (xs : List ByteArray) (j : Nat) : List ByteArray := (xs.take j).map (ctx K) ++ xs.drop j
theorem part_set {xs : List ByteArray} {j : Nat} {k : ByteArray} (hk : xs[j]? = some k) : (part K xs j).set j (ctx K k) = part K xs (j + 1) := by
  have hj := lt_of_getElem? hk
  unfold part
  rw [List.set_append_right _ _ (by simp; omega)]
  have e : j - ((xs.take j).map (ctx K)).length = 0 := by simp; omega
  rw [e, List.take_add_one, hk, List.map_append, List.append_assoc]
  congr 1
  rw [List.drop_eq_getElem_cons hj]
  rw [List.getElem?_eq_getElem hj] at hk
  cases hk
  rfl
theorem part_get {xs : List ByteArray} {j : Nat} {k : ByteArray} (hk : xs[j]? = some k) : (part K xs j)[j]? = some k := by
  have hj := lt_of_getElem? hk
  unfold part
  rw [List.getElem?_append_right (by simp; omega)]
  have e : j - ((xs.take j).map (ctx K)).length = 0 := by simp; omega
  rw [e, List.getElem?_drop, Nat.add_zero, hk]

set_option maxHeartbeats 1600000 in
theorem counted_at (h : Eng w b F c K) (r : Nat) (hr : r < 2) {z : Int} (hz : z = (r : Int)) :
    Calls Try.prog 59 #[.pointer (some ⟨b, 0, none⟩), .int .i64 z] w (Texts (counts K r) w) := by
  subst hz
  have hi := h.inv
  obtain ⟨s, cap, bx, y, G, H, hm⟩ := h.mid
  have HM := Lib.hid hm
  obtain ⟨c0, c1, c2, c3, c4, c5⟩ := hm.cells
  have hl := lens hi r (by omega)
  have KS := Lib.hid (keys_w hm.rows (w.alloc (.cells #[.int .i64 (r : Int)] 3)) w.heap.size r (r : Int) ((Below.refl _ _).alloc (Nat.le_refl _) _) rfl (by omega) hl (cell_of (heap_alloc_new w _) 0))
  have GT : Hid (∀ (w1 : World) (k : ByteArray), MidK w b s cap bx y c F G H K w1 → k ∈ K.r r → Calls Try.prog 42 #[.pointer (some ⟨y, 0, none⟩), .string k] w1 fun e w' => e = .returned (.tuple #[.int .i64 (K.n k : Int), .bool true]) ∧ ∃ q, w' = w1.drewN q) := Lib.hid (fun w1 k h hk => get_at h (mem_row hr hk))
  have HI := Lib.hid hi
  obtain ⟨xs, hxs⟩ : ∃ xs, xs = K.r r := ⟨_, rfl⟩
  have HX := Lib.hid hxs
  have HCX : Hid (counts K r = xs.map (ctx K)) := Lib.hid (by rw [hxs]; rfl)
  rw [← hxs] at KS hl
  clear hm h hi hxs
  obtain ⟨N, hN⟩ : ∃ N, N = xs.length := ⟨_, rfl⟩
  have HN := Lib.hid hN
  rw [← hN] at hl
  clear hN
  go_enter Try.func59, Try.ntmps59
  go_wp2_with fail
  refine KS.out.mono ?_
  rintro e w1 ⟨v, rfl, ho, hb⟩
  rw [← HN.out] at ho
  obtain ⟨A, cp, rfl⟩ := own_form' ho
  have HO : Hid (w1.ownsRow w.heap.size 9 1 (.slice A N cp) N ((part K xs 0).map .string)) := Lib.hid (by unfold part; simpa using own_mono ho (by simp))
  have HB : Hid (Below w.heap.size w w1) := Lib.hid (((Below.refl _ _).alloc (Nat.le_refl _) _).trans (hb.mono (by simp)))
  clear ho hb
  go_wp2_with fail
  go_loopg [19] N (fun k v19 wr => ∃ j : Nat, j ≤ N ∧ k = N - j ∧ v19 = .int .i64 (j : Int) ∧ wr.ownsRow w.heap.size 9 1 (.slice A N cp) N ((part K xs j).map .string) ∧ Below w.heap.size w wr)
  case atStart => exact ⟨0, by omega, by omega, rfl, HO.out, HB.out⟩
  case round =>
    clear HO HB
    obtain ⟨j, hj, hgk, rfl, ho, hb⟩ := hrel
    have HGK := Lib.hid hgk
    have HO := Lib.hid ho
    have HB := Lib.hid hb
    clear hgk
    rcases Nat.eq_or_lt_of_le hj with rfl | hjl
    · have HF : Hid (part K xs j = counts K r) := Lib.hid (by unfold part; rw [HCX.out, HN.out, List.take_length, List.drop_length, List.append_nil])
      have HLN : Hid (j = (counts K r).length) := Lib.hid (by rw [HCX.out, List.length_map]; exact HN.out)
      clear ho hb
      go_wp2_with fail
      go_ret
      have h1 := HO.out
      rw [HF.out] at h1
      rw [HLN.out] at h1 ⊢
      exact ⟨_, rfl, h1, HB.out⟩
    · obtain ⟨g, cp', hv, hge, hgl⟩ := ho.form (by omega)
      cases hv
      obtain ⟨k, hk⟩ : ∃ k, xs[j]? = some k := ⟨_, List.getElem?_eq_getElem (by rw [← HN.out]; exact hjl)⟩
      have hcell : wr.cell? ⟨g, j, none⟩ = some (.string k) := by
        rw [ho.cellAt j (by omega), List.getElem?_map, part_get hk]; rfl
      have hfz := ho.frozenAt
      have hkm : k ∈ K.r r := by rw [← HX.out]; exact List.mem_of_getElem? hk
      have HM1 := Lib.hid (HM.out.below hb)
      have G1 : Hid (Calls Try.prog 42 #[.pointer (some ⟨y, 0, none⟩), .string k] wr fun e w' => e = .returned (.tuple #[.int .i64 (K.n k : Int), .bool true]) ∧ ∃ q, w' = wr.drewN q) := Lib.hid (GT.out wr k HM1.out hkm)
      obtain ⟨d0, d1, d2, d3, d4, d5⟩ := HM1.out.cells
      have hks : k.size ≤ 40 := HI.out.small r (by omega) k hkm
      have hn3 := HI.out.cnt k
      have HS : Hid ((part K xs j).set j (k ++ ⟨#[47]⟩ ++ dig (K.n k)) = part K xs (j + 1)) := Lib.hid (part_set hk)
      clear ho hb hk hkm
      generalize K.n k = n at *
      have z0 : (0 : Int) ≤ (j : Int) := by omega
      have z1 : (j : Int) < (N : Int) := by omega
      have E0 : (Utf8.encode 48).size = 1 := by decide
      have E1 : (Utf8.encode 49).size = 1 := by decide
      have E2 : (Utf8.encode 50).size = 1 := by decide
      have E3 : (Utf8.encode 51).size = 1 := by decide
      rcases (by omega : n = 0 ∨ n = 1 ∨ n = 2 ∨ n = 3) with rfl | rfl | rfl | rfl
      all_goals
        go_wp2_with fail
        refine G1.out.mono ?_
        rintro e w3 ⟨rfl, q, rfl⟩
        go_wp2_with fail
        go_roundg (N - (j + 1))
        case measure => rw [HGK.out]; omega
        case rel =>
          refine ⟨j + 1, hjl, rfl, rfl, ?_, ((below_drewN HB.out q).setCell (p := ⟨g, j, none⟩) hge _)⟩
          rw [← HS.out, List.map_set]
          exact own_set (own_drewN (k := q) HO.out) j _

theorem cdrew {p : Addr} {x : Option Value} (h : W.cell? p = x) : W.drew.cell? p = x := h
theorem cold {a o : Nat} {x : Value} {ob : Obj} (h : W.cell? ⟨a, o, none⟩ = some x) : (W.alloc ob).cell? ⟨a, o, none⟩ = some x := cell_below ((Below.refl _ _).alloc (Nat.le_refl _) _) h
theorem cnext {a o : Nat} {x : Value} (hb : Below W.heap.size W W') (h : W.cell? ⟨a, o, none⟩ = some x) : W'.cell? ⟨a, o, none⟩ = some x := cell_below hb h
theorem cnew (W : World) (x : Value) (T : TypeId) : (W.alloc (.cells #[x] T)).cell? ⟨W.heap.size, 0, none⟩ = some x := cell_of (heap_alloc_new W _) 0
theorem cnew' (W : World) (x : Value) (T : TypeId) {n : Nat} (hn : W.heap.size = n) : (W.alloc (.cells #[x] T)).cell? ⟨n, 0, none⟩ = some x := by subst hn; exact cnew W x T
theorem bdrew {B : Nat} (h : Below B w W) : Below B w W.drew := below_drewN h 1
theorem bal' (h : Below w.heap.size w W) (o : Obj) : Below w.heap.size w (W.alloc o) := h.alloc h.size o
theorem bnext (hb : Below W.heap.size W W') (h : Below w.heap.size w W) : Below w.heap.size w W' := below_next h hb

set_option maxHeartbeats 8000000 in
theorem eng_state (h : Eng w b F c K) : Calls Try.prog 33 #[.pointer (some ⟨b, 0, none⟩)] w fun e w' => e = .returned (.string (stext K)) ∧ Below w.heap.size w w' := by
  have hi := h.inv
  obtain ⟨s, cap, bx, y, G, H, hm⟩ := h.mid
  obtain ⟨c0, c1, -⟩ := hm.cells
  have hl := hi.len1
  have CW0 : Hid (∀ W : World, Below w.heap.size w W → Calls Try.prog 59 #[.pointer (some ⟨b, 0, none⟩), .int .i64 0] W (Texts (counts K 0) W)) := Lib.hid (fun W hb => counted_at (h.below hb) 0 (by omega) rfl)
  have CW1 : Hid (∀ W : World, Below w.heap.size w W → Calls Try.prog 59 #[.pointer (some ⟨b, 0, none⟩), .int .i64 1] W (Texts (counts K 1) W)) := Lib.hid (fun W hb => counted_at (h.below hb) 1 (by omega) rfl)
  have KW : Hid (∀ (W : World) (a : Nat), Below w.heap.size w W → W.cell? ⟨a, 0, none⟩ = some (.int .i64 2) → Calls Try.prog 48 #[rva s cap bx, .slice (some ⟨a, 0, none⟩) 1 1] W (Texts (K.r 2) W)) := Lib.hid (fun W a hb ha => keys_w hm.rows W a 2 2 hb rfl (by omega) (by omega) ha)
  obtain ⟨t0, ht0⟩ : ∃ t, t = str (txt [83] (counts K 0)) := ⟨_, rfl⟩
  obtain ⟨t1, ht1⟩ : ∃ t, t = str (txt [77] (counts K 1)) := ⟨_, rfl⟩
  obtain ⟨t2, ht2⟩ : ∃ t, t = str (txt [71] (K.r 2)) := ⟨_, rfl⟩
  have l0 : (counts K 0).length ≤ 1024 := by unfold counts; rw [List.length_map]; omega
  have l1 : (counts K 1).length ≤ 1024 := by unfold counts; rw [List.length_map]; omega
  have s0 := counts_size hi (r := 0) (by omega)
  have s1 := counts_size hi (r := 1) (by omega)
  have s2 : ∀ k ∈ K.r 2, k.size ≤ 50 := fun k hk => by have := hi.small 2 (by omega) k hk; omega
  have TW0 : Hid (∀ (W : World) (A : Option Addr) (cp : Nat) (Fk : Nat → Prop), Sl W (.slice A (counts K 0).length cp) Fk (counts K 0) → Calls Try.prog 58 #[.string ⟨#[83]⟩, .slice A (counts K 0).length cp] W fun e w' => e = .returned (.string t0) ∧ Below W.heap.size W w') :=
    Lib.hid (fun W A cp Fk h => by rw [ht0]; exact text_any h (by omega) s0 ⟨#[83]⟩ (by decide))
  have TW1 : Hid (∀ (W : World) (A : Option Addr) (cp : Nat) (Fk : Nat → Prop), Sl W (.slice A (counts K 1).length cp) Fk (counts K 1) → Calls Try.prog 58 #[.string ⟨#[77]⟩, .slice A (counts K 1).length cp] W fun e w' => e = .returned (.string t1) ∧ Below W.heap.size W w') :=
    Lib.hid (fun W A cp Fk h => by rw [ht1]; exact text_any h (by omega) s1 ⟨#[77]⟩ (by decide))
  have TW2 : Hid (∀ (W : World) (A : Option Addr) (cp : Nat) (Fk : Nat → Prop), Sl W (.slice A (K.r 2).length cp) Fk (K.r 2) → Calls Try.prog 58 #[.string ⟨#[71]⟩, .slice A (K.r 2).length cp] W fun e w' => e = .returned (.string t2) ∧ Below W.heap.size W w') :=
    Lib.hid (fun W A cp Fk h => by rw [ht2]; exact text_any h (by omega) s2 ⟨#[71]⟩ (by decide))
  have JW : Hid (∀ W : World, Calls Try.prog 57 #[.slice (some ⟨W.heap.size, 0, none⟩) 3 3, .string ⟨#[59]⟩] (W.alloc (.cells #[.string t0, .string t1, .string t2] 9)) fun e w' => e = .returned (.string (stext K)) ∧ Below W.heap.size W w') := Lib.hid (fun W => by
    have h1 := Tx.tail_len (counts K 0) s0
    have h2 := Tx.tail_len (counts K 1) s1
    have h3 := Tx.tail_len (K.r 2) s2
    have e : Lib.join ([t0, t1, t2].map (·.data.toList)) (⟨#[59]⟩ : ByteArray).data.toList = three (txt [83] (counts K 0)) (txt [77] (counts K 1)) (txt [71] (K.r 2)) := by
      rw [ht0, ht1, ht2]; exact join_three _ _ _
    refine (join_own (xs := [t0, t1, t2]) (World.ownsRow_lit (base := W.heap.size) (e := 9) (size := 1) W #[.string t0, .string t1, .string t2] 3 (Nat.le_refl _) (by unfold maxLen; omega) rfl) (by simp) (by simp) ⟨#[59]⟩ (by rw [e]; simp [three, txt]; omega)).mono ?_
    rintro e' w' ⟨h1, h2⟩
    rw [e] at h1
    exact ⟨h1, below_next ((Below.refl _ _).alloc (Nat.le_refl _) _) h2⟩)
  clear hm h hl ht0 ht1 ht2 hi l0 l1 s0 s1 s2
  generalize counts K 0 = N0 at *
  generalize counts K 1 = N1 at *
  generalize K.r 2 = N2 at *
  go_enter Try.func33, Try.ntmps33
  go_wp2_with fail
  go_region_held3 (fun w' => w'.cell? ⟨b, 0, none⟩ = some (.slice (some ⟨s, 0, none⟩) 3 cap) ∧ w'.cell? ⟨b, 1, none⟩ = some (.pointer (some ⟨bx, 0, none⟩)))
    (((refine ⟨?_, ?_⟩ <;> (repeat (first | exact c0 | exact c1 | refine cold ?_ | refine cell_below HB7.out ?_ | refine cnext HB6.out ?_ | refine cnext HB5.out ?_ | refine cnext HB4.out ?_ | refine cnext HB3.out ?_ | refine cnext HB2.out ?_ | refine cnext HB1.out ?_ | refine cdrew ?_)))))
    (first | (go_at_call 57; refine (JW.out w6).mono ?_; rintro e w7 ⟨rfl, hb⟩; have HB7 := Lib.hid hb; clear hb) | (go_at_call 58; refine (TW2.out _ _ _ _ (Sl.below SL5.out (by repeat (first | exact Below.refl _ _ | refine bal' ?_ _ | refine bdrew ?_ | refine bnext HB6.out ?_ | refine bnext HB5.out ?_ | refine bnext HB4.out ?_ | refine bnext HB3.out ?_ | refine bnext HB2.out ?_ | refine bnext HB1.out ?_)))).mono ?_; rintro e w6 ⟨rfl, hb⟩; have HB6 := Lib.hid hb; clear hb) | (go_at_call 48; have hg := HB4.out; refine (KW.out _ _ (by repeat (first | exact Below.refl _ _ | refine bal' ?_ _ | refine bdrew ?_ | refine bnext HB6.out ?_ | refine bnext HB5.out ?_ | refine bnext HB4.out ?_ | refine bnext HB3.out ?_ | refine bnext HB2.out ?_ | refine bnext HB1.out ?_)) (by repeat (first | exact cnew _ _ _ | exact cnew' _ _ _ (by simp) | refine cold ?_ | refine cnext HB6.out ?_ | refine cnext HB5.out ?_ | refine cnext HB4.out ?_ | refine cnext HB3.out ?_ | refine cnext HB2.out ?_ | refine cnext HB1.out ?_ | refine cdrew ?_))).mono ?_; rintro e w5 ⟨v5, rfl, ho, hb⟩; obtain ⟨A5, p5, hv⟩ := own_form' ho; subst hv; have HB5 := Lib.hid hb; have SL5 := Lib.hid (Sl.of_own (F := fun _ => True) ho (fun _ _ => trivial)); clear ho hb) | (go_at_call 58; refine (TW1.out _ _ _ _ (Sl.below SL3.out (by repeat (first | exact Below.refl _ _ | refine bal' ?_ _ | refine bdrew ?_ | refine bnext HB4.out ?_ | refine bnext HB3.out ?_ | refine bnext HB2.out ?_ | refine bnext HB1.out ?_)))).mono ?_; rintro e w4 ⟨rfl, hb⟩; have HB4 := Lib.hid hb; clear hb) | (go_at_call 59; have hg := HB2.out; refine (CW1.out _ (by repeat (first | exact Below.refl _ _ | refine bal' ?_ _ | refine bdrew ?_ | refine bnext HB2.out ?_ | refine bnext HB1.out ?_))).mono ?_; rintro e w3 ⟨v3, rfl, ho, hb⟩; obtain ⟨A3, p3, hv⟩ := own_form' ho; subst hv; have HB3 := Lib.hid hb; have SL3 := Lib.hid (Sl.of_own (F := fun _ => True) ho (fun _ _ => trivial)); clear ho hb) | (go_at_call 58; refine (TW0.out _ _ _ _ (Sl.below SL1.out (by repeat (first | exact Below.refl _ _ | refine bal' ?_ _ | refine bdrew ?_ | refine bnext HB1.out ?_)))).mono ?_; rintro e w2 ⟨rfl, hb⟩; have HB2 := Lib.hid hb; clear hb) | (go_at_call 59; refine (CW0.out _ (by repeat (first | exact Below.refl _ _ | refine bal' ?_ _ | refine bdrew ?_))).mono ?_; rintro e w1 ⟨v1, rfl, ho, hb⟩; obtain ⟨A1, p1, hv⟩ := own_form' ho; subst hv; have HB1 := Lib.hid hb; have SL1 := Lib.hid (Sl.of_own (F := fun _ => True) ho (fun _ _ => trivial)); clear ho hb))
  all_goals
    go_wp2_with fail
    go_ret
    exact ⟨rfl, (by repeat (first | exact Below.refl _ _ | refine bal' ?_ _ | refine bnext HB7.out ?_ | refine bnext HB6.out ?_ | refine bnext HB5.out ?_ | refine bnext HB4.out ?_ | refine bnext HB3.out ?_ | refine bnext HB2.out ?_ | refine bnext HB1.out ?_ | refine bdrew ?_))⟩
end

end Go.Proofs.Ytodiceafnkojiaa.Eg
