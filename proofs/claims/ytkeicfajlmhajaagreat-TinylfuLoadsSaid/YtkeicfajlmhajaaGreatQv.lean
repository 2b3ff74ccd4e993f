/- TinyLFU in memory: State. -/
import Derived.Test.YtkeicfajlmhajaaGreatTx
import Derived.Test.YtkeicfajlmhajaaGreatQi
namespace Go.Proofs.YtkeicfajlmhajaaGreat.Eg
open Go Go.RowKit Go.Proofs.YtkeicfajlmhajaaGreat.K Go.Proofs.YtkeicfajlmhajaaGreat.Sl
open Go.Proofs.YtkeicfajlmhajaaGreat.Li (more more_lt infoS own_form')
open Go.Proofs.YtkeicfajlmhajaaGreat.Rw
open Go.Proofs.YtkeicfajlmhajaaGreat.Tx (txt str three text_any join_own join_three)

/-- All as a text. -/
def stext (K : Ks) : ByteArray := str (three (txt [87] (K.r 0)) (txt [65] (K.r 1)) (txt [80] (K.r 2)))

section
variable {w W W' : World} {b c : Nat} {F : Nat → Prop} {K : Ks}
theorem cdrew {p : Addr} {x : Option Value} (h : W.cell? p = x) : W.drew.cell? p = x := h
theorem cold {a o : Nat} {x : Value} {ob : Obj} (h : W.cell? ⟨a, o, none⟩ = some x) : (W.alloc ob).cell? ⟨a, o, none⟩ = some x := cell_below ((Below.refl _ _).alloc (Nat.le_refl _) _) h
theorem cnext {a o : Nat} {x : Value} (hb : Below W.heap.size W W') (h : W.cell? ⟨a, o, none⟩ = some x) : W'.cell? ⟨a, o, none⟩ = some x := cell_below hb h
theorem cnew (W : World) (x : Value) (T : TypeId) : (W.alloc (.cells #[x] T)).cell? ⟨W.heap.size, 0, none⟩ = some x := cell_of (heap_alloc_new W _) 0
theorem cnew' (W : World) (x : Value) (T : TypeId) {n : Nat} (hn : W.heap.size = n) : (W.alloc (.cells #[x] T)).cell? ⟨n, 0, none⟩ = some x := by subst hn; exact cnew W x T
theorem bdrew {B : Nat} (h : Below B w W) : Below B w W.drew := below_drewN h 1
theorem bal {B : Nat} (hB : B ≤ W.heap.size) (h : Below B w W) (o : Obj) : Below B w (W.alloc o) := h.alloc hB o
theorem bal' (h : Below w.heap.size w W) (o : Obj) : Below w.heap.size w (W.alloc o) := h.alloc h.size o
theorem bnext (hb : Below W.heap.size W W') (h : Below w.heap.size w W) : Below w.heap.size w W' := below_next h hb

theorem keys_w {s cap bx : Nat} {G : Nat → Prop} (h : Rw.Rows 3 w (rva s cap bx) G K.r) (hi : Inv c K) (W : World) (a r : Nat) (z : Int) (hb : Below w.heap.size w W) (hz : z = (r : Int)) (hr : r < 3) (ha : W.cell? ⟨a, 0, none⟩ = some (.int .i64 z)) :
    Calls Tryz.prog 47 #[rva s cap bx, .slice (some ⟨a, 0, none⟩) 1 1] W (Texts (K.r r) W) := by
  subst hz
  have hl := lens hi r hr
  refine (rows_keys (rs := [r]) (a := a) (c := 1) (h.below hb) (by simp; exact hr) (fun j q hj => ?_) (by simp) (by rw [cat_1]; omega)).mono ?_
  · match j with
    | 0 => simp at hj; subst hj; exact ha
    | _ + 1 => simp at hj
  · rintro e w' ⟨v, h1, h2, h3⟩
    rw [cat_1] at h2
    exact ⟨v, h1, h2, h3⟩

set_option maxHeartbeats 4000000 in
theorem eng_state (h : Eng w b F c K) : Calls Tryz.prog 27 #[.pointer (some ⟨b, 0, none⟩)] w fun e w' => e = .returned (.string (stext K)) ∧ Below w.heap.size w w' := by
  have hi := h.inv
  obtain ⟨s, cap, bx, kb, db, G, H, hm⟩ := h.mid
  obtain ⟨c0, c1, -⟩ := hm.cells
  have KW := Lib.hid (fun (W : World) (a r : Nat) (z : Int) (hb : Below w.heap.size w W) (hz : z = (r : Int)) (hr : r < 3) (ha : W.cell? ⟨a, 0, none⟩ = some (.int .i64 z)) => keys_w hm.rows hi W a r z hb hz hr ha)
  obtain ⟨t0, ht0⟩ : ∃ t, t = str (txt [87] (K.r 0)) := ⟨_, rfl⟩
  obtain ⟨t1, ht1⟩ : ∃ t, t = str (txt [65] (K.r 1)) := ⟨_, rfl⟩
  obtain ⟨t2, ht2⟩ : ∃ t, t = str (txt [80] (K.r 2)) := ⟨_, rfl⟩
  have hl := hi.len1
  have TW0 : Hid (∀ (W : World) (A : Option Addr) (cp : Nat) (Fk : Nat → Prop), Sl W (.slice A (K.r 0).length cp) Fk (K.r 0) → Calls Tryz.prog 54 #[.string ⟨#[87]⟩, .slice A (K.r 0).length cp] W fun e w' => e = .returned (.string t0) ∧ Below W.heap.size W w') :=
    Lib.hid (fun W A cp Fk h => by rw [ht0]; exact text_any h (by omega) (hi.small 0 (by omega)) ⟨#[87]⟩ (by decide))
  have TW1 : Hid (∀ (W : World) (A : Option Addr) (cp : Nat) (Fk : Nat → Prop), Sl W (.slice A (K.r 1).length cp) Fk (K.r 1) → Calls Tryz.prog 54 #[.string ⟨#[65]⟩, .slice A (K.r 1).length cp] W fun e w' => e = .returned (.string t1) ∧ Below W.heap.size W w') :=
    Lib.hid (fun W A cp Fk h => by rw [ht1]; exact text_any h (by omega) (hi.small 1 (by omega)) ⟨#[65]⟩ (by decide))
  have TW2 : Hid (∀ (W : World) (A : Option Addr) (cp : Nat) (Fk : Nat → Prop), Sl W (.slice A (K.r 2).length cp) Fk (K.r 2) → Calls Tryz.prog 54 #[.string ⟨#[80]⟩, .slice A (K.r 2).length cp] W fun e w' => e = .returned (.string t2) ∧ Below W.heap.size W w') :=
    Lib.hid (fun W A cp Fk h => by rw [ht2]; exact text_any h (by omega) (hi.small 2 (by omega)) ⟨#[80]⟩ (by decide))
  have JW : Hid (∀ W : World, Calls Tryz.prog 53 #[.slice (some ⟨W.heap.size, 0, none⟩) 3 3, .string ⟨#[59]⟩] (W.alloc (.cells #[.string t0, .string t1, .string t2] 9)) fun e w' => e = .returned (.string (stext K)) ∧ Below W.heap.size W w') := Lib.hid (fun W => by
    have h1 := Tx.tail_len (K.r 0) (hi.small 0 (by omega))
    have h2 := Tx.tail_len (K.r 1) (hi.small 1 (by omega))
    have h3 := Tx.tail_len (K.r 2) (hi.small 2 (by omega))
    have e : Lib.join ([t0, t1, t2].map (·.data.toList)) (⟨#[59]⟩ : ByteArray).data.toList = three (txt [87] (K.r 0)) (txt [65] (K.r 1)) (txt [80] (K.r 2)) := by
      rw [ht0, ht1, ht2]; exact join_three _ _ _
    refine (join_own (xs := [t0, t1, t2]) (World.ownsRow_lit (base := W.heap.size) (e := 9) (size := 1) W #[.string t0, .string t1, .string t2] 3 (Nat.le_refl _) (by unfold maxLen; omega) rfl) (by simp) (by simp) ⟨#[59]⟩ (by rw [e]; simp [three, txt]; omega)).mono ?_
    rintro e' w' ⟨h1, h2⟩
    rw [e] at h1
    exact ⟨h1, below_next ((Below.refl _ _).alloc (Nat.le_refl _) _) h2⟩)
  clear hm h hl ht0 ht1 ht2 hi
  go_enter Tryz.func27, Tryz.ntmps27
  go_wp2_with fail
  go_region_held3 (fun w' => w'.cell? ⟨b, 0, none⟩ = some (.slice (some ⟨s, 0, none⟩) 3 cap) ∧ w'.cell? ⟨b, 1, none⟩ = some (.pointer (some ⟨bx, 0, none⟩)))
    (((refine ⟨?_, ?_⟩ <;> (repeat (first | exact c0 | exact c1 | refine cold ?_ | refine cell_below HB7.out ?_ | refine cnext HB6.out ?_ | refine cnext HB5.out ?_ | refine cnext HB4.out ?_ | refine cnext HB3.out ?_ | refine cnext HB2.out ?_ | refine cnext HB1.out ?_ | refine cdrew ?_)))))
    (first | (go_at_call 53; refine (JW.out w6).mono ?_; rintro e w7 ⟨rfl, hb⟩; have HB7 := Lib.hid hb; clear hb) | (go_at_call 54; refine (TW2.out _ _ _ _ (Sl.below SL5.out (by repeat (first | exact Below.refl _ _ | exact HBB.out | refine bal' ?_ _ | refine bdrew ?_ | refine bnext HB6.out ?_ | refine bnext HB5.out ?_ | refine bnext HB4.out ?_ | refine bnext HB3.out ?_ | refine bnext HB2.out ?_ | refine bnext HB1.out ?_)))).mono ?_; rintro e w6 ⟨rfl, hb⟩; have HB6 := Lib.hid hb; clear hb) | (go_at_call 47; have hg := HB4.out; refine (KW.out _ _ 2 2 (by repeat (first | exact Below.refl _ _ | exact HBB.out | refine bal' ?_ _ | refine bdrew ?_ | refine bnext HB6.out ?_ | refine bnext HB5.out ?_ | refine bnext HB4.out ?_ | refine bnext HB3.out ?_ | refine bnext HB2.out ?_ | refine bnext HB1.out ?_)) rfl (by omega) (by repeat (first | exact cnew _ _ _ | exact cnew' _ _ _ (by simp) | refine cold ?_ | refine cnext HB6.out ?_ | refine cnext HB5.out ?_ | refine cnext HB4.out ?_ | refine cnext HB3.out ?_ | refine cnext HB2.out ?_ | refine cnext HB1.out ?_ | refine cdrew ?_))).mono ?_; rintro e w5 ⟨v5, rfl, ho, hb⟩; obtain ⟨A5, p5, hv⟩ := own_form' ho; subst hv; have HB5 := Lib.hid hb; have SL5 := Lib.hid (Sl.of_own (F := fun _ => True) ho (fun _ _ => trivial)); clear ho hb) | (go_at_call 54; refine (TW1.out _ _ _ _ (Sl.below SL3.out (by repeat (first | exact Below.refl _ _ | exact HBB.out | refine bal' ?_ _ | refine bdrew ?_ | refine bnext HB6.out ?_ | refine bnext HB5.out ?_ | refine bnext HB4.out ?_ | refine bnext HB3.out ?_ | refine bnext HB2.out ?_ | refine bnext HB1.out ?_)))).mono ?_; rintro e w4 ⟨rfl, hb⟩; have HB4 := Lib.hid hb; clear hb) | (go_at_call 47; have hg := HB2.out; refine (KW.out _ _ 1 1 (by repeat (first | exact Below.refl _ _ | exact HBB.out | refine bal' ?_ _ | refine bdrew ?_ | refine bnext HB6.out ?_ | refine bnext HB5.out ?_ | refine bnext HB4.out ?_ | refine bnext HB3.out ?_ | refine bnext HB2.out ?_ | refine bnext HB1.out ?_)) rfl (by omega) (by repeat (first | exact cnew _ _ _ | exact cnew' _ _ _ (by simp) | refine cold ?_ | refine cnext HB6.out ?_ | refine cnext HB5.out ?_ | refine cnext HB4.out ?_ | refine cnext HB3.out ?_ | refine cnext HB2.out ?_ | refine cnext HB1.out ?_ | refine cdrew ?_))).mono ?_; rintro e w3 ⟨v3, rfl, ho, hb⟩; obtain ⟨A3, p3, hv⟩ := own_form' ho; subst hv; have HB3 := Lib.hid hb; have SL3 := Lib.hid (Sl.of_own (F := fun _ => True) ho (fun _ _ => trivial)); clear ho hb) | (go_at_call 54; refine (TW0.out _ _ _ _ (Sl.below SL1.out (by repeat (first | exact Below.refl _ _ | exact HBB.out | refine bal' ?_ _ | refine bdrew ?_ | refine bnext HB6.out ?_ | refine bnext HB5.out ?_ | refine bnext HB4.out ?_ | refine bnext HB3.out ?_ | refine bnext HB2.out ?_ | refine bnext HB1.out ?_)))).mono ?_; rintro e w2 ⟨rfl, hb⟩; have HB2 := Lib.hid hb; clear hb) | (go_at_call 47; refine (KW.out _ _ 0 0 (by repeat (first | exact Below.refl _ _ | exact HBB.out | refine bal' ?_ _ | refine bdrew ?_ | refine bnext HB6.out ?_ | refine bnext HB5.out ?_ | refine bnext HB4.out ?_ | refine bnext HB3.out ?_ | refine bnext HB2.out ?_ | refine bnext HB1.out ?_)) rfl (by omega) (by repeat (first | exact cnew _ _ _ | exact cnew' _ _ _ (by simp) | refine cold ?_ | refine cnext HB6.out ?_ | refine cnext HB5.out ?_ | refine cnext HB4.out ?_ | refine cnext HB3.out ?_ | refine cnext HB2.out ?_ | refine cnext HB1.out ?_ | refine cdrew ?_))).mono ?_; rintro e w1 ⟨v1, rfl, ho, hb⟩; obtain ⟨A1, p1, hv⟩ := own_form' ho; subst hv; have HB1 := Lib.hid hb; have SL1 := Lib.hid (Sl.of_own (F := fun _ => True) ho (fun _ _ => trivial)); clear ho hb))
  all_goals
    go_wp2_with fail
    go_ret
    exact ⟨rfl, (by repeat (first | exact Below.refl _ _ | refine bal' ?_ _ | refine bnext HB7.out ?_ | refine bnext HB6.out ?_ | refine bnext HB5.out ?_ | refine bnext HB4.out ?_ | refine bnext HB3.out ?_ | refine bnext HB2.out ?_ | refine bnext HB1.out ?_ | refine bdrew ?_))⟩
end

end Go.Proofs.YtkeicfajlmhajaaGreat.Eg
