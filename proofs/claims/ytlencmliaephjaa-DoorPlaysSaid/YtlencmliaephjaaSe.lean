/- The walk of Cells. -/
import Derived.Test.YtlencmliaephjaaSl
import Derived.Test.YtlencmliaephjaaAp
import Derived.Deep.Cut
import Derived.Deep.DeepCutAuto
namespace Go.Proofs.Ytlencmliaephjaa.Sk
open Go Go.RowKit Go.Proofs.Ytlencmliaephjaa.K Go.Proofs.Ytlencmliaephjaa.Ha

theorem below_grown {w wr w2 : World} {B : Nat} {row : Option Nat} (h : Below B w wr) (hg : wr.grownBy w2 row) (hB : B ≤ wr.heap.size) (hr : ∀ g, row = some g → B ≤ g) : Below B w w2 :=
  h.grown hg hB hr

theorem nats_snoc (C : List Nat) (k : Nat) (hk : k < C.length) : nats (C.take (k + 1)) = nats (C.take k) ++ [.int .i64 ((C.getD k 0 : Nat) : Int)] := by
  rw [List.take_succ_eq_append_getElem hk, List.getD_eq_getElem?_getD, List.getElem?_eq_getElem hk]
  unfold nats
  rw [List.map_append]
  rfl

theorem cells_sq (b c n : Nat) (C : List Nat) (sum : Int) (w : World) (h : Sq w b c n C sum) :
    Calls Try.prog 36 #[.pointer (some ⟨b, 0, none⟩)] w fun e w' => ∃ v, e = .returned v ∧ w'.ownsRow w.heap.size 3 1 v (4 * n) (nats C) ∧ Below w.heap.size w w' := by
  obtain ⟨l, ho⟩ := h.obj
  obtain ⟨c0, c1, c2, fr⟩ := cells3 ho
  have h2 := h.n2
  have hl := h.len
  have H := Lib.hid h
  clear h ho
  go_enter Try.func36, Try.ntmps36
  go_wp2_with fail
  go_loopw [3, 12] (fun v3 v12 wr => ∃ k : Nat, k ≤ 4 * n ∧ v12 = .int .i64 k ∧ wr.ownsRow w.heap.size 3 1 v3 k (nats (C.take k)) ∧ Below w.heap.size w wr) (fun v3 v12 wr => 4 * n - (intOf v12).toNat)
  case atStart => exact ⟨0, by omega, rfl, World.ownsRow_nil _ _ _ _, Below.refl _ _⟩
  case round =>
    obtain ⟨k, hk, rfl, ho, hb⟩ := hrel
    have HO := Lib.hid ho
    have HB := Lib.hid hb
    have HBS : Hid (w.heap.size ≤ wr.heap.size) := Lib.hid hb.size
    obtain ⟨gA, gc, rfl⟩ := own_form ho
    have HO := Lib.hid ho
    clear ho hb
    by_cases hlt : k < 4 * n
    · have A := at_sq b c n k C sum wr (H.out.below HB.out) hlt
      have hsn := Lib.hid (nats_snoc C k (by omega))
      generalize C.getD k 0 = x at *
      have HA := Lib.hid A
      clear A
      go_wp2_with (first | (go_at_call 39; refine HA.out.mono ?_; rintro e w1 ⟨rfl, rfl⟩) | (at_builtin; refine append1 rfl _ _ rfl w.heap.size _ _ _ rfl HO.out HBS.out (by omega) _ _ rfl ?_; intro g' cap' w2 ho2 hg2 hat2))
      go_roundw
      case rel =>
        refine ⟨k + 1, by omega, by go_num, by rw [hsn.out]; exact ho2, below_grown HB.out hg2 HBS.out (fun g hg => (HO.out.lt g hg).1)⟩
      case measure => simp [intOf]; omega
    · obtain rfl : k = 4 * n := by omega
      have hf : C.take (4 * n) = C := List.take_of_length_le (by omega)
      have HF := Lib.hid hf
      clear hf
      go_wp2_with fail
      go_ret
      have ho := HO.out
      rw [HF.out] at ho
      exact ⟨_, rfl, ho, HB.out⟩

end Go.Proofs.Ytlencmliaephjaa.Sk
