/- TinyLFU: known. -/
import Derived.Test.YtkeicfajlmhajaaGreatWb
import Derived.Deep.LoopGhost
namespace Go.Proofs.YtkeicfajlmhajaaGreat.Lw
open Go Go.RowKit Go.Proofs.YtkeicfajlmhajaaGreat.K Go.Proofs.YtkeicfajlmhajaaGreat.Sl
open Go.Proofs.YtkeicfajlmhajaaGreat.Li (more more_lt own_form')
open Go.Proofs.YtkeicfajlmhajaaGreat.Rw (cell_below cell_upd own_mono own_below)
open Go.Proofs.YtkeicfajlmhajaaGreat.Eg (Ks Eng access remove evict has stext res gho len cof init Inv AccPost Gone Texts)

theorem res_small {c : Nat} {K : Ks} (h : Inv c K) {x : ByteArray} (hx : x ∈ res K) : x.size ≤ 40 := by
  obtain ⟨q, hq, hm⟩ := Eg.in_row hx
  exact h.small q hq x hm

theorem ref_state2 {w : World} {b c : Nat} {F : Nat → Prop} {K : Ks} (h : Rf.Ref w b F c K) : Calls Tryz.prog 28 #[.pointer (some ⟨b, 0, none⟩)] w fun e w' => e = .returned (.string (stext K)) ∧ Below w.heap.size w w' := Rf.ref_state h

theorem res_le {c : Nat} {K : Ks} (h : Inv c K) : (res K).length ≤ 1024 := by rw [Eg.len_res]; exact h.len1.2.2.2.1
theorem gho_le {c : Nat} {K : Ks} (_h : Inv c K) : (gho K).length ≤ 1024 := by simp [gho]

def kkeys : List ByteArray := [⟨#[97]⟩, ⟨#[98]⟩]
def kst (j : Nat) : Ks := (kkeys.take j).foldl (fun K k => (access (cof 8) K k).2.2) init
theorem kst_succ {j : Nat} {k : ByteArray} (h : kkeys[j]? = some k) : kst (j + 1) = (access (cof 8) (kst j) k).2.2 := by
  have hj := lt_of_getElem? h
  have e : kkeys[j] = k := by rw [List.getElem?_eq_getElem hj] at h; exact Option.some.inj h
  unfold kst
  rw [← List.take_append_getElem hj, List.foldl_append, e]
  rfl
theorem kst_end : stext (kst 2) = ⟨#[87, 58, 32, 98, 59, 65, 58, 32, 97, 59, 80, 58]⟩ := by decide +kernel
theorem kkey_small {j : Nat} {k : ByteArray} (h : kkeys[j]? = some k) : k.size ≤ 40 := by
  have : ∀ k ∈ kkeys, k.size ≤ 40 := by decide
  exact this k (List.mem_of_getElem? h)

def KRel (w : World) (b : Nat) (sb : Nat) (kk : Nat) (v3 : Value) (wr : World) : Prop :=
  ∃ (F : Nat → Prop) (j : Nat), j ≤ 2 ∧ kk = 2 - j ∧ v3 = .int .i64 (j : Int) ∧ Eng wr b F (cof 8) (kst j) ∧ ¬ F sb ∧ (∀ k, F k → w.heap.size ≤ k) ∧ Below w.heap.size w wr ∧
    wr.heap[sb]? = some (.cells (kkeys.map Value.string).toArray 9 (0, 0)) ∧ w.heap.size ≤ sb

set_option maxHeartbeats 800000 in
theorem known_any (w : World) : Calls Tryz.prog 15 #[] w fun e w' => e = .returned (.bool true) ∧ Below w.heap.size w w' := by
  have NW := Lib.hid (Eg.eng_new 8 w)
  go_enter Tryz.func15, Tryz.ntmps15
  go_wp2_with fail
  refine NW.out.mono ?_
  rintro e w1 ⟨b, F, rfl, he, hb, hF⟩
  have hb2 : Below w1.heap.size w1 (w1.alloc (.cells (kkeys.map Value.string).toArray 9)) := (Below.refl _ _).alloc (Nat.le_refl _) _
  have HR : Hid (KRel w b w1.heap.size 2 (.int .i64 0) (w1.alloc (.cells (kkeys.map Value.string).toArray 9))) :=
    Lib.hid ⟨F, 0, by omega, rfl, rfl, he.below hb2, fun hh => by have := he.lt _ hh; omega, hF, hb.trans (hb2.mono hb.size), heap_alloc_new w1 _, hb.size⟩
  clear he hb hF hb2
  go_wp2_with fail
  go_loopg [3] 2 (fun kk v3 wr => KRel w b w1.heap.size kk v3 wr)
  case atStart => exact HR.out
  case round =>
    obtain ⟨F, j, hj, hgk, rfl, he, hs, hF, hb, hblk, hsz⟩ := hrel
    have HGK := Lib.hid hgk
    clear hgk
    rcases Nat.eq_or_lt_of_le hj with rfl | hjl
    · have ST := Lib.hid (Eg.eng_state he)
      rw [kst_end] at ST
      have HB := Lib.hid hb
      clear he hb hblk hF hs
      go_wp2_with fail
      refine ST.out.mono ?_
      rintro e w4 ⟨rfl, hb4⟩
      have HB4 := Lib.hid hb4
      clear hb4
      go_wp2_with fail
      go_ret
      exact ⟨rfl, HB.out.trans (HB4.out.mono HB.out.size)⟩
    · obtain ⟨k, hk⟩ : ∃ k, kkeys[j]? = some k := ⟨_, List.getElem?_eq_getElem (by simpa [kkeys] using hjl)⟩
      have hcell : wr.cell? ⟨w1.heap.size, j, none⟩ = some (.string k) := by
        rw [cell_of hblk]; simp [hk]
      have ACC := Lib.hid (Eg.eng_access he (kkey_small hk))
      have HK := Lib.hid (kst_succ hk)
      have HB := Lib.hid hb
      have HBL := Lib.hid hblk
      have HF := Lib.hid hF
      have HS := Lib.hid hs
      have HLT := Lib.hid (lt_of_block hblk)
      clear he hb hblk hF hs hk
      have z0 : (0 : Int) ≤ (j : Int) := by omega
      have z1 : (j : Int) < 2 := by omega
      go_wp2_with fail
      refine ACC.out.mono ?_
      rintro e w2 ⟨v, F2, rfl, he2, hs2, -, -⟩
      have HE2 := Lib.hid he2
      have HS2 := Lib.hid hs2
      clear he2 hs2
      go_wp2_with fail
      go_roundg (2 - (j + 1))
      case measure => rw [HGK.out]; omega
      case rel =>
        refine ⟨F2, j + 1, hjl, rfl, rfl, by rw [HK.out]; exact HE2.out, far_step HS.out HLT.out HS2.out, HS2.out.above HB.out.size HF.out, ?_, ?_, hsz⟩
        · exact HB.out.trans ((HS2.out.below HB.out.size HF.out))
        · exact HS2.out.upd.get HBL.out HS.out
end Go.Proofs.YtkeicfajlmhajaaGreat.Lw
