/- TinyLFU in memory: New. -/
import Derived.Test.YtkeicfajlmhajaaGreatQf
import Derived.Test.YtkeicfajlmhajaaGreatQg
import Derived.Test.YtkeicfajlmhajaaGreatQh
namespace Go.Proofs.YtkeicfajlmhajaaGreat.Eg
open Go Go.RowKit Go.Proofs.YtkeicfajlmhajaaGreat.K
open Go.Proofs.YtkeicfajlmhajaaGreat.Li (more more_lt own_form')
open Go.Proofs.YtkeicfajlmhajaaGreat.Rw

/-- The room of an engine that is asked for so much. -/
def cof (room : Int) : Nat := (max 1 (min room 1024)).toNat
theorem cof_1 (room : Int) : 1 ≤ cof room := by unfold cof; omega
theorem cof_2 (room : Int) : cof room ≤ 1024 := by unfold cof; omega

def NewPost (room : Int) (w : World) (e : Ending) (w' : World) : Prop :=
  ∃ b F, e = .returned (.pointer (some ⟨b, 0, none⟩)) ∧ Eng w' b F (cof room) init ∧ Below w.heap.size w w' ∧ ∀ k, F k → w.heap.size ≤ k

/-- The block of a new engine. -/
def nblk (s cap bx kb db c : Nat) (x y z : Int) : Obj := .cells #[.slice (some ⟨s, 0, none⟩) 3 cap, .pointer (some ⟨bx, 0, none⟩), .int .i64 (c : Int), .int .i64 x, .int .i64 y, .int .i64 z, .pointer (some ⟨kb, 0, none⟩), .pointer (some ⟨db, 0, none⟩)] 58

theorem new_end {s cap bx kb kc db dc c : Nat} {x y z : Int} {w wA wB w1 : World} (hc : 1 ≤ c ∧ c ≤ 1024)
    (hr : Rw.Rows 3 wA (rva s cap bx) (fun k => w.heap.size ≤ k ∧ k < wA.heap.size) (fun _ => [])) (hA : Below w.heap.size w wA)
    (hs : Sk.Sq wB kb kc (nn c) (List.replicate (4 * nn c) 0) 0) (hB : Below wA.heap.size wA wB) (hkb : wA.heap.size ≤ kb) (hkc : wA.heap.size ≤ kc)
    (hd : Do.Dq w1 db dc (mm c) (List.replicate (64 * mm c) false)) (h1 : Below wB.heap.size wB w1) (hdb : wB.heap.size ≤ db) (hdc : wB.heap.size ≤ dc)
    (hx : x = (win c : Int)) (hy : y = (mainr c : Int)) (hz : z = (prot c : Int)) :
    Eng (w1.alloc (nblk s cap bx kb db c x y z)) w1.heap.size (fun k => w.heap.size ≤ k ∧ k < w1.heap.size + 1) c init ∧ Below w.heap.size w (w1.alloc (nblk s cap bx kb db c x y z)) := by
  subst hx hy hz
  have hb2 : Below w1.heap.size w1 (w1.alloc (nblk s cap bx kb db c (win c : Int) (mainr c : Int) (prot c : Int))) := (Below.refl _ _).alloc (Nat.le_refl _) _
  have s1 := hA.size
  have s2 := hB.size
  have s3 := h1.size
  have s4 := hb2.size
  obtain ⟨l1, l2⟩ : kb < wB.heap.size ∧ kc < wB.heap.size := by
    obtain ⟨B, hk, -⟩ := hs
    exact ⟨lt_of_block hk.obj, lt_of_block hk.row⟩
  obtain ⟨l3, l4⟩ := hd.ltb
  have hN : Nts w1 kb db c (fun k => wA.heap.size ≤ k ∧ k < w1.heap.size) (nt0 c) :=
    ⟨⟨kc, dc, hs.below h1, hd, by omega, by omega, by omega, by omega, ⟨hkb, by omega⟩, ⟨hkc, by omega⟩, ⟨by omega, by omega⟩, ⟨by omega, by omega⟩⟩, fun k hk => hk.2⟩
  refine ⟨⟨s, cap, bx, kb, db, _, _, heap_alloc_new w1 _, (hr.below (below_next hB h1)).below hb2, hN.below hb2, inv_init hc.1 hc.2, fun h => by have := h.2; omega, fun h => by have := h.2; omega, fun k h h' => by have := h.2; have := h'.1; omega,
    fun k hk => ⟨hk.1, by have := hk.2; omega⟩, fun k hk => ⟨by have := hk.1; omega, by have := hk.2; omega⟩, ⟨by omega, by omega⟩, fun k hk => by have := hk.2; simpa using this⟩, below_next (below_next hA (below_next hB h1)) hb2⟩

set_option maxRecDepth 100000 in
set_option maxHeartbeats 800000 in
theorem new_of (room : Int) (c : Nat) (hc : cof room = c) (hl : room > 1024 ∧ c = 1024 ∨ room = (c : Int) ∧ 2 ≤ c ∧ c ≤ 1024 ∨ room ≤ 1 ∧ c = 1) (w : World) : Calls Tryz.prog 11 #[.int .i64 room] w (NewPost room w) := by
  have NR := Lib.hid (new_rows w 3 (by omega) (by omega))
  have NS := Lib.hid (fun w1 => Sk.new_sq (c : Int) w1)
  have ND := Lib.hid (fun w1 => Do.new_dq (c : Int) w1)
  have HC := Lib.hid hc
  have hpr : 1 ≤ c ∧ c ≤ 1024 := by omega
  clear hc
  rcases hl with ⟨h1, hc⟩ | ⟨hc, h1, h2⟩ | ⟨h1, hc⟩
  · subst hc
    go_enter Tryz.func11, Tryz.ntmps11
    go_wp2_with fail
    refine NR.out.mono ?_
    rintro e w1 ⟨v, rfl, hr, hb⟩
    obtain ⟨s, cap, bx, rfl⟩ : ∃ s cap bx, v = rva s cap bx := by obtain ⟨s, cap, bx, n, l, X, Fx, Fr, M, h1, _⟩ := hr; exact ⟨s, cap, bx, h1⟩
    have HR := Lib.hid hr
    have HB := Lib.hid hb
    clear hr hb
    go_wp2_with fail
    refine (NS.out _).mono ?_
    rintro e w2 ⟨kb, kc, rfl, hkb, hkc, hs, hb2⟩
    have HS := Lib.hid hs
    have HB2 := Lib.hid hb2
    have HK := Lib.hid (And.intro hkb hkc)
    clear hs hb2 hkb hkc
    go_wp2_with fail
    refine (ND.out _).mono ?_
    rintro e w3 ⟨db, dc, rfl, hdb, hdc, hd, hb3⟩
    have HD := Lib.hid hd
    have HB3 := Lib.hid hb3
    have HK3 := Lib.hid (And.intro hdb hdc)
    clear hd hb3 hdb hdc
    go_wp2_with fail
    go_ret
    have hz := new_end (c := 1024) (x := 128) (y := 896) (z := 716) (by omega) HR.out HB.out HS.out HB2.out HK.out.1 HK.out.2 HD.out HB3.out HK3.out.1 HK3.out.2 rfl rfl rfl
    exact ⟨w3.heap.size, fun k => w.heap.size ≤ k ∧ k < w3.heap.size + 1, rfl, by rw [HC.out]; exact hz.1, hz.2, fun k hk => hk.1⟩
  · subst hc
    go_enter Tryz.func11, Tryz.ntmps11
    go_wp2_with fail
    all_goals
      refine NR.out.mono ?_
      rintro e w1 ⟨v, rfl, hr, hb⟩
      obtain ⟨s, cap, bx, rfl⟩ : ∃ s cap bx, v = rva s cap bx := by obtain ⟨s, cap, bx, n, l, X, Fx, Fr, M, h1, _⟩ := hr; exact ⟨s, cap, bx, h1⟩
      have HR := Lib.hid hr
      have HB := Lib.hid hb
      clear hr hb
      go_wp2_with fail
      refine (NS.out _).mono ?_
      rintro e w2 ⟨kb, kc, rfl, hkb, hkc, hs, hb2⟩
      have HS := Lib.hid hs
      have HB2 := Lib.hid hb2
      have HK := Lib.hid (And.intro hkb hkc)
      clear hs hb2 hkb hkc
      go_wp2_with fail
      refine (ND.out _).mono ?_
      rintro e w3 ⟨db, dc, rfl, hdb, hdc, hd, hb3⟩
      have HD := Lib.hid hd
      have HB3 := Lib.hid hb3
      have HK3 := Lib.hid (And.intro hdb hdc)
      clear hd hb3 hdb hdc
      go_wp2_with fail
      go_ret
      have hz := fun x y z => new_end (c := c) (x := x) (y := y) (z := z) (by omega) HR.out HB.out HS.out HB2.out HK.out.1 HK.out.2 HD.out HB3.out HK3.out.1 HK3.out.2
      refine ⟨w3.heap.size, fun k => w.heap.size ≤ k ∧ k < w3.heap.size + 1, rfl, ?_, ?_, fun k hk => hk.1⟩
      · rw [HC.out]
        refine (hz _ _ _ ?_ ?_ ?_).1
        all_goals
          clear hz HR HB HS HB2 HK HD HB3 HK3 NR NS ND HC
          first | (unfold win; omega) | (unfold mainr win; omega) | (unfold prot mainr win; omega)
      · refine (hz _ _ _ ?_ ?_ ?_).2
        all_goals
          clear hz HR HB HS HB2 HK HD HB3 HK3 NR NS ND HC
          first | (unfold win; omega) | (unfold mainr win; omega) | (unfold prot mainr win; omega)
  · subst hc
    go_enter Tryz.func11, Tryz.ntmps11
    go_wp2_with fail
    refine NR.out.mono ?_
    rintro e w1 ⟨v, rfl, hr, hb⟩
    obtain ⟨s, cap, bx, rfl⟩ : ∃ s cap bx, v = rva s cap bx := by obtain ⟨s, cap, bx, n, l, X, Fx, Fr, M, h1, _⟩ := hr; exact ⟨s, cap, bx, h1⟩
    have HR := Lib.hid hr
    have HB := Lib.hid hb
    clear hr hb
    go_wp2_with fail
    refine (NS.out _).mono ?_
    rintro e w2 ⟨kb, kc, rfl, hkb, hkc, hs, hb2⟩
    have HS := Lib.hid hs
    have HB2 := Lib.hid hb2
    have HK := Lib.hid (And.intro hkb hkc)
    clear hs hb2 hkb hkc
    go_wp2_with fail
    refine (ND.out _).mono ?_
    rintro e w3 ⟨db, dc, rfl, hdb, hdc, hd, hb3⟩
    have HD := Lib.hid hd
    have HB3 := Lib.hid hb3
    have HK3 := Lib.hid (And.intro hdb hdc)
    clear hd hb3 hdb hdc
    go_wp2_with fail
    go_ret
    have hz := new_end (c := 1) (x := 1) (y := 0) (z := 0) (by omega) HR.out HB.out HS.out HB2.out HK.out.1 HK.out.2 HD.out HB3.out HK3.out.1 HK3.out.2 rfl rfl rfl
    exact ⟨w3.heap.size, fun k => w.heap.size ≤ k ∧ k < w3.heap.size + 1, rfl, by rw [HC.out]; exact hz.1, hz.2, fun k hk => hk.1⟩

theorem eng_new (room : Int) (w : World) : Calls Tryz.prog 11 #[.int .i64 room] w (NewPost room w) := by
  refine new_of room _ rfl ?_ w
  unfold cof
  omega

end Go.Proofs.YtkeicfajlmhajaaGreat.Eg
