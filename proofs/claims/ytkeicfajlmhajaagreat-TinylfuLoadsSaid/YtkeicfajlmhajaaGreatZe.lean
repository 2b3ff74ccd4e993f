/- TinyLFU's reference in memory: New. -/
import Derived.Test.YtkeicfajlmhajaaGreatZa
namespace Go.Proofs.YtkeicfajlmhajaaGreat.Rf
open Go Go.RowKit Go.Proofs.YtkeicfajlmhajaaGreat.K Go.Proofs.YtkeicfajlmhajaaGreat.Sl Go.Proofs.YtkeicfajlmhajaaGreat.Eg
open Go.Proofs.YtkeicfajlmhajaaGreat.Li (more more_lt own_form' infoS)
open Go.Proofs.YtkeicfajlmhajaaGreat.Rw (upd upd_same upd_other less less_same cell_below cell_upd own_mono own_below)

def RNewPost (room : Int) (w : World) (e : Ending) (w' : World) : Prop :=
  ∃ b F, e = .returned (.pointer (some ⟨b, 0, none⟩)) ∧ Ref w' b F (cof room) init ∧ Below w.heap.size w w' ∧ ∀ k, F k → w.heap.size ≤ k

/-- The block of a new reference. -/
def rblk (kb db c : Nat) : Obj := .cells #[.slice none 0 0, .slice none 0 0, .slice none 0 0, .pointer (some ⟨kb, 0, none⟩), .pointer (some ⟨db, 0, none⟩), .int .i64 (c : Int)] 64

theorem rnew_end {kb kc db dc c : Nat} {w wB w1 : World} (hc : 1 ≤ c ∧ c ≤ 1024)
    (hs : Sr.Rf wB kb kc (nn c) (List.replicate (4 * nn c) 0) 0) (hB : Below w.heap.size w wB) (hkb : w.heap.size ≤ kb) (hkc : w.heap.size ≤ kc)
    (hd : Do.Rd w1 db dc (mm c) (List.replicate (64 * mm c) false)) (h1 : Below wB.heap.size wB w1) (hdb : wB.heap.size ≤ db) (hdc : wB.heap.size ≤ dc) :
    Ref (w1.alloc (rblk kb db c)) w1.heap.size (fun k => w.heap.size ≤ k ∧ k < w1.heap.size + 1) c init ∧ Below w.heap.size w (w1.alloc (rblk kb db c)) := by
  have hb2 : Below w1.heap.size w1 (w1.alloc (rblk kb db c)) := (Below.refl _ _).alloc (Nat.le_refl _) _
  have s2 := hB.size
  have s3 := h1.size
  have l1 := lt_of_block hs.obj
  have l2 := lt_of_block hs.row
  have l3 := lt_of_block hd.obj
  have l4 := lt_of_block hd.row
  have hN : Rts w1 kb kc db dc c (fun k => w.heap.size ≤ k ∧ k < w1.heap.size) (nt0 c) :=
    ⟨hs.below h1, hd, by omega, by omega, by omega, by omega, ⟨hkb, by omega⟩, ⟨hkc, by omega⟩, ⟨by omega, by omega⟩, ⟨by omega, by omega⟩, fun k hk => hk.2⟩
  refine ⟨⟨fun _ => .slice none 0 0, fun _ _ => False, kb, db, _, ⟨heap_alloc_new w1 _, fun r hr => Sl.nil _ _, fun _ _ _ _ _ _ h => h.elim, fun _ _ => id, fun _ _ _ h => h.elim, ⟨by omega, by omega⟩, fun k hk => by have := hk.2; simpa using this, Upd.refl _ _, fun _ _ _ h => h.elim,
    ⟨kc, dc, hN.below hb2⟩, fun _ _ _ h => h.elim, fun h => by have := h.2; omega, fun k hk => .inl ⟨hk.1, by have := hk.2; omega⟩⟩, inv_init hc.1 hc.2⟩, below_next (below_next hB h1) hb2⟩

set_option maxRecDepth 100000 in
set_option maxHeartbeats 3200000 in
theorem rnew_of (room : Int) (c : Nat) (hc : cof room = c) (hl : room > 1024 ∧ c = 1024 ∨ room = (c : Int) ∧ 2 ≤ c ∧ c ≤ 1024 ∨ room ≤ 1 ∧ c = 1) (w : World) : Calls Tryz.prog 12 #[.int .i64 room] w (RNewPost room w) := by
  have NS := Lib.hid (fun w1 => Sr.new_rf (c : Int) w1)
  have ND := Lib.hid (fun w1 => Do.new_rd (c : Int) w1)
  have HC := Lib.hid hc
  have hpr : 1 ≤ c ∧ c ≤ 1024 := by omega
  clear hc
  rcases hl with ⟨h1, hc⟩ | ⟨hc, h1, h2⟩ | ⟨h1, hc⟩
  · subst hc
    go_enter Tryz.func12, Tryz.ntmps12
    go_wp2_with fail
    all_goals
      refine (NS.out _).mono ?_
      rintro e w2 ⟨kb, kc, rfl, hkb, hkc, hs, hb2⟩
      have HS := Lib.hid hs
      have HB2 := Lib.hid hb2
      have HK := Lib.hid (And.intro hkb hkc)
      clear hs hb2 hkb hkc
      go_wp2_with fail
      refine (ND.out _).mono ?_
      rintro e w3 ⟨db, dc, rfl, hdb, hdc, hd, hb3⟩
      have HD := Lib.hid hd
      have HB3 := Lib.hid hb3
      have HK3 := Lib.hid (And.intro hdb hdc)
      clear hd hb3 hdb hdc
      go_wp2_with fail
      go_ret
      have hz := rnew_end (c := 1024) (by omega) HS.out HB2.out HK.out.1 HK.out.2 HD.out HB3.out HK3.out.1 HK3.out.2
      exact ⟨w3.heap.size, fun k => w.heap.size ≤ k ∧ k < w3.heap.size + 1, rfl, by rw [HC.out]; exact hz.1, hz.2, fun k hk => hk.1⟩
  · subst hc
    go_enter Tryz.func12, Tryz.ntmps12
    go_wp2_with fail
    all_goals
      refine (NS.out _).mono ?_
      rintro e w2 ⟨kb, kc, rfl, hkb, hkc, hs, hb2⟩
      have HS := Lib.hid hs
      have HB2 := Lib.hid hb2
      have HK := Lib.hid (And.intro hkb hkc)
      clear hs hb2 hkb hkc
      go_wp2_with fail
      refine (ND.out _).mono ?_
      rintro e w3 ⟨db, dc, rfl, hdb, hdc, hd, hb3⟩
      have HD := Lib.hid hd
      have HB3 := Lib.hid hb3
      have HK3 := Lib.hid (And.intro hdb hdc)
      clear hd hb3 hdb hdc
      go_wp2_with fail
      go_ret
      have hz := rnew_end (c := c) (by omega) HS.out HB2.out HK.out.1 HK.out.2 HD.out HB3.out HK3.out.1 HK3.out.2
      exact ⟨w3.heap.size, fun k => w.heap.size ≤ k ∧ k < w3.heap.size + 1, rfl, by rw [HC.out]; exact hz.1, hz.2, fun k hk => hk.1⟩
  · subst hc
    rcases (show room < 1 ∨ room = 1 by omega) with h2 | h2
    · clear h1
      go_enter Tryz.func12, Tryz.ntmps12
      go_wp2_with fail
      all_goals
        refine (NS.out _).mono ?_
        rintro e w2 ⟨kb, kc, rfl, hkb, hkc, hs, hb2⟩
        have HS := Lib.hid hs
        have HB2 := Lib.hid hb2
        have HK := Lib.hid (And.intro hkb hkc)
        clear hs hb2 hkb hkc
        go_wp2_with fail
        refine (ND.out _).mono ?_
        rintro e w3 ⟨db, dc, rfl, hdb, hdc, hd, hb3⟩
        have HD := Lib.hid hd
        have HB3 := Lib.hid hb3
        have HK3 := Lib.hid (And.intro hdb hdc)
        clear hd hb3 hdb hdc
        go_wp2_with fail
        go_ret
        have hz := rnew_end (c := 1) (by omega) HS.out HB2.out HK.out.1 HK.out.2 HD.out HB3.out HK3.out.1 HK3.out.2
        exact ⟨w3.heap.size, fun k => w.heap.size ≤ k ∧ k < w3.heap.size + 1, rfl, by rw [HC.out]; exact hz.1, hz.2, fun k hk => hk.1⟩
    · subst h2
      clear h1
      go_enter Tryz.func12, Tryz.ntmps12
      go_wp2_with fail
      all_goals
        refine (NS.out _).mono ?_
        rintro e w2 ⟨kb, kc, rfl, hkb, hkc, hs, hb2⟩
        have HS := Lib.hid hs
        have HB2 := Lib.hid hb2
        have HK := Lib.hid (And.intro hkb hkc)
        clear hs hb2 hkb hkc
        go_wp2_with fail
        refine (ND.out _).mono ?_
        rintro e w3 ⟨db, dc, rfl, hdb, hdc, hd, hb3⟩
        have HD := Lib.hid hd
        have HB3 := Lib.hid hb3
        have HK3 := Lib.hid (And.intro hdb hdc)
        clear hd hb3 hdb hdc
        go_wp2_with fail
        go_ret
        have hz := rnew_end (c := 1) (by omega) HS.out HB2.out HK.out.1 HK.out.2 HD.out HB3.out HK3.out.1 HK3.out.2
        exact ⟨w3.heap.size, fun k => w.heap.size ≤ k ∧ k < w3.heap.size + 1, rfl, by rw [HC.out]; exact hz.1, hz.2, fun k hk => hk.1⟩

theorem ref_new (room : Int) (w : World) : Calls Tryz.prog 12 #[.int .i64 room] w (RNewPost room w) := by
  refine rnew_of room _ rfl ?_ w
  unfold cof
  omega

end Go.Proofs.YtkeicfajlmhajaaGreat.Rf
