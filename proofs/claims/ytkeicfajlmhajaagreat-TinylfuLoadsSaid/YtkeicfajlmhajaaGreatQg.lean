/- TinyLFU in memory: Access of a key that is not resident; Access. -/
import Derived.Test.YtkeicfajlmhajaaGreatQf
namespace Go.Proofs.YtkeicfajlmhajaaGreat.Eg
open Go Go.RowKit Go.Proofs.YtkeicfajlmhajaaGreat.K
open Go.Proofs.YtkeicfajlmhajaaGreat.Li (more more_lt own_form' infoS)
open Go.Proofs.YtkeicfajlmhajaaGreat.Rw

section
variable {w : World} {b c : Nat} {F : Nat → Prop} {K : Ks}

/-- What the loop comes to. -/
def made (c : Nat) (P : Ks) : List ByteArray × Ks := if win c < (P.r 0).length then admit c P else ([], P)

/-- The loop that makes room in the window. -/
def ARel (w : World) (b s cap bx kb db c : Nat) (F H : Nat → Prop) (P : Ks) (kk : Nat) (v7 : Value) (wr : World) : Prop :=
  (kk = 1 ∧ v7 = .slice none 0 0 ∧ win c < (P.r 0).length ∧ ∃ G, MidK w b s cap bx kb db c F G H P wr) ∨
  (kk = 0 ∧ ∃ F1, Eng wr b F1 c (made c P).2 ∧ Step F w F1 wr ∧ wr.ownsRow w.heap.size 9 1 v7 (made c P).1.length ((made c P).1.map .string) ∧ ∀ k, v7.ownBlock = some k → ¬ F1 k)

theorem arel_start {s cap bx kb db : Nat} {G H : Nat → Prop} {P : Ks} {w1 : World} (h : MidK w b s cap bx kb db c F G H P w1) (hi : Inv c (made c P).2) : ∃ kk, ARel w b s cap bx kb db c F H P kk (.slice none 0 0) w1 := by
  by_cases e : win c < (P.r 0).length
  · exact ⟨1, .inl ⟨rfl, rfl, e, G, h⟩⟩
  · have hm : made c P = ([], P) := by unfold made; rw [if_neg e]
    rw [hm] at hi
    obtain ⟨h1, h2⟩ := h.done hi
    refine ⟨0, .inr ⟨rfl, _, by rw [hm]; exact h1, more_eq h2, by rw [hm]; exact World.ownsRow_nil _ _ _ _, fun k hk => by simp [Value.ownBlock] at hk⟩⟩

set_option maxRecDepth 100000 in
set_option maxHeartbeats 1600000 in
theorem acc_miss (h : Eng w b F c K) {key : ByteArray} (hk : key.size ≤ 40) (h0 : key ∉ K.r 0) (h1 : key ∉ K.r 1) (h2 : key ∉ K.r 2) : Calls Tryz.prog 40 #[.pointer (some ⟨b, 0, none⟩), .string key] w (AccPost b F c K key w) := by
  have hi' := (access_facts h.inv hk).inv
  have hi := h.inv
  have e : access c K key = (false, (made c ⟨push K.r 0 key, K.h ++ [key]⟩).1, (made c ⟨push K.r 0 key, K.h ++ [key]⟩).2) := by
    unfold access made
    rw [if_neg h0, if_neg (by rintro (a | a); exact h1 a; exact h2 a)]
    dsimp only
    split <;> rfl
  unfold AccPost
  rw [e] at hi' ⊢
  have hr : row K.r key = -1 := by unfold row; rw [if_neg h0, if_neg h1, if_neg h2]
  have hlp : ∀ q, q < 3 → (push K.r 0 key q).length ≤ 2000 := fun q hq => by
    have h1 := push_length K.r 0 key q
    have h2 := less_length K.r key q
    have h3 := hi.len1
    have : q = 0 ∨ q = 1 ∨ q = 2 := by omega
    rcases this with rfl | rfl | rfl <;> simp at h1 <;> omega
  have hsp : Sep (push K.r 0 key) := hi.sep.push hk
  have hc2 := hi.c2
  have hpc : win c ≤ 1024 := by unfold win; omega
  have hw1 := win_main hi.c1
  obtain ⟨s, cap, bx, kb, db, G, H, hm⟩ := h.mid
  have N := Lib.hid (noted_at hm hk)
  have HL := Lib.hid (lens hi)
  have HR := Lib.hid hr
  have HLP := Lib.hid hlp
  have HSP := Lib.hid hsp
  clear hm hi e hr h h0 h1 h2 hlp hsp
  have HPP : Hid (push K.r 0 key = (⟨push K.r 0 key, K.h ++ [key]⟩ : Ks).r ∧ K.h ++ [key] = (⟨push K.r 0 key, K.h ++ [key]⟩ : Ks).h) := Lib.hid ⟨rfl, rfl⟩
  have HLP' : Hid (∀ q, q < 3 → ((⟨push K.r 0 key, K.h ++ [key]⟩ : Ks).r q).length ≤ 2000) := HLP
  have HSP' : Hid (Sep (⟨push K.r 0 key, K.h ++ [key]⟩ : Ks).r) := HSP
  clear HLP HSP
  generalize (⟨push K.r 0 key, K.h ++ [key]⟩ : Ks) = P at *
  obtain ⟨M, hM⟩ : ∃ M, made c P = M := ⟨_, rfl⟩
  have HI := Lib.hid hi'
  rw [hM] at hi' ⊢
  have HMM := Lib.hid hM
  have HIM := Lib.hid hi'
  clear hM hi'
  obtain ⟨i0, hi0, hz0, hz1, hz2⟩ := info_parts infoS
  go_enter Tryz.func40, Tryz.ntmps40
  go_wp2_with fail
  refine N.out.mono ?_
  rintro e w1 ⟨rfl, hm1⟩
  have HM1 := Lib.hid hm1
  obtain ⟨c0, c1, c2, c3, c4, c5, c6, c7⟩ := hm1.cells
  have W := Lib.hid (where_at hm1.rows (Below.refl _ _) (key := key) (by omega))
  rw [HR.out] at W
  clear hm1
  go_wp2_with fail
  refine W.out.mono ?_
  rintro e w2 ⟨rfl, hb2⟩
  have HM2 := Lib.hid (HM1.out.below hb2)
  obtain ⟨d0, d1, d2, d3, d4, d5, d6, d7⟩ := HM2.out.cells
  clear hb2
  go_wp2_with fail
  refine (push_at' HM2.out.rows hk 0 (by omega) (z := 0) rfl HL.out).mono ?_
  rintro e w3 ⟨rfl, G3, hr3, hs3⟩
  have hm3 := HM2.out.rown hr3 hs3
  rw [HPP.out.1, HPP.out.2] at hm3
  obtain ⟨kk, hkk⟩ := arel_start hm3 HI.out
  have HKK := Lib.hid hkk
  clear hr3 hs3 hm3 hkk
  go_wp2_with fail
  go_loopg [7] kk (fun kk v7 wr => ARel w b s cap bx kb db c F H P kk v7 wr)
  case atStart => exact HKK.out
  case round =>
    clear HKK
    rcases hrel with ⟨rfl, rfl, hl, G5, hm⟩ | ⟨rfl, F5, he, hs, ho, hn⟩
    · have hMA : made c P = admit c P := by unfold made; rw [if_pos hl]
      have AD := Lib.hid (fun w1 (h : MidK w b s cap bx kb db c F G5 H P w1) => admits_at h HSP'.out HLP'.out (by omega) hc2)
      rw [← hMA, HMM.out] at AD
      have HM5 := Lib.hid hm
      obtain ⟨e0, e1, e2, e3, e4, e5, e6, e7⟩ := hm.cells
      clear hm hMA
      have hl2 := HLP'.out 0 (by omega)
      have M0 : Hid (Calls Tryz.prog 51 #[rva s cap bx, .slice (some ⟨wr.drew.heap.size, 0, none⟩) 1 1] (wr.drew.alloc (.cells #[.int .i64 0] 3)) fun e w' => e = .returned (.int .i64 ((P.r 0).length : Int)) ∧ Below wr.drew.heap.size wr.drew w') :=
        Lib.hid (many_one HM5.out.drew 0 (by omega) (z := 0) rfl (by omega))
      have dp : decide (win c < (P.r 0).length) = true := by simpa using hl
      obtain ⟨n0, hn0⟩ : ∃ n, (P.r 0).length = n := ⟨_, rfl⟩
      rw [hn0] at M0 dp hl hl2
      clear hn0
      go_wp2_with fail
      go_region_held3 (fun w' => w'.cell? ⟨b, 0, none⟩ = some (.slice (some ⟨s, 0, none⟩) 3 cap) ∧ w'.cell? ⟨b, 1, none⟩ = some (.pointer (some ⟨bx, 0, none⟩)) ∧ w'.cell? ⟨b, 3, none⟩ = some (.int .i64 (win c : Int)))
        (first | (go_keep; done) | exact ⟨by assumption, by assumption, by assumption⟩)
        (first | (go_at_call 51; refine M0.out.mono ?_; rintro e w6 ⟨rfl, hb6⟩; have HM6 := Lib.hid (HM5.out.drew.below hb6); have p := HM6.out.cells; have p0 := p.1; have p1 := p.2.1; have p3 := p.2.2.2.1; clear hb6 p))
      go_wp2_with fail
      refine (AD.out _ HM6.out).mono ?_
      rintro e w7 ⟨v, G7, rfl, hm7, hlit, hsz⟩
      obtain ⟨h7, hu7⟩ := hm7.done HIM.out
      have H7 := Lib.hid h7
      have HS7 := Lib.hid (more_eq hu7)
      have HZ7 : Hid (w.heap.size ≤ w7.heap.size) := Lib.hid hu7.size
      clear hm7 h7 hu7
      rcases hlit with ⟨hl0, rfl⟩ | ⟨g, k, hl0, rfl, hblk⟩
      · have HL0 := Lib.hid hl0
        clear hl0
        go_wp2_with (at_builtin; refine wpList_append_own_none rfl _ _ 22 rfl w.heap.size 9 i0 1 Tryz.underlying22 hi0 (.slice none 0 0) 0 [] rfl (World.ownsRow_nil _ _ _ _) rfl ?_)
        go_roundg 0
        case measure => omega
        case rel => exact .inr ⟨rfl, _, by rw [HMM.out]; exact H7.out, HS7.out, by rw [HMM.out, HL0.out]; exact World.ownsRow_nil _ _ _ _, fun k hk => by simp [Value.ownBlock] at hk⟩
      · have HL0 := Lib.hid hl0
        have HBL := Lib.hid hblk
        clear hl0 hblk
        go_wp2_with (at_builtin; refine wpList_append_lies _ rfl _ _ 22 rfl w.heap.size 9 i0 (.string ByteArray.empty) 1 16 Tryz.underlying22 hi0 hz0 hz1 hz2 rfl (by decide) (.slice none 0 0) 0 [] rfl (World.ownsRow_nil _ _ _ _) ⟨g, 0, none⟩ 1 1 [.string k] rfl rfl (World.news_of_block (cs := #[.string k]) HBL.out) (by simp [Value.oneCell']) (by omega) (by unfold maxLen; omega) (by omega) (HZ7.out) (w7.heap.size) rfl ?_; intro f' cf' w8 hown hgr hat hlt8; have hu8 : Upd (fun k => (Value.slice none 0 0).ownBlock = some k) w7 w8 := Upd.of_grown hgr; have HU8 := Lib.hid hu8; have HO8 := Lib.hid hown; have HA8 : Hid (f' = w7.heap.size) := Lib.hid (by rcases hat with h | h; simp [Value.ownBlock] at h; exact h); clear hu8 hown hgr hat hlt8)
        go_roundg 0
        case measure => omega
        case rel =>
          have hb8 : Below w7.heap.size w7 w8 := HU8.out.below (Nat.le_refl _) (fun i h => by simp [Value.ownBlock] at h)
          refine .inr ⟨rfl, _, by rw [HMM.out]; exact H7.out.below hb8, HS7.out.trans (Step.of_below hb8), by rw [HMM.out, HL0.out]; exact HO8.out, fun j hj hf => ?_⟩
          have h1 : f' = j := by simpa [Value.ownBlock] using hj
          have h2 := H7.out.lt j hf
          have h3 := HA8.out
          omega
    · rw [HMM.out] at he ho
      have hw := he.inv.r0
      obtain ⟨s, cap, bx, kb, db, G5, H5, hm⟩ := he.mid
      obtain ⟨e0, e1, e2, e3, e4, e5, e6, e7⟩ := hm.cells
      have HE := Lib.hid he
      have HS := Lib.hid hs
      have HO := Lib.hid ho
      have HN := Lib.hid hn
      have M0 : Hid (Calls Tryz.prog 51 #[rva s cap bx, .slice (some ⟨wr.drew.heap.size, 0, none⟩) 1 1] (wr.drew.alloc (.cells #[.int .i64 0] 3)) fun e w' => e = .returned (.int .i64 ((M.2.r 0).length : Int)) ∧ Below wr.drew.heap.size wr.drew w') :=
        Lib.hid (many_one hm.drew 0 (by omega) (z := 0) rfl (by omega))
      have HM5 := Lib.hid hm
      obtain ⟨gA, gc, rfl⟩ := own_form' ho
      have dp : decide (win c < (M.2.r 0).length) = false := by simp; omega
      obtain ⟨n0, hn0⟩ : ∃ n, (M.2.r 0).length = n := ⟨_, rfl⟩
      rw [hn0] at M0 dp hw
      clear hn0 hm he hs ho hn
      go_wp2_with fail
      go_region_held3 (fun w' => w'.cell? ⟨b, 0, none⟩ = some (.slice (some ⟨s, 0, none⟩) 3 cap) ∧ w'.cell? ⟨b, 1, none⟩ = some (.pointer (some ⟨bx, 0, none⟩)) ∧ w'.cell? ⟨b, 3, none⟩ = some (.int .i64 (win c : Int)))
        (first | (go_keep; done) | exact ⟨by assumption, by assumption, by assumption⟩)
        (first | (go_at_call 51; refine M0.out.mono ?_; rintro e w6 ⟨rfl, hb6⟩; have HM6 := Lib.hid (HM5.out.drew.below hb6); have HB6 := Lib.hid hb6; have p := HM6.out.cells; have p0 := p.1; have p1 := p.2.1; have p3 := p.2.2.2.1; clear hb6 p))
      go_wp2_with fail
      go_ret2
      have hb : Below wr.heap.size wr w6 := (below_drewN (Below.refl _ _) 1).trans HB6.out
      exact Gone.mk (f := fun v => .tuple #[.bool false, v]) rfl (HE.out.below hb) (HS.out.trans (Step.of_below hb)) (own_below HO.out hb) HN.out

theorem eng_access (h : Eng w b F c K) {key : ByteArray} (hk : key.size ≤ 40) : Calls Tryz.prog 40 #[.pointer (some ⟨b, 0, none⟩), .string key] w (AccPost b F c K key w) := by
  by_cases h0 : key ∈ K.r 0
  · exact acc_win h hk h0
  · by_cases h12 : key ∈ K.r 1 ∨ key ∈ K.r 2
    · exact acc_main h hk h0 h12
    · exact acc_miss h hk h0 (fun a => h12 (.inl a)) (fun a => h12 (.inr a))

theorem eng_access_nil (key : ByteArray) (w : World) : Calls Tryz.prog 40 #[.pointer none, .string key] w fun e w' => e = .returned (.tuple #[.bool false, .slice none 0 0]) ∧ w = w' := by
  go_enter Tryz.func40, Tryz.ntmps40
  go_wp2_with fail
  go_ret2
  exact ⟨rfl, rfl⟩
end

end Go.Proofs.YtkeicfajlmhajaaGreat.Eg
