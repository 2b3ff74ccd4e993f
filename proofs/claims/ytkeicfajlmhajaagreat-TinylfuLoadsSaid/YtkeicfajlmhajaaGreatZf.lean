/- TinyLFU's reference in memory: Evict. -/
import Derived.Test.YtkeicfajlmhajaaGreatZc
import Derived.Test.YtkeicfajlmhajaaGreatTx
import Derived.Test.YtkeicfajlmhajaaGreatZa
import Derived.Test.YtkeicfajlmhajaaGreatQv
import Derived.Test.YtkeicfajlmhajaaGreatZe
namespace Go.Proofs.YtkeicfajlmhajaaGreat.Rf
open Go Go.RowKit Go.Proofs.YtkeicfajlmhajaaGreat.K Go.Proofs.YtkeicfajlmhajaaGreat.Sl Go.Proofs.YtkeicfajlmhajaaGreat.Eg
open Go.Proofs.YtkeicfajlmhajaaGreat.Li (more more_lt own_form' infoS)
open Go.Proofs.YtkeicfajlmhajaaGreat.Rw (upd upd_same upd_other less less_same cell_below cell_upd own_mono own_below)

section
variable {w w' : World} {b c : Nat} {F : Nat → Prop} {K : Ks}

theorem revict_none (h : Ref w b F c K) (h0 : len K = 0) :
    Calls Tryz.prog 44 #[.pointer (some ⟨b, 0, none⟩)] w fun e w' => e = .returned (.tuple #[.string ByteArray.empty, .bool false]) ∧ w = w' := by
  obtain ⟨v, Fs, kb, db, H, hm, -⟩ := h
  obtain ⟨A, p, hr⟩ := hm.rs
  have c0 := hr.c0
  have c1 := hr.c1
  have c2 := hr.c2
  have e0 : (K.r 0).length = 0 := by unfold len ln at h0; omega
  have e1 : (K.r 1).length = 0 := by unfold len ln at h0; omega
  have e2 : (K.r 2).length = 0 := by unfold len ln at h0; omega
  rw [e0] at c0
  rw [e1] at c1
  rw [e2] at c2
  clear hm hr h0 e0 e1 e2
  generalize A 0 = A0 at *
  generalize p 0 = p0 at *
  generalize A 1 = A1 at *
  generalize p 1 = p1 at *
  generalize A 2 = A2 at *
  generalize p 2 = p2 at *
  go_enter Tryz.func44, Tryz.ntmps44
  go_wp2_with fail
  go_ret2
  exact ⟨rfl, rfl⟩

set_option maxHeartbeats 1600000 in
theorem revict_one (h : Ref w b F c K) (h0 : 0 < len K) {k : ByteArray} (hk : oldest (K.r (vict K.r)) = k) :
    Calls Tryz.prog 44 #[.pointer (some ⟨b, 0, none⟩)] w (Did (.tuple #[.string k, .bool true]) b F c ⟨less K.r k, K.h⟩ w) := by
  have hp := vict_some h0
  have hmem : k ∈ K.r (vict K.r) := hk ▸ oldest_mem hp
  have hhas : has K k = true := has_iff.2 (row_in (vict_lt _) hmem)
  have RM' := Lib.hid (rremove_yes h hhas)
  obtain ⟨t, ht⟩ := oldest_cons _ hp
  rw [hk] at ht
  have hv : vict K.r = if 0 < (K.r 1).length then 1 else if 0 < (K.r 2).length then 2 else 0 := rfl
  have hsm := small_rows h.inv
  have hm0 := hsm 0 (by omega)
  have hm1 := hsm 1 (by omega)
  have hm2 := hsm 2 (by omega)
  obtain ⟨v, Fs, kb, db, H, hm, -⟩ := h
  obtain ⟨A, p, hr⟩ := hm.rs
  have c0 := hr.c0
  have c1 := hr.c1
  have c2 := hr.c2
  unfold len ln at h0
  by_cases e1 : 0 < (K.r 1).length
  · rw [if_pos e1] at hv
    rw [hv] at ht
    obtain ⟨g, o, hA, hc⟩ := first_cell hr (r := 1) (by omega) ht
    rw [hA] at c1
    have z1 : (0 : Int) < ((K.r 1).length : Int) := by omega
    have f1 : (((K.r 1).length : Int) == 0) = false := by rw [beq_eq_false_iff_ne]; omega
    clear hm hr hv ht hmem hp hk hsm hA
    generalize p 1 = p1 at *
    generalize (K.r 1).length = n1 at *
    go_enter Tryz.func44, Tryz.ntmps44
    go_wp2_with fail
    refine RM'.out.mono ?_
    rintro e w2 ⟨rfl, F2, h2, hs2⟩
    have H2 := Lib.hid h2
    have HS2 := Lib.hid hs2
    clear h2 hs2
    go_wp2_with fail
    go_ret2
    exact ⟨rfl, F2, H2.out, HS2.out⟩
  · rw [if_neg e1] at hv
    have z1 : (K.r 1).length = 0 := by omega
    rw [z1] at c1
    by_cases e2 : 0 < (K.r 2).length
    · rw [if_pos e2] at hv
      rw [hv] at ht
      obtain ⟨g, o, hA, hc⟩ := first_cell hr (r := 2) (by omega) ht
      rw [hA] at c2
      have z2 : (0 : Int) < ((K.r 2).length : Int) := by omega
      have f2 : (((K.r 2).length : Int) == 0) = false := by rw [beq_eq_false_iff_ne]; omega
      clear hm hr hv ht hmem hp hk hsm hA z1 e1
      generalize A 1 = A1 at *
      generalize p 1 = p1 at *
      generalize p 2 = p2 at *
      generalize (K.r 2).length = n2 at *
      go_enter Tryz.func44, Tryz.ntmps44
      go_wp2_with fail
      refine RM'.out.mono ?_
      rintro e w2 ⟨rfl, F2, h2, hs2⟩
      have H2 := Lib.hid h2
      have HS2 := Lib.hid hs2
      clear h2 hs2
      go_wp2_with fail
      go_ret2
      exact ⟨rfl, F2, H2.out, HS2.out⟩
    · rw [if_neg e2] at hv
      have z2 : (K.r 2).length = 0 := by omega
      rw [z2] at c2
      rw [hv] at ht
      obtain ⟨g, o, hA, hc⟩ := first_cell hr (r := 0) (by omega) ht
      rw [hA] at c0
      have z0 : (0 : Int) < ((K.r 0).length : Int) := by omega
      have f0 : (((K.r 0).length : Int) == 0) = false := by rw [beq_eq_false_iff_ne]; omega
      clear hm hr hv ht hmem hp hk hsm hA z1 z2 e1 e2
      generalize A 1 = A1 at *
      generalize p 1 = p1 at *
      generalize A 2 = A2 at *
      generalize p 2 = p2 at *
      generalize p 0 = p0 at *
      generalize (K.r 0).length = n0 at *
      go_enter Tryz.func44, Tryz.ntmps44
      go_wp2_with fail
      refine RM'.out.mono ?_
      rintro e w2 ⟨rfl, F2, h2, hs2⟩
      have H2 := Lib.hid h2
      have HS2 := Lib.hid hs2
      clear h2 hs2
      go_wp2_with fail
      go_ret2
      exact ⟨rfl, F2, H2.out, HS2.out⟩

theorem ref_evict (h : Ref w b F c K) :
    Calls Tryz.prog 44 #[.pointer (some ⟨b, 0, none⟩)] w (Did (.tuple #[.string (evict c K).1, .bool (evict c K).2.1]) b F c (evict c K).2.2 w) := by
  unfold evict
  split
  · rename_i h0
    exact (revict_none h h0).mono fun _ _ ⟨h1, h2⟩ => ⟨h1, F, h2 ▸ h, h2 ▸ Step.refl _ _⟩
  · rename_i h0
    exact revict_one h (by omega) rfl
end

end Go.Proofs.YtkeicfajlmhajaaGreat.Rf

/- TinyLFU's reference in memory: State, Keys, Ghosts. -/
namespace Go.Proofs.YtkeicfajlmhajaaGreat.Rf
open Go Go.RowKit Go.Proofs.YtkeicfajlmhajaaGreat.K Go.Proofs.YtkeicfajlmhajaaGreat.Sl Go.Proofs.YtkeicfajlmhajaaGreat.Eg
open Go.Proofs.YtkeicfajlmhajaaGreat.Li (more more_lt infoS own_form')
open Go.Proofs.YtkeicfajlmhajaaGreat.Rw (upd upd_same upd_other less less_same cell_below cell_upd own_mono own_below)
open Go.Proofs.YtkeicfajlmhajaaGreat.Tx (txt str three tail tail_len)

section
variable {w : World} {A : Option Addr} {ys : List ByteArray} {cap : Nat}

theorem tail_take {j : Nat} {s : ByteArray} (hs : ys[j]? = some s) : tail (ys.take (j + 1)) = tail (ys.take j) ++ 32 :: s.data.toList := by
  have hj := lt_of_getElem? hs
  have e : ys[j] = s := by rw [List.getElem?_eq_getElem hj] at hs; exact Option.some.inj hs
  unfold tail
  rw [← List.take_append_getElem hj, List.flatMap_append, e]
  simp

theorem str_grow (name : List UInt8) (l : List ByteArray) (s : ByteArray) : str (txt name l) ++ ⟨#[32]⟩ ++ s = str (txt name l ++ 32 :: s.data.toList) := by
  unfold str
  apply ByteArray.ext
  rw [ByteArray.data_append, ByteArray.data_append]
  apply Array.ext'
  simp
theorem str_name (name : ByteArray) : name ++ ⟨#[58]⟩ = str (txt name.data.toList []) := by
  unfold str txt tail
  apply ByteArray.ext
  rw [ByteArray.data_append]
  apply Array.ext'
  simp
theorem str_size (l : List UInt8) : (str l).size = l.length := by
  show l.toArray.size = _
  simp

theorem ref_text (h : RStr w A ys) (hc : ys.length ≤ cap) (hl : ys.length ≤ 3000) (hk : ∀ k ∈ ys, k.size ≤ 40) (name : ByteArray) (hn : name.size ≤ 10) :
    Calls Tryz.prog 55 #[.string name, .slice A ys.length cap] w fun e w' => e = .returned (.string (str (txt name.data.toList ys))) ∧ w = w' := by
  obtain ⟨N, hN⟩ : ∃ N, N = ys.length := ⟨_, rfl⟩
  rw [← hN] at hc hl ⊢
  have HN := Lib.hid hN
  have H := Lib.hid h
  have HK := Lib.hid hk
  have H0 := Lib.hid (str_name name)
  clear h hN hk
  go_enter Tryz.func55, Tryz.ntmps55
  go_wp2_with fail
  go_loopg [5, 6] N (fun k v5 v6 wr => w = wr ∧ ∃ j : Nat, j ≤ N ∧ k = N - j ∧ v6 = .int .i64 (j : Int) ∧ v5 = .string (str (txt name.data.toList (ys.take j))))
  case atStart => exact ⟨rfl, 0, by omega, by omega, rfl, by rw [H0.out]; rfl⟩
  case round =>
    obtain ⟨rfl, j, hj, hgk, rfl, rfl⟩ := hrel
    have HGK := Lib.hid hgk
    clear hgk
    have hsz : (str (txt name.data.toList (ys.take j))).size ≤ 300000 := by
      rw [str_size]
      have := tail_len (ys.take j) (fun k hk => HK.out k (List.mem_of_mem_take hk))
      have h2 : (ys.take j).length ≤ 3000 := by rw [List.length_take]; omega
      have h3 : name.data.toList.length = name.size := Array.length_toList
      unfold txt
      rw [List.length_append, List.length_cons]
      omega
    rcases Nat.eq_or_lt_of_le hj with rfl | hjl
    · have e : ys.take j = ys := by rw [HN.out, List.take_length]
      rw [e]
      go_wp2_with fail
      go_ret
      exact ⟨rfl, rfl⟩
    · obtain ⟨s, hs⟩ : ∃ s, ys[j]? = some s := ⟨_, List.getElem?_eq_getElem (by rw [← HN.out]; exact hjl)⟩
      obtain ⟨g, o, rfl, hcell⟩ := H.out.get j s hs
      have hss : s.size ≤ 40 := HK.out s (List.mem_of_getElem? hs)
      have HT := Lib.hid (tail_take hs)
      have HG := Lib.hid (str_grow name.data.toList (ys.take j) s)
      clear hs
      have z0 : (0 : Int) ≤ (j : Int) := by omega
      have z1 : (j : Int) < (N : Int) := by omega
      generalize hz : str (txt name.data.toList (ys.take j)) = z at *
      have HZ := Lib.hid hz
      clear hz
      go_wp2_with fail
      go_roundg (N - (j + 1))
      case measure => rw [HGK.out]; omega
      case rel => exact ⟨rfl, j + 1, hjl, rfl, rfl, by rw [HG.out]; unfold txt; rw [HT.out]; simp⟩

def stext' (K : Ks) : ByteArray := str (three (txt [87] (K.r 0)) (txt [65] (K.r 1)) (txt [80] (K.r 2)))
theorem str_three (a b c : List UInt8) : str a ++ ⟨#[59]⟩ ++ str b ++ ⟨#[59]⟩ ++ str c = str (three a b c) := by
  unfold str three
  apply ByteArray.ext
  simp only [ByteArray.data_append]
  apply Array.ext'
  simp

variable {b c : Nat} {F : Nat → Prop} {K : Ks}
theorem txt_size (K : Ks) (hi : Inv c K) (r : Nat) (hr : r < 3) (name : List UInt8) (hn : name.length ≤ 10) : (str (txt name (K.r r))).size ≤ 300000 := by
  have h1 := tail_len (K.r r) (hi.small r hr)
  have h2 := hi.len1
  have h3 : (K.r r).length ≤ 1024 := by
    match r, hr with
    | 0, _ => omega
    | 1, _ => omega
    | 2, _ => omega
  rw [str_size]
  unfold txt
  rw [List.length_append, List.length_cons]
  omega

set_option maxRecDepth 100000 in
set_option maxHeartbeats 3200000 in
theorem ref_state (h : Ref w b F c K) : Calls Tryz.prog 28 #[.pointer (some ⟨b, 0, none⟩)] w fun e w' => e = .returned (.string (stext' K)) ∧ Below w.heap.size w w' := by
  have hi := h.inv
  obtain ⟨v, Fs, kb, db, H, hm, -⟩ := h
  obtain ⟨A, p, hs⟩ := hm.rs
  have c0 := hs.c0
  have c1 := hs.c1
  have c2 := hs.c2
  have hl := hi.len1
  obtain ⟨t0, ht0⟩ : ∃ t, t = str (txt [87] (K.r 0)) := ⟨_, rfl⟩
  obtain ⟨t1, ht1⟩ : ∃ t, t = str (txt [65] (K.r 1)) := ⟨_, rfl⟩
  obtain ⟨t2, ht2⟩ : ∃ t, t = str (txt [80] (K.r 2)) := ⟨_, rfl⟩
  have s0 : t0.size ≤ 300000 := by rw [ht0]; exact txt_size K hi 0 (by omega) _ (by decide)
  have s1 : t1.size ≤ 300000 := by rw [ht1]; exact txt_size K hi 1 (by omega) _ (by decide)
  have s2 : t2.size ≤ 300000 := by rw [ht2]; exact txt_size K hi 2 (by omega) _ (by decide)
  have T0 : Hid (∀ n, Calls Tryz.prog 55 #[.string ⟨#[87]⟩, .slice (A 0) (K.r 0).length (p 0)] (w.drewN n) fun e w' => e = .returned (.string t0) ∧ w' = w.drewN n) := Lib.hid (fun n => by
    rw [ht0]
    exact (ref_text (w := w.drewN n) (((hs.sl 0 (by omega)).below (below_drewN (Below.refl _ _) n)).rstr (by omega)) (hs.p_ 0 (by omega)) (by omega) (hi.small 0 (by omega)) ⟨#[87]⟩ (by decide)).mono fun _ _ ⟨h1, h2⟩ => ⟨h1, h2.symm⟩)
  have T1 : Hid (∀ n, Calls Tryz.prog 55 #[.string ⟨#[65]⟩, .slice (A 1) (K.r 1).length (p 1)] (w.drewN n) fun e w' => e = .returned (.string t1) ∧ w' = w.drewN n) := Lib.hid (fun n => by
    rw [ht1]
    exact (ref_text (w := w.drewN n) (((hs.sl 1 (by omega)).below (below_drewN (Below.refl _ _) n)).rstr (by omega)) (hs.p_ 1 (by omega)) (by omega) (hi.small 1 (by omega)) ⟨#[65]⟩ (by decide)).mono fun _ _ ⟨h1, h2⟩ => ⟨h1, h2.symm⟩)
  have T2 : Hid (∀ n, Calls Tryz.prog 55 #[.string ⟨#[80]⟩, .slice (A 2) (K.r 2).length (p 2)] (w.drewN n) fun e w' => e = .returned (.string t2) ∧ w' = w.drewN n) := Lib.hid (fun n => by
    rw [ht2]
    exact (ref_text (w := w.drewN n) (((hs.sl 2 (by omega)).below (below_drewN (Below.refl _ _) n)).rstr (by omega)) (hs.p_ 2 (by omega)) (by omega) (hi.small 2 (by omega)) ⟨#[80]⟩ (by decide)).mono fun _ _ ⟨h1, h2⟩ => ⟨h1, h2.symm⟩)
  have HX : Hid (t0 ++ ⟨#[59]⟩ ++ t1 ++ ⟨#[59]⟩ ++ t2 = stext' K) := Lib.hid (by rw [ht0, ht1, ht2]; exact str_three _ _ _)
  clear hm hs hi ht0 ht1 ht2 hl
  go_enter Tryz.func28, Tryz.ntmps28
  go_wp2_with fail
  go_quiet (first | (go_at_call 55; with_reducible exact Calls.quiet_of_same (T0.out _)) | (go_at_call 55; with_reducible exact Calls.quiet_of_same (T1.out _)) | (go_at_call 55; with_reducible exact Calls.quiet_of_same (T2.out _)))
  go_wp2_with fail
  go_ret
  exact ⟨by rw [← HX.out]; rfl, below_drewN (Below.refl _ _) _⟩

set_option maxHeartbeats 3200000 in
theorem ref_keys (h : Ref w b F c K) : Calls Tryz.prog 30 #[.pointer (some ⟨b, 0, none⟩)] w (Texts (res K) w) := by
  have hi := h.inv
  obtain ⟨v, Fs, kb, db, H, hm, -⟩ := h
  obtain ⟨A, p, hs⟩ := hm.rs
  have c0 := hs.c0
  have c1 := hs.c1
  have c2 := hs.c2
  have hl := hi.len1
  have W0 : Hid (Below w.heap.size w (w.alloc (.cells #[] 9)).drew) := Lib.hid (((Below.refl _ _).alloc (Nat.le_refl _) _).trans (below_drewN (Below.refl _ _) 1))
  have S0 := Lib.hid ((hs.sl 0 (by omega)).below W0.out)
  have OW : Hid ((w.alloc (.cells #[] 9)).drew.ownsRow w.heap.size 9 1 (.slice (some ⟨w.heap.size, 0, none⟩) 0 0) 0 []) := Lib.hid (World.ownsRow_lit w #[] 0 (Nat.le_refl _) (by unfold maxLen; omega) rfl)
  have HS := Lib.hid (hs.sl 2 (by omega))
  have HS1 := Lib.hid (hs.sl 1 (by omega))
  have b1 : (K.r 1).length ≤ 1000 * 1000 := by omega
  have b01 : (K.r 0).length + (K.r 1).length ≤ 1000 * 1000 := by omega
  have b0 : (K.r 0).length ≤ 1000 * 1000 := by omega
  have b2 : (K.r 2).length ≤ 1000 * 1000 := by omega
  clear hm hs hi hl
  go_enter Tryz.func30, Tryz.ntmps30
  go_wp2_with fail
  refine wp_region_held_drew (S := fun w' => w'.cell? ⟨b, 0, none⟩ = some (.slice (A 0) (K.r 0).length (p 0)) ∧ w'.cell? ⟨b, 1, none⟩ = some (.slice (A 1) (K.r 1).length (p 1)) ∧ w'.cell? ⟨b, 2, none⟩ = some (.slice (A 2) (K.r 2).length (p 2))) (by kernel_rfl) ?_ (fun hHeld => ?_)
  · exact ⟨c0, c1, c2⟩
  refine wpAnyH_take (i := 1) (v := ?_) rfl (by kernel_rfl) (by kernel_rfl) (by kernel_rfl) (fun _ _ _ h => h) (Or.inl ⟨by rfl, ?_⟩) (by assumption) ?_
  rotate_left
  · (intro w hSw; (try dsimp only at hSw); go_simp; first | done | with_reducible rfl)
  simp only [Act.put, List.getElem_toArray, List.getElem_cons_zero, List.getElem_cons_succ, List.setIfInBounds_toArray, List.set_cons_zero, List.set_cons_succ]
  refine wpAnyH_take (i := 2) (v := ?_) rfl (by kernel_rfl) (by kernel_rfl) (by kernel_rfl) (fun _ _ _ h => h) (Or.inl ⟨by rfl, ?_⟩) (by assumption) ?_
  rotate_left
  · (intro w hSw; (try dsimp only at hSw); go_simp; first | done | with_reducible rfl)
  simp only [Act.put, List.getElem_toArray, List.getElem_cons_zero, List.getElem_cons_succ, List.setIfInBounds_toArray, List.set_cons_zero, List.set_cons_succ]
  refine wpAnyH_take (i := 3) (v := ?_) rfl (by kernel_rfl) (by kernel_rfl) (by kernel_rfl) (fun _ _ _ h => h) (Or.inl ⟨by rfl, ?_⟩) (by assumption) ?_
  rotate_left
  · (intro w hSw; (try dsimp only at hSw); go_simp; first | done | with_reducible rfl)
  simp only [Act.put, List.getElem_toArray, List.getElem_cons_zero, List.getElem_cons_succ, List.setIfInBounds_toArray, List.set_cons_zero, List.set_cons_succ]
  refine wpAnyH_take (i := 4) (v := ?_) rfl (by kernel_rfl) (by kernel_rfl) (by kernel_rfl) (fun _ _ _ h => h) (Or.inl ⟨by rfl, ?_⟩) (by assumption) ?_
  rotate_left
  · (intro w hSw; (try dsimp only at hSw); go_simp; first | done | with_reducible rfl)
  simp only [Act.put, List.getElem_toArray, List.getElem_cons_zero, List.getElem_cons_succ, List.setIfInBounds_toArray, List.set_cons_zero, List.set_cons_succ]
  refine wpAnyH_take (i := 6) (v := ?_) rfl (by kernel_rfl) (by kernel_rfl) (by kernel_rfl) (fun _ _ _ h => h) (Or.inl ⟨by rfl, ?_⟩) (by assumption) ?_
  rotate_left
  · (intro w hSw; (try dsimp only at hSw); go_simp; first | done | with_reducible rfl)
  simp only [Act.put, List.getElem_toArray, List.getElem_cons_zero, List.getElem_cons_succ, List.setIfInBounds_toArray, List.set_cons_zero, List.set_cons_succ]
  refine wpAnyH_take (i := 7) (v := ?_) rfl (by kernel_rfl) (by kernel_rfl) (by kernel_rfl) (fun _ _ _ h => h) (Or.inl ⟨by rfl, ?_⟩) (by assumption) ?_
  rotate_left
  · (intro w hSw; (try dsimp only at hSw); go_simp; first | done | with_reducible rfl)
  simp only [Act.put, List.getElem_toArray, List.getElem_cons_zero, List.getElem_cons_succ, List.setIfInBounds_toArray, List.set_cons_zero, List.set_cons_succ]
  refine wpAnyH_take (i := 8) (v := ?_) rfl (by kernel_rfl) (by kernel_rfl) (by kernel_rfl) (fun _ _ _ h => h) (Or.inl ⟨by rfl, ?_⟩) (by assumption) ?_
  rotate_left
  · (intro w hSw; (try dsimp only at hSw); go_simp; first | done | with_reducible rfl)
  simp only [Act.put, List.getElem_toArray, List.getElem_cons_zero, List.getElem_cons_succ, List.setIfInBounds_toArray, List.set_cons_zero, List.set_cons_succ]
  refine wpAnyH_take (i := 9) (v := ?_) rfl (by kernel_rfl) (by kernel_rfl) (by kernel_rfl) (fun _ _ _ h => h) (Or.inl ⟨by rfl, ?_⟩) (by assumption) ?_
  rotate_left
  · (intro w hSw; (try dsimp only at hSw); go_simp; first | done | with_reducible rfl)
  simp only [Act.put, List.getElem_toArray, List.getElem_cons_zero, List.getElem_cons_succ, List.setIfInBounds_toArray, List.set_cons_zero, List.set_cons_succ]
  refine wpAnyH_take (i := 11) (v := ?_) rfl (by kernel_rfl) (by kernel_rfl) (by kernel_rfl) (fun _ _ _ h => h) (Or.inl ⟨by rfl, ?_⟩) (by assumption) ?_
  rotate_left
  · (intro w hSw; (try dsimp only at hSw); go_simp; first | done | with_reducible rfl)
  simp only [Act.put, List.getElem_toArray, List.getElem_cons_zero, List.getElem_cons_succ, List.setIfInBounds_toArray, List.set_cons_zero, List.set_cons_succ]
  refine wpAnyH_take (i := 12) (v := ?_) rfl (by kernel_rfl) (by kernel_rfl) (by kernel_rfl) (fun _ _ _ h => h) (Or.inl ⟨by rfl, ?_⟩) (by assumption) ?_
  rotate_left
  · (intro w hSw; (try dsimp only at hSw); go_simp; first | done | with_reducible rfl)
  simp only [Act.put, List.getElem_toArray, List.getElem_cons_zero, List.getElem_cons_succ, List.setIfInBounds_toArray, List.set_cons_zero, List.set_cons_succ]
  refine wpAnyH_take (i := 13) (v := ?_) rfl (by kernel_rfl) (by kernel_rfl) (by kernel_rfl) (fun _ _ _ h => h) (Or.inl ⟨by rfl, ?_⟩) (by assumption) ?_
  rotate_left
  · (intro w hSw; (try dsimp only at hSw); go_simp; first | done | with_reducible rfl)
  simp only [Act.put, List.getElem_toArray, List.getElem_cons_zero, List.getElem_cons_succ, List.setIfInBounds_toArray, List.set_cons_zero, List.set_cons_succ]
  refine wpAnyH_take (i := 14) (v := ?_) rfl (by kernel_rfl) (by kernel_rfl) (by kernel_rfl) (fun _ _ _ h => h) (Or.inl ⟨by rfl, ?_⟩) (by assumption) ?_
  rotate_left
  · (intro w hSw; (try dsimp only at hSw); go_simp; first | done | with_reducible rfl)
  simp only [Act.put, List.getElem_toArray, List.getElem_cons_zero, List.getElem_cons_succ, List.setIfInBounds_toArray, List.set_cons_zero, List.set_cons_succ]
  refine wpAnyH_ready (rs := [0]) (by kernel_rfl) (by simp) ?_
  refine AllReadyH.cons rfl (fun K hK => ?_) ?_
  rotate_left
  · exact AllReadyH.nil
  go_simp
  refine hK.out _ _ ?_ (fun hHeld => ?_)
  · exact ⟨cell_below W0.out c0, cell_below W0.out c1, cell_below W0.out c2⟩
  clear hK K
  try simp only [Act.put, List.getElem_toArray, List.getElem_cons_zero, List.getElem_cons_succ, List.setIfInBounds_toArray, List.set_cons_zero, List.set_cons_succ]
  refine wpAnyH_ready (rs := [5]) (by kernel_rfl) (by simp) ?_
  refine AllReadyH.cons rfl (fun K hK => ?_) ?_
  rotate_left
  · exact AllReadyH.nil
  refine step_cat (by rfl) (.tmp 3) (.tmp 7) (by rfl) OW.out W0.out.size S0.out (by omega) b0 (by rfl) (by rfl) ?_; intro v' w2 ho hg; have hb2 := W0.out.grown hg W0.out.size (fun g hg => (OW.out.lt g hg).1); have HO2 := Lib.hid ho; have HB2 := Lib.hid hb2; have S2 := Lib.hid (HS1.out.below hb2); clear ho hg hb2
  refine hK.out _ _ ?_ (fun hHeld => ?_)
  · exact ⟨cell_below HB2.out c0, cell_below HB2.out c1, cell_below HB2.out c2⟩
  clear hK K
  try simp only [Act.put, List.getElem_toArray, List.getElem_cons_zero, List.getElem_cons_succ, List.setIfInBounds_toArray, List.set_cons_zero, List.set_cons_succ]
  refine wpAnyH_ready (rs := [10]) (by kernel_rfl) (by simp) ?_
  refine AllReadyH.cons rfl (fun K hK => ?_) ?_
  rotate_left
  · exact AllReadyH.nil
  refine step_cat (by rfl) (.tmp 8) (.tmp 12) (by rfl) HO2.out HB2.out.size S2.out (by omega) b1 (by rfl) (by rfl) ?_; intro v'' w3 ho hg; have hb3 := HB2.out.grown hg HB2.out.size (fun g hg => (HO2.out.lt g hg).1); have HO3 := Lib.hid ho; have HB3 := Lib.hid hb3; have S3 := Lib.hid (HS.out.below hb3); clear ho hg hb3
  refine hK.out _ _ ?_ (fun hHeld => ?_)
  · exact ⟨cell_below HB3.out c0, cell_below HB3.out c1, cell_below HB3.out c2⟩
  clear hK K
  try simp only [Act.put, List.getElem_toArray, List.getElem_cons_zero, List.getElem_cons_succ, List.setIfInBounds_toArray, List.set_cons_zero, List.set_cons_succ]
  refine wpAnyH_ready (rs := [15]) (by kernel_rfl) (by simp) ?_
  refine AllReadyH.cons rfl (fun K hK => ?_) ?_
  rotate_left
  · exact AllReadyH.nil
  refine step_cat (by rfl) (.tmp 13) (.tmp 17) (by rfl) HO3.out HB3.out.size S3.out (by simp; omega) b2 (by rfl) (by rfl) ?_; intro v3 w4 ho hg; have hb4 := HB3.out.grown hg HB3.out.size (fun g hg => (HO3.out.lt g hg).1); have HO4 := Lib.hid ho; have HB4 := Lib.hid hb4; clear ho hg hb4
  refine hK.out _ _ ?_ (fun hHeld => ?_)
  · exact ⟨cell_below HB4.out c0, cell_below HB4.out c1, cell_below HB4.out c2⟩
  clear hK K
  try simp only [Act.put, List.getElem_toArray, List.getElem_cons_zero, List.getElem_cons_succ, List.setIfInBounds_toArray, List.set_cons_zero, List.set_cons_succ]
  refine wpAnyH_take (i := 16) (v := ?_) rfl (by kernel_rfl) (by kernel_rfl) (by kernel_rfl) (fun _ _ _ h => h) (Or.inl ⟨by rfl, ?_⟩) (by assumption) ?_
  rotate_left
  · (intro w hSw; (try dsimp only at hSw); go_simp; first | done | with_reducible rfl)
  simp only [Act.put, List.getElem_toArray, List.getElem_cons_zero, List.getElem_cons_succ, List.setIfInBounds_toArray, List.set_cons_zero, List.set_cons_succ]
  refine wpAnyH_done (by kernel_rfl) ?_ _
  go_wp2_with fail
  go_ret
  refine ⟨v3, rfl, ?_, HB4.out⟩
  have h3 := HO4.out
  simp only [res, rs, List.length_append, List.map_append]
  simpa [Nat.add_assoc] using h3

set_option maxHeartbeats 3200000 in
theorem ref_ghosts (_h : Ref w b F c K) : Calls Tryz.prog 32 #[.pointer (some ⟨b, 0, none⟩)] w (Texts (gho K) w) := by
  clear _h
  go_enter Tryz.func32, Tryz.ntmps32
  go_wp2_with fail
  go_ret
  exact ⟨_, rfl, World.ownsRow_nil _ _ _ _, Below.refl _ _⟩
end

end Go.Proofs.YtkeicfajlmhajaaGreat.Rf

/- The reference, closed. -/
namespace Go.Proofs.YtkeicfajlmhajaaGreat.Rf

end Go.Proofs.YtkeicfajlmhajaaGreat.Rf
