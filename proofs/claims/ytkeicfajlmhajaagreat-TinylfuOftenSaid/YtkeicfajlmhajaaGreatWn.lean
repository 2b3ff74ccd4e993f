/- TinyLFU: Often: a key that comes often, and then others: engine and reference agree on it. -/
import Derived.Test.YtkeicfajlmhajaaGreatWf
namespace Go.Proofs.YtkeicfajlmhajaaGreat.Lw
open Go Go.RowKit Go.Proofs.YtkeicfajlmhajaaGreat.K Go.Proofs.YtkeicfajlmhajaaGreat.Sl
open Go.Proofs.YtkeicfajlmhajaaGreat.Li (more more_lt own_form')
open Go.Proofs.YtkeicfajlmhajaaGreat.Rw (cell_below cell_upd own_mono own_below)
open Go.Proofs.YtkeicfajlmhajaaGreat.Eg (Ks Eng access remove evict has stext res gho len cof init Inv AccPost Gone Texts)

theorem rstr_take' {w : World} {A : Option Addr} {xs : List ByteArray} (h : RStr w A xs) (j : Nat) : RStr w A (xs.take j) := by
  refine ⟨by rw [List.length_take]; have := h.len; omega, fun i s hs => h.get i s ?_⟩
  rw [List.getElem?_take] at hs
  split at hs
  · exact hs
  · cases hs

/-- The one key. -/
def sharp : ByteArray := ⟨#[35]⟩

/-- So many rounds. -/
def ORel (w0 : World) (b q c N : Nat) (k : Nat) (vi : Value) (wr : World) : Prop :=
  ∃ F G K j, j ≤ N ∧ k = N - j ∧ vi = .int .i64 ((j : Nat) : Int) ∧ Two wr b q c F G K K ∧ (∀ k, Both F G k → w0.heap.size ≤ k) ∧ Below w0.heap.size w0 wr

set_option maxRecDepth 100000 in
set_option maxHeartbeats 3200000 in
theorem often (room times : Int) {w : World} {A : Option Addr} {xs : List ByteArray} {cap : Nat} (h : RStr w A xs) (hc : xs.length ≤ cap) :
    Calls Tryz.prog 3 #[.int .i64 room, .int .i64 times, .slice A xs.length cap] w fun e w' => e = .returned (.bool true) ∧ Below w.heap.size w w' := by
  by_cases g1 : room < 8
  · clear h hc
    generalize xs.length = N at *
    go_enter Tryz.func3, Tryz.ntmps3
    go_wp2_with fail
    go_ret
    exact ⟨rfl, Below.refl _ _⟩
  by_cases g2 : 60 < room
  · clear h hc
    generalize xs.length = N at *
    go_enter Tryz.func3, Tryz.ntmps3
    go_wp2_with fail
    go_ret
    exact ⟨rfl, Below.refl _ _⟩
  by_cases g3 : times < 4
  · clear h hc
    generalize xs.length = N at *
    go_enter Tryz.func3, Tryz.ntmps3
    go_wp2_with fail
    go_ret
    exact ⟨rfl, Below.refl _ _⟩
  by_cases g4 : 10 < times
  · clear h hc
    generalize xs.length = N at *
    go_enter Tryz.func3, Tryz.ntmps3
    go_wp2_with fail
    go_ret
    exact ⟨rfl, Below.refl _ _⟩
  obtain ⟨c, hcr⟩ : ∃ c : Nat, room = (c : Int) := ⟨room.toNat, by omega⟩
  obtain ⟨T, hT⟩ : ∃ T : Nat, times = (T : Int) := ⟨times.toNat, by omega⟩
  subst hcr
  subst hT
  have hlen := h.len
  obtain ⟨r, hL, hr⟩ := long_any h hc h.len
  have hm : IntKind.i64.wrap (2 * (c : Int)) = 2 * (c : Int) := IntWalk.i64_in _ (by omega)
  by_cases g5 : 2 * (c : Int) < (xs.length : Int)
  · clear h hc hL hr hlen
    generalize xs.length = N at *
    go_enter Tryz.func3, Tryz.ntmps3
    go_wp2_with fail
    go_ret
    exact ⟨rfl, Below.refl _ _⟩
  have LG := Lib.hid hL
  have NW := Lib.hid (Eg.eng_new (c : Int) w)
  have NR := Lib.hid (fun w1 => Rf.ref_new (c : Int) w1)
  clear hL hlen
  cases r with
  | true =>
    clear hr h
    generalize xs.length = N at *
    go_enter Tryz.func3, Tryz.ntmps3
    go_wp2_with fail
    refine LG.out.mono ?_
    rintro e w1 ⟨rfl, rfl⟩
    go_wp2_with fail
    go_ret
    exact ⟨rfl, Below.refl _ _⟩
  | false =>
    obtain ⟨h200, h40⟩ := hr rfl
    obtain ⟨N, hN⟩ : ∃ N, N = xs.length := ⟨_, rfl⟩
    rw [← hN] at hc LG h200 g5 ⊢
    have HN := Lib.hid hN
    have H := Lib.hid h
    have H40 := Lib.hid h40
    clear h hN h40 hr
    go_enter Tryz.func3, Tryz.ntmps3
    go_wp2_with fail
    refine LG.out.mono ?_
    rintro e w1 ⟨rfl, rfl⟩
    clear hm g1 g2 g5
    go_wp2_with fail
    refine NW.out.mono ?_
    rintro e w1 ⟨b, F, rfl, he, hb, hF⟩
    have HE := Lib.hid he
    have HB1 := Lib.hid hb
    have HF := Lib.hid hF
    clear he hb hF
    go_wp2_with fail
    refine (NR.out w1).mono ?_
    rintro e w2 ⟨q, G, rfl, hr, hb2, hG⟩
    have R0 : Hid (ORel w b q (cof c) T T (.int .i64 0) w2) := Lib.hid (by
      obtain ⟨t1, t2, t3⟩ := two_new HE.out HB1.out HF.out hr hb2 hG
      exact ⟨F, G, init, 0, by omega, by omega, rfl, t1, t2, t3⟩)
    clear hr hb2 hG
    generalize cof c = cc at *
    go_wp2_with fail
    go_loopg [9] T (fun k vi wr => ORel w b q cc T k vi wr)
    case atStart => exact R0.out
    case round =>
      obtain ⟨F, G, K, j, hj, hgk, rfl, hTw, hnew, hb⟩ := hrel
      have HGK := Lib.hid hgk
      clear hgk
      rcases Nat.eq_or_lt_of_le hj with rfl | hjl
      · have R1 : Hid (ORel w b q cc N N (.int .i64 0) wr) := Lib.hid ⟨F, G, K, 0, by omega, by omega, rfl, hTw, hnew, hb⟩
        clear hTw hnew hb
        go_wp2_with fail
        go_loopg [10] N (fun k vi wr => ORel w b q cc N k vi wr)
        case atStart => exact R1.out
        case round =>
          obtain ⟨F, G, K, i, hi, hgk, rfl, hTw, hnew, hb⟩ := hrel
          have HGK2 := Lib.hid hgk
          clear hgk
          have HB := Lib.hid hb
          have HNW := Lib.hid hnew
          have HT := Lib.hid hTw
          rcases Nat.eq_or_lt_of_le hi with rfl | hil
          · have EH := Lib.hid (Eg.eng_has hTw.eng (key := sharp) (by decide))
            clear hTw hnew hb
            go_wp2_with fail
            refine EH.out.mono ?_
            rintro e w3 ⟨rfl, hb3⟩
            have T3 := Lib.hid (HT.out.below hb3)
            have B3 := Lib.hid (HB.out.trans (hb3.mono HB.out.size))
            clear hb3
            have RH := Lib.hid (Rf.ref_has T3.out.ref sharp)
            generalize has K sharp = hit at *
            go_wp2_with fail
            refine RH.out.mono ?_
            rintro e w4 ⟨rfl, rfl⟩
            go_wp2_with fail
            refine (known_any _).mono ?_
            rintro e w4 ⟨rfl, hb4⟩
            have B4 := Lib.hid (B3.out.trans (hb4.mono B3.out.size))
            clear hb4
            go_wp2_with fail
            go_ret
            exact ⟨rfl, B4.out⟩
          · obtain ⟨s, hs⟩ : ∃ s, xs[i]? = some s := ⟨_, List.getElem?_eq_getElem (by rw [← HN.out]; exact hil)⟩
            obtain ⟨g, o, rfl, hcell⟩ := (H.out.below hb).get i s hs
            have hsz := H40.out s (List.mem_of_getElem? hs)
            have htl : (xs.take i).length = i := by rw [List.length_take]; have := HN.out; omega
            have B1 := Lib.hid (below_drewN hb 1)
            have z0 : (0 : Int) ≤ (i : Int) := by omega
            have z1 : (i : Int) < (N : Int) := by omega
            have z2 : (i : Int) ≤ (cap : Int) := by omega
            by_cases he : s = sharp
            · subst he
              have hcell' : wr.cell? ⟨g, o + i, none⟩ = some (.string ⟨#[35]⟩) := hcell
              clear hTw hnew hb hs hcell hsz htl
              go_wp2_with fail
              refine wp_region_held_drew (S := fun w' => w'.cell? ⟨g, o + i, none⟩ = some (.string ⟨#[35]⟩)) (by kernel_rfl) ?_ (fun hHeld => ?_)
              · exact hcell'
              refine wpAnyH_take (i := 0) (v := ?_) rfl (by kernel_rfl) (by kernel_rfl) (by kernel_rfl) (fun _ _ _ h => h) (Or.inl ⟨by rfl, ?_⟩) (by assumption) ?_
              rotate_left
              · (intro w hSw; (try dsimp only at hSw); go_simp; first | done | with_reducible rfl)
              simp only [Act.put, List.getElem_toArray, List.getElem_cons_zero, List.setIfInBounds_toArray, List.set_cons_zero, List.set_cons_succ]
              refine wpAnyH_take (i := 1) (v := ?_) rfl (by kernel_rfl) (by kernel_rfl) (by kernel_rfl) (fun _ _ _ h => h) (Or.inl ⟨by rfl, ?_⟩) (by assumption) ?_
              rotate_left
              · (intro w hSw; (try dsimp only at hSw); go_simp; first | done | with_reducible rfl)
              simp only [Act.put, List.getElem_toArray, List.getElem_cons_zero, List.getElem_cons_succ, List.setIfInBounds_toArray, List.set_cons_zero, List.set_cons_succ]
              refine wpAnyH_take (i := 2) (v := ?_) rfl (by kernel_rfl) (by kernel_rfl) (by kernel_rfl) (fun _ _ _ h => h) (Or.inl ⟨by rfl, ?_⟩) (by assumption) ?_
              rotate_left
              · (intro w hSw; (try dsimp only at hSw); go_simp; first | done | with_reducible rfl)
              simp only [Act.put, List.getElem_toArray, List.getElem_cons_zero, List.getElem_cons_succ, List.setIfInBounds_toArray, List.set_cons_zero, List.set_cons_succ]
              refine wpAnyH_take (i := 3) (v := ?_) rfl (by kernel_rfl) (by kernel_rfl) (by kernel_rfl) (fun _ _ _ h => h) (Or.inl ⟨by rfl, ?_⟩) (by assumption) ?_
              rotate_left
              · (intro w hSw; (try dsimp only at hSw); go_simp; first | done | with_reducible rfl)
              simp only [Act.put, List.getElem_toArray, List.getElem_cons_zero, List.getElem_cons_succ, List.setIfInBounds_toArray, List.set_cons_zero, List.set_cons_succ]
              refine wpAnyH_take (i := 4) (v := ?_) rfl (by kernel_rfl) (by kernel_rfl) (by kernel_rfl) (fun _ _ _ h => h) (Or.inl ⟨by rfl, ?_⟩) (by assumption) ?_
              rotate_left
              · (intro w hSw; (try dsimp only at hSw); go_simp; first | done | with_reducible rfl)
              simp only [Act.put, List.getElem_toArray, List.getElem_cons_zero, List.getElem_cons_succ, List.setIfInBounds_toArray, List.set_cons_zero, List.set_cons_succ]
              refine wpAnyH_take (i := 5) (v := ?_) rfl (by kernel_rfl) (by kernel_rfl) (by kernel_rfl) (fun _ _ _ h => h) (Or.inl ⟨by rfl, ?_⟩) (by assumption) ?_
              rotate_left
              · (intro w hSw; (try dsimp only at hSw); go_simp; first | done | with_reducible rfl)
              simp only [Act.put, List.getElem_toArray, List.getElem_cons_zero, List.getElem_cons_succ, List.setIfInBounds_toArray, List.set_cons_zero, List.set_cons_succ]
              refine wpAnyH_take (i := 6) (v := undef) rfl (by kernel_rfl) (by kernel_rfl) (by kernel_rfl) (fun _ _ _ h => h) (Or.inr ⟨by rfl, rfl⟩) (by assumption) ?_
              simp only [Act.put, List.getElem_toArray, List.getElem_cons_zero, List.getElem_cons_succ, List.setIfInBounds_toArray, List.set_cons_zero, List.set_cons_succ]
              refine wpAnyH_take (i := 7) (v := undef) rfl (by kernel_rfl) (by kernel_rfl) (by kernel_rfl) (fun _ _ _ h => h) (Or.inr ⟨by rfl, rfl⟩) (by assumption) ?_
              simp only [Act.put, List.getElem_toArray, List.getElem_cons_zero, List.getElem_cons_succ, List.setIfInBounds_toArray, List.set_cons_zero, List.set_cons_succ]
              refine wpAnyH_take (i := 8) (v := undef) rfl (by kernel_rfl) (by kernel_rfl) (by kernel_rfl) (fun _ _ _ h => h) (Or.inr ⟨by rfl, rfl⟩) (by assumption) ?_
              simp only [Act.put, List.getElem_toArray, List.getElem_cons_zero, List.getElem_cons_succ, List.setIfInBounds_toArray, List.set_cons_zero, List.set_cons_succ]
              refine wpAnyH_take (i := 9) (v := undef) rfl (by kernel_rfl) (by kernel_rfl) (by kernel_rfl) (fun _ _ _ h => h) (Or.inr ⟨by rfl, rfl⟩) (by assumption) ?_
              simp only [Act.put, List.getElem_toArray, List.getElem_cons_zero, List.getElem_cons_succ, List.setIfInBounds_toArray, List.set_cons_zero, List.set_cons_succ]
              refine wpAnyH_take (i := 10) (v := undef) rfl (by kernel_rfl) (by kernel_rfl) (by kernel_rfl) (fun _ _ _ h => h) (Or.inr ⟨by rfl, rfl⟩) (by assumption) ?_
              simp only [Act.put, List.getElem_toArray, List.getElem_cons_zero, List.getElem_cons_succ, List.setIfInBounds_toArray, List.set_cons_zero, List.set_cons_succ]
              refine wpAnyH_take (i := 11) (v := undef) rfl (by kernel_rfl) (by kernel_rfl) (by kernel_rfl) (fun _ _ _ h => h) (Or.inr ⟨by rfl, rfl⟩) (by assumption) ?_
              simp only [Act.put, List.getElem_toArray, List.getElem_cons_zero, List.getElem_cons_succ, List.setIfInBounds_toArray, List.set_cons_zero, List.set_cons_succ]
              refine wpAnyH_take (i := 12) (v := undef) rfl (by kernel_rfl) (by kernel_rfl) (by kernel_rfl) (fun _ _ _ h => h) (Or.inr ⟨by rfl, rfl⟩) (by assumption) ?_
              simp only [Act.put, List.getElem_toArray, List.getElem_cons_zero, List.getElem_cons_succ, List.setIfInBounds_toArray, List.set_cons_zero, List.set_cons_succ]
              refine wpAnyH_take (i := 13) (v := undef) rfl (by kernel_rfl) (by kernel_rfl) (by kernel_rfl) (fun _ _ _ h => h) (Or.inr ⟨by rfl, rfl⟩) (by assumption) ?_
              simp only [Act.put, List.getElem_toArray, List.getElem_cons_zero, List.getElem_cons_succ, List.setIfInBounds_toArray, List.set_cons_zero, List.set_cons_succ]
              refine wpAnyH_take (i := 14) (v := ?_) rfl (by kernel_rfl) (by kernel_rfl) (by kernel_rfl) (fun _ _ _ h => h) (Or.inl ⟨by rfl, ?_⟩) (by assumption) ?_
              rotate_left
              · (intro w hSw; (try dsimp only at hSw); go_simp; first | done | with_reducible rfl)
              simp only [Act.put, List.getElem_toArray, List.getElem_cons_zero, List.getElem_cons_succ, List.setIfInBounds_toArray, List.set_cons_zero, List.set_cons_succ]
              refine wpAnyH_done (by kernel_rfl) ?_ _
              go_wp2_with fail
              refine (known_any _).mono ?_
              rintro e w2 ⟨rfl, hb2⟩
              have B2 := Lib.hid hb2
              clear hb2
              go_wp2_with fail
              go_ret
              exact ⟨rfl, B1.out.trans (B2.out.mono B1.out.size)⟩
            · have dS : (s.toList == [35]) = false := by
                have q := ne_list he
                rwa [show sharp.toList = [35] from by rw [ByteArray.toList_eq]; rfl] at q
              by_cases hin : s ∈ xs.take i
              · have HY : Hid (∀ W, Below w.heap.size w W → Calls Tryz.prog 14 #[.slice (some ⟨g, o, none⟩) i cap, .string s] W fun e w' => e = .returned (.bool true) ∧ W = w') := Lib.hid (fun W hW => by
                  have q := w_has_yes (cap := cap) (rstr_take' (H.out.below hW) i) (by omega) (by omega) hin
                  rw [htl] at q
                  exact q)
                clear hTw hnew hb hs hin htl
                go_wp2_with fail
                go_region_held3 (fun w' => w'.cell? ⟨g, o + i, none⟩ = some (.string s))
                  (first | (go_keep; done) | assumption)
                  (first | (go_at_call 14; refine (HY.out _ B1.out).mono ?_; rintro e w1 ⟨rfl, rfl⟩))
                go_wp2_with fail
                refine (known_any _).mono ?_
                rintro e w2 ⟨rfl, hb2⟩
                have HB2 := Lib.hid hb2
                clear hb2
                go_wp2_with fail
                go_ret
                exact ⟨rfl, B1.out.trans (HB2.out.mono B1.out.size)⟩
              · have HY : Hid (∀ W, Below w.heap.size w W → Calls Tryz.prog 14 #[.slice (some ⟨g, o, none⟩) i cap, .string s] W fun e w' => e = .returned (.bool false) ∧ W = w') := Lib.hid (fun W hW => by
                  have q := w_has_no (cap := cap) (rstr_take' (H.out.below hW) i) (by omega) (by omega) hin
                  rw [htl] at q
                  exact q)
                have AC := Lib.hid (act_1 (hTw.drewN 1) hsz)
                have k0 : (wr.drewN 1).cell? ⟨g, o + i, none⟩ = some (.string s) := hcell
                clear hTw hnew hb hs hin htl
                generalize (access cc K s).2.2 = K' at *
                go_wp2_with fail
                go_region_held3 (fun w' => w'.cell? ⟨g, o + i, none⟩ = some (.string s))
                  (first | (go_keep; done) | assumption)
                  (first | (go_at_call 14; refine (HY.out _ B1.out).mono ?_; rintro e w1 ⟨rfl, rfl⟩))
                go_wp2_with fail
                refine AC.out.mono ?_
                rintro e w3 ⟨rfl, F3, G3, hT3, hS3⟩
                have T3 := Lib.hid hT3
                have S3 := Lib.hid hS3
                clear hT3 hS3
                go_wp2_with fail
                go_roundg (N - (i + 1))
                case measure => rw [HGK2.out]; omega
                case rel => exact ⟨F3, G3, K', i + 1, hil, rfl, rfl, T3.out, S3.out.above B1.out.size HNW.out, B1.out.trans (S3.out.below B1.out.size HNW.out)⟩
      · have AC := Lib.hid (act_1 hTw (key := sharp) (by decide))
        have HNW := Lib.hid hnew
        have HB := Lib.hid hb
        have z0 : (0 : Int) ≤ (j : Int) := by omega
        have z1 : (j : Int) < (T : Int) := by omega
        clear hTw hnew hb
        generalize (access cc K sharp).2.2 = K' at *
        go_wp2_with fail
        refine AC.out.mono ?_
        rintro e w3 ⟨rfl, F3, G3, hT3, hS3⟩
        have T3 := Lib.hid hT3
        have S3 := Lib.hid hS3
        clear hT3 hS3
        go_wp2_with fail
        go_roundg (T - (j + 1))
        case measure => rw [HGK.out]; omega
        case rel => exact ⟨F3, G3, K', j + 1, hjl, rfl, rfl, T3.out, S3.out.above HB.out.size HNW.out, HB.out.trans (S3.out.below HB.out.size HNW.out)⟩

end Go.Proofs.YtkeicfajlmhajaaGreat.Lw
