/- The laws of an engine beside its reference: Own. -/
import Derived.Test.YtkeicfajlmhajaaGreatWf
namespace Go.Proofs.YtkeicfajlmhajaaGreat.Lw
open Go Go.RowKit Go.Proofs.YtkeicfajlmhajaaGreat.K Go.Proofs.YtkeicfajlmhajaaGreat.Sl
open Go.Proofs.YtkeicfajlmhajaaGreat.Li (more more_lt own_form')
open Go.Proofs.YtkeicfajlmhajaaGreat.Rw (cell_below cell_upd own_mono own_below)
open Go.Proofs.YtkeicfajlmhajaaGreat.Eg (Ks Eng access remove evict has stext res gho len cof init Inv AccPost Gone Texts)

/-- Two rows of one's own, being spoilt; engine and reference apart from them. -/
structure Spoil (w0 : World) (b q c : Nat) (F G : Nat → Prop) (K : Ks) (B8 B9 n8 n9 : Nat) (v8 v9 : Value) (w : World) : Prop where
  two : Two w b q c F G K K
  fnew : ∀ k, Both F G k → w0.heap.size ≤ k
  flt : ∀ k, Both F G k → k < B8
  b8 : w0.heap.size ≤ B8
  b89 : ∀ k, v8.ownBlock = some k → k < B9
  b9 : B8 ≤ B9
  o8 : ∃ zs, w.ownsRow B8 9 1 v8 n8 zs
  o9 : ∃ zs, w.ownsRow B9 9 1 v9 n9 zs
  bel : Below w0.heap.size w0 w

section
variable {w0 w : World} {b q c : Nat} {F G : Nat → Prop} {K : Ks} {B8 B9 n8 n9 : Nat} {v8 v9 : Value}
theorem own_some {B n : Nat} {v : Value} {zs : List Value} (h : w.ownsRow B 9 1 v n zs) (hn : 0 < n) : ∃ g p, v = .slice (some ⟨g, 0, none⟩) n p := by
  obtain ⟨h1, (⟨rfl, h2⟩ | ⟨g, cap, cur, h2, -⟩)⟩ := h
  · omega
  · exact ⟨g, cap, h2⟩
theorem own_cell {B n g p : Nat} {zs : List Value} (h : w.ownsRow B 9 1 (.slice (some ⟨g, 0, none⟩) n p) n zs) {j : Nat} (hj : j < n) : ∃ z, w.cell? ⟨g, j, none⟩ = some z ∧ w.frozen? ⟨g, j, none⟩ = false := by
  have hl := h.1
  have hc := World.ownsRow.cellAt h j (by omega)
  rw [List.getElem?_eq_getElem (by omega)] at hc
  exact ⟨_, hc, World.ownsRow.frozenAt h j⟩
theorem Spoil.left (h : Spoil w0 b q c F G K B8 B9 n8 n9 v8 v9 w) {g p j : Nat} (hv : v8 = .slice (some ⟨g, 0, none⟩) n8 p) (u : Value) : Spoil w0 b q c F G K B8 B9 n8 n9 v8 v9 (w.setCell ⟨g, j, none⟩ u) := by
  subst hv
  obtain ⟨z8, o8⟩ := h.o8
  obtain ⟨z9, o9⟩ := h.o9
  have hg := o8.lt g rfl
  have hu : Upd (· = g) w (w.setCell ⟨g, j, none⟩ u) := (Upd.refl _ _).setB
  refine ⟨h.two.upd hu (fun k hk e => by have := h.flt k hk; omega), h.fnew, h.flt, h.b8, h.b89, h.b9, ⟨_, own_set o8 j u⟩, ⟨z9, own_upd o9 hu (fun k hk e => ?_)⟩, h.bel.setCell (by have := h.b8; show _ ≤ g; omega) _⟩
  have := (o9.lt k hk).1
  have := h.b89 g rfl
  omega
theorem Spoil.right (h : Spoil w0 b q c F G K B8 B9 n8 n9 v8 v9 w) {g p j : Nat} (hv : v9 = .slice (some ⟨g, 0, none⟩) n9 p) (u : Value) : Spoil w0 b q c F G K B8 B9 n8 n9 v8 v9 (w.setCell ⟨g, j, none⟩ u) := by
  subst hv
  obtain ⟨z8, o8⟩ := h.o8
  obtain ⟨z9, o9⟩ := h.o9
  have hg := o9.lt g rfl
  have h9 := h.b9
  have hu : Upd (· = g) w (w.setCell ⟨g, j, none⟩ u) := (Upd.refl _ _).setB
  refine ⟨h.two.upd hu (fun k hk e => by have := h.flt k hk; omega), h.fnew, h.flt, h.b8, h.b89, h.b9, ⟨z8, own_upd o8 hu (fun k hk e => ?_)⟩, ⟨_, own_set o9 j u⟩, h.bel.setCell (by have := h.b8; show _ ≤ g; omega) _⟩
  have := h.b89 k hk
  omega
end

def SRel (w0 : World) (b q c : Nat) (F G : Nat → Prop) (K : Ks) (B8 B9 n8 n9 : Nat) (v8 v9 : Value) (n k : Nat) (vi : Value) (w : World) : Prop :=
  ∃ j, j ≤ n ∧ k = n - j ∧ vi = .int .i64 ((j : Nat) : Int) ∧ Spoil w0 b q c F G K B8 B9 n8 n9 v8 v9 w

set_option maxRecDepth 100000 in
set_option maxHeartbeats 3200000 in
theorem own (room : Int) {w : World} {A : Option Addr} {xs : List Act2} {cap : Nat} (h : RAct w A xs) (hc : xs.length ≤ cap) :
    Calls Tryz.prog 7 #[.int .i64 room, .slice A xs.length cap] w fun e w' => e = .returned (.bool true) ∧ Below w.heap.size w w' := by
  obtain ⟨r, hL, hr⟩ := heavy_any h hc
  have LG := Lib.hid hL
  have NW := Lib.hid (Eg.eng_new room w)
  have NR := Lib.hid (fun w1 => Rf.ref_new room w1)
  clear hL
  cases r with
  | true =>
    clear hr h
    go_enter Tryz.func7, Tryz.ntmps7
    go_wp2_with fail
    refine LG.out.mono ?_
    rintro e w1 ⟨rfl, rfl⟩
    go_wp2_with fail
    go_ret
    exact ⟨rfl, Below.refl _ _⟩
  | false =>
    have h40 := hr rfl
    obtain ⟨N, hN⟩ : ∃ N, N = xs.length := ⟨_, rfl⟩
    rw [← hN] at hc LG h40 ⊢
    have HN := Lib.hid hN
    have H := Lib.hid h
    have H40 := Lib.hid h40
    clear h hN h40 hr
    go_enter Tryz.func7, Tryz.ntmps7
    go_wp2_with fail
    refine LG.out.mono ?_
    rintro e w1 ⟨rfl, rfl⟩
    go_wp2_with fail
    refine NW.out.mono ?_
    rintro e w1 ⟨b, F, rfl, he, hb, hF⟩
    have HE := Lib.hid he
    have HB1 := Lib.hid hb
    have HF := Lib.hid hF
    clear he hb hF
    go_wp2_with fail
    refine (NR.out w1).mono ?_
    rintro e w2 ⟨q, G, rfl, hr, hb2, hG⟩
    have R0 : Hid (PRel w b q (cof room) N N (.int .i64 0) w2) := Lib.hid (by
      obtain ⟨t1, t2, t3⟩ := two_new HE.out HB1.out HF.out hr hb2 hG
      exact ⟨F, G, init, 0, by omega, by omega, by omega, rfl, t1, t2, t3⟩)
    clear hr hb2 hG
    generalize cof room = c at *
    go_wp2_with fail
    go_loopg [7] N (fun k vi wr => PRel w b q c N k vi wr)
    case atStart => exact R0.out
    case round =>
      obtain ⟨F, G, K, j, hj, hj2, hgk, rfl, hT, hnew, hb⟩ := hrel
      have HGK := Lib.hid hgk
      clear hgk
      by_cases hjl : j < N ∧ j < 200
      · obtain ⟨hjl, hjm⟩ := hjl
        obtain ⟨a, ha⟩ : ∃ a, xs[j]? = some a := ⟨_, List.getElem?_eq_getElem (by rw [← HN.out]; exact hjl)⟩
        obtain ⟨g, o, rfl, hk0, hk1⟩ := act_at (H.out.below hb) ha
        have hsz := H40.out j a (by unfold upto; omega) ha
        have AC := Lib.hid (act_any hT a hsz)
        have HNW := Lib.hid hnew
        have HB := Lib.hid hb
        have z0 : (0 : Int) ≤ (j : Int) := by omega
        have z1 : (j : Int) < (N : Int) := by omega
        have z2 : (j : Int) < 200 := by omega
        clear hT hnew hb ha
        generalize next c K a = K' at *
        go_wp2_with fail
        refine AC.out.mono ?_
        rintro e w3 ⟨rfl, F3, G3, hT3, hS3⟩
        have T3 := Lib.hid hT3
        have S3 := Lib.hid hS3
        clear hT3 hS3
        have hR := res_le T3.out.eng.inv
        have hGH := gho_le T3.out.eng.inv
        go_wp2_with fail
        refine (Eg.eng_keys T3.out.eng).mono ?_
        rintro e w4 ⟨v8, rfl, ho8, hb4⟩
        have T4 := Lib.hid (T3.out.below hb4)
        have O8 := Lib.hid ho8
        have HB4 := Lib.hid hb4
        clear ho8 hb4
        go_wp2_with fail
        refine (Eg.eng_ghosts T4.out.eng).mono ?_
        rintro e w5 ⟨v9, rfl, ho9, hb5⟩
        obtain ⟨A8, p8, rfl⟩ := own_form' O8.out
        obtain ⟨A9, p9, rfl⟩ := own_form' ho9
        generalize hn8 : (res K').length = n8 at *
        generalize hn9 : (gho K').length = n9 at *
        have T5 := Lib.hid (T4.out.below hb5)
        have SP : Hid (Spoil w b q c F3 G3 K' w3.heap.size w4.heap.size n8 n9 (.slice A8 n8 p8) (.slice A9 n9 p9) w5) := Lib.hid
          ⟨T5.out, S3.out.above HB.out.size HNW.out, T3.out.lt, Nat.le_trans HB.out.size S3.out.upd.size, fun k hk => (O8.out.lt k hk).2, HB4.out.size, ⟨_, own_below O8.out hb5⟩, ⟨_, ho9⟩,
           HB.out.trans ((S3.out.below HB.out.size HNW.out).trans ((Eg.below_next HB4.out hb5).mono (Nat.le_trans HB.out.size S3.out.upd.size)))⟩
        clear ho9 hb5 hn8 hn9
        generalize w4.heap.size = B9 at *
        go_wp2_with fail
        go_loopg [10] n8 (fun k vi wr => SRel w b q c F3 G3 K' w3.heap.size B9 n8 n9 (.slice A8 n8 p8) (.slice A9 n9 p9) n8 k vi wr)
        case atStart => exact ⟨0, by omega, by omega, rfl, SP.out⟩
        case round =>
          obtain ⟨i, hi, hgk, rfl, hsp⟩ := hrel
          have HG2 := Lib.hid hgk
          clear hgk
          rcases Nat.eq_or_lt_of_le hi with hin | hil
          · have hin' := hin.symm
            subst hin'
            have SP := Lib.hid hsp
            clear hsp
            go_wp2_with fail
            go_loopg [11] n9 (fun k vi wr => SRel w b q c F3 G3 K' w3.heap.size B9 n8 n9 (.slice A8 n8 p8) (.slice A9 n9 p9) n9 k vi wr)
            case atStart => exact ⟨0, by omega, by omega, rfl, SP.out⟩
            case round =>
              obtain ⟨i, hi, hgk, rfl, hsp⟩ := hrel
              have HG2 := Lib.hid hgk
              clear hgk
              rcases Nat.eq_or_lt_of_le hi with hin | hil
              · have hin' := hin.symm
                subst hin'
                have SP := Lib.hid hsp
                clear hsp
                go_wp2_with fail
                go_roundg (N - (j + 1))
                case measure => rw [HGK.out]; omega
                case rel => exact ⟨F3, G3, K', j + 1, hjl, hjm, rfl, rfl, SP.out.two, SP.out.fnew, SP.out.bel⟩
              · obtain ⟨z, hz⟩ := hsp.o9
                obtain ⟨gg, pp, hv⟩ := own_some hz (by omega)
                have SP := Lib.hid hsp
                cases hv
                obtain ⟨zc, hcell, hfr⟩ := own_cell hz hil
                have y0 : (0 : Int) ≤ (i : Int) := by omega
                have y1 : (i : Int) < (n9 : Int) := by omega
                clear hsp hz
                go_wp2_with fail
                go_roundg (n9 - (i + 1))
                case measure => rw [HG2.out]; omega
                case rel => exact ⟨i + 1, hil, rfl, rfl, SP.out.right rfl _⟩
          · obtain ⟨z, hz⟩ := hsp.o8
            obtain ⟨gg, pp, hv⟩ := own_some hz (by omega)
            have SP := Lib.hid hsp
            cases hv
            obtain ⟨zc, hcell, hfr⟩ := own_cell hz hil
            have y0 : (0 : Int) ≤ (i : Int) := by omega
            have y1 : (i : Int) < (n8 : Int) := by omega
            clear hsp hz
            go_wp2_with fail
            go_roundg (n8 - (i + 1))
            case measure => rw [HG2.out]; omega
            case rel => exact ⟨i + 1, hil, rfl, rfl, SP.out.left rfl _⟩
      · have hR := res_le hT.eng.inv
        have HT := Lib.hid hT
        have HB := Lib.hid hb
        have ES := Lib.hid (Eg.eng_state hT.eng)
        clear hT hnew hb
        have hex : j = N ∨ (j < N ∧ j = 200) := by omega
        clear hjl
        have z2 : ¬ ((200 : Int) < 200) := by omega
        rcases hex with rfl | ⟨hjl, rfl⟩
        all_goals
          go_wp2_with fail
          refine ES.out.mono ?_
          rintro e w2 ⟨rfl, hb2⟩
          have T2 := Lib.hid (HT.out.below hb2)
          have B2 := Lib.hid hb2
          clear hb2
          go_wp2_with fail
          refine (ref_state2 T2.out.ref).mono ?_
          rintro e w6 ⟨rfl, hb6⟩
          have T6 := Lib.hid (T2.out.below hb6)
          have B6 := Lib.hid (Eg.below_next B2.out hb6)
          clear hb6
          go_wp2_with fail
          refine (Eg.eng_keys T6.out.eng).mono ?_
          rintro e w3 ⟨v3, rfl, ho3, hb3⟩
          have O3 := Lib.hid ho3
          have T3 := Lib.hid (T6.out.below hb3)
          have B3 := Lib.hid (Eg.below_next B6.out hb3)
          clear ho3 hb3
          go_wp2_with fail
          refine (Rf.ref_keys T3.out.ref).mono ?_
          rintro e w4 ⟨v4, rfl, ho4, hb4⟩
          obtain ⟨A3, c3, rfl, l3, R3⟩ := texts_rstr O3.out hb4 (by omega)
          obtain ⟨A4, c4, rfl, l4, R4⟩ := texts_rstr ho4 (Below.refl _ _) (by omega)
          have B4 := Lib.hid (Eg.below_next B3.out hb4)
          have TX := Lib.hid (texts_same R3 R4 l3 l4 (by omega))
          clear ho4 hb4 R3 R4
          go_wp2_with fail
          refine TX.out.mono ?_
          rintro e w5 ⟨rfl, hb5⟩
          have B5 := Lib.hid (Eg.below_next B4.out hb5)
          clear hb5
          go_wp2_with fail
          refine (known_any _).mono ?_
          rintro e w9 ⟨rfl, hb9⟩
          have B9 := Lib.hid (Eg.below_next B5.out hb9)
          clear hb9
          go_wp2_with fail
          go_ret
          exact ⟨rfl, HB.out.trans (B9.out.mono HB.out.size)⟩

end Go.Proofs.YtkeicfajlmhajaaGreat.Lw
