/- The laws of an engine beside its reference: Loads. -/
import Derived.Test.YtkeicfajlmhajaaGreatQn
namespace Go.Proofs.YtkeicfajlmhajaaGreat.Lw
open Go Go.RowKit Go.Proofs.YtkeicfajlmhajaaGreat.K Go.Proofs.YtkeicfajlmhajaaGreat.Sl
open Go.Proofs.YtkeicfajlmhajaaGreat.Li (more more_lt own_form')
open Go.Proofs.YtkeicfajlmhajaaGreat.Rw (cell_below cell_upd own_mono own_below)
open Go.Proofs.YtkeicfajlmhajaaGreat.Eg (Ks Eng access remove evict has stext res gho len cof init Inv AccPost Gone Texts)

/-- All that were resident still are. -/
def GRel (w0 : World) (b c : Nat) (F : Nat → Prop) (K : Ks) (v : Value) (ys : List ByteArray) (B n k : Nat) (vi : Value) (w : World) : Prop :=
  ∃ j, j ≤ n ∧ k = n - j ∧ vi = .int .i64 ((j : Nat) : Int) ∧ Eng w b F c K ∧ w.ownsRow B 9 1 v n (ys.map .string) ∧ Below w0.heap.size w0 w
/-- So many keys were loaded. -/
def DRel (w0 : World) (b c M k : Nat) (vi : Value) (w : World) : Prop :=
  ∃ F K j, j ≤ M ∧ k = M - j ∧ vi = .int .i64 ((j : Nat) : Int) ∧ Eng w b F c K ∧ (∀ k, F k → w0.heap.size ≤ k) ∧ Below w0.heap.size w0 w

set_option maxRecDepth 100000 in
set_option maxHeartbeats 3200000 in
theorem loads (room : Int) {w : World} {A : Option Addr} {xs : List Act2} {cap : Nat} (h : RAct w A xs) (hc : xs.length ≤ cap) {Ak : Option Addr} {ks : List ByteArray} {ck : Nat} (hk : RStr w Ak ks) (hck : ks.length ≤ ck) :
    Calls Tryz.prog 5 #[.int .i64 room, .slice A xs.length cap, .slice Ak ks.length ck] w fun e w' => e = .returned (.bool true) ∧ Below w.heap.size w w' := by
  obtain ⟨r2, hL2, hr2⟩ := long_any hk hck hk.len
  have LL := Lib.hid hL2
  clear hL2
  by_cases e2 : r2 = true
  · subst e2
    clear hr2
    obtain ⟨r, hL, hr⟩ := heavy_any h hc
    have LG := Lib.hid hL
    clear hL hr h hk
    cases r
    · go_enter Tryz.func5, Tryz.ntmps5
      go_wp2_with fail
      refine LG.out.mono ?_
      rintro e w1 ⟨rfl, rfl⟩
      go_wp2_with fail
      refine LL.out.mono ?_
      rintro e w1 ⟨rfl, rfl⟩
      go_wp2_with fail
      go_ret
      exact ⟨rfl, Below.refl _ _⟩
    · go_enter Tryz.func5, Tryz.ntmps5
      go_wp2_with fail
      refine LG.out.mono ?_
      rintro e w1 ⟨rfl, rfl⟩
      go_wp2_with fail
      go_ret
      exact ⟨rfl, Below.refl _ _⟩
  rw [Bool.not_eq_true] at e2
  subst e2
  obtain ⟨hM200, hs40⟩ := hr2 rfl
  clear hr2
  obtain ⟨M, hM⟩ : ∃ M, M = ks.length := ⟨_, rfl⟩
  rw [← hM] at hck LL hM200 ⊢
  have HM := Lib.hid hM
  have HK := Lib.hid hk
  have HS := Lib.hid hs40
  clear hk hM hs40
  obtain ⟨r, hL, hr⟩ := heavy_any h hc
  have LG := Lib.hid hL
  have NW := Lib.hid (Eg.eng_new room w)
  have NR := Lib.hid (fun w1 => Rf.ref_new room w1)
  clear hL
  cases r with
  | true =>
    clear hr h
    go_enter Tryz.func5, Tryz.ntmps5
    go_wp2_with fail
    refine LG.out.mono ?_
    rintro e w1 ⟨rfl, rfl⟩
    go_wp2_with fail
    go_ret
    exact ⟨rfl, Below.refl _ _⟩
  | false =>
    have h40 := hr rfl
    obtain ⟨N, hN⟩ : ∃ N, N = xs.length := ⟨_, rfl⟩
    rw [← hN] at hc LG h40 ⊢
    have HN := Lib.hid hN
    have H := Lib.hid h
    have H40 := Lib.hid h40
    clear h hN h40 hr
    go_enter Tryz.func5, Tryz.ntmps5
    go_wp2_with fail
    refine LG.out.mono ?_
    rintro e w1 ⟨rfl, rfl⟩
    go_wp2_with fail
    refine LL.out.mono ?_
    rintro e w1 ⟨rfl, rfl⟩
    go_wp2_with fail
    refine NW.out.mono ?_
    rintro e w1 ⟨b, F, rfl, he, hb, hF⟩
    have HE := Lib.hid he
    have HB1 := Lib.hid hb
    have HF := Lib.hid hF
    clear he hb hF
    go_wp2_with fail
    refine (NR.out w1).mono ?_
    rintro e w2 ⟨q, G, rfl, hr, hb2, hG⟩
    have R0 : Hid (PRel w b q (cof room) N N (.int .i64 0) w2) := Lib.hid (by
      obtain ⟨t1, t2, t3⟩ := two_new HE.out HB1.out HF.out hr hb2 hG
      exact ⟨F, G, init, 0, by omega, by omega, by omega, rfl, t1, t2, t3⟩)
    clear hr hb2 hG
    generalize cof room = c at *
    go_wp2_with fail
    go_loopg [9] N (fun k vi wr => PRel w b q c N k vi wr)
    case atStart => exact R0.out
    case round =>
      obtain ⟨F, G, K, j, hj, hj2, hgk, rfl, hT, hnew, hb⟩ := hrel
      have HGK := Lib.hid hgk
      clear hgk
      by_cases hjl : j < N ∧ j < 200
      · obtain ⟨hjl, hjm⟩ := hjl
        obtain ⟨a, ha⟩ : ∃ a, xs[j]? = some a := ⟨_, List.getElem?_eq_getElem (by rw [← HN.out]; exact hjl)⟩
        obtain ⟨g, o, rfl, hk0, hk1⟩ := act_at (H.out.below hb) ha
        have hsz := H40.out j a (by unfold upto; omega) ha
        have AC := Lib.hid (act_any hT a hsz)
        have HNW := Lib.hid hnew
        have HB := Lib.hid hb
        have z0 : (0 : Int) ≤ (j : Int) := by omega
        have z1 : (j : Int) < (N : Int) := by omega
        have z2 : (j : Int) < 200 := by omega
        clear hT hnew hb ha
        generalize next c K a = K' at *
        go_wp2_with fail
        refine AC.out.mono ?_
        rintro e w3 ⟨rfl, F3, G3, hT3, hS3⟩
        have T3 := Lib.hid hT3
        have S3 := Lib.hid hS3
        clear hT3 hS3
        go_wp2_with fail
        go_roundg (N - (j + 1))
        case measure => rw [HGK.out]; omega
        case rel => exact ⟨F3, G3, K', j + 1, hjl, hjm, rfl, rfl, T3.out, S3.out.above HB.out.size HNW.out, HB.out.trans (S3.out.below HB.out.size HNW.out)⟩
      · have HT := Lib.hid hT
        have HB := Lib.hid hb
        have HNW := Lib.hid (fun k hk => hnew k (.inl hk))
        clear hT hnew hb
        have hex : j = N ∨ (j < N ∧ j = 200) := by omega
        clear hjl
        have z2 : ¬ ((200 : Int) < 200) := by omega
        rcases hex with rfl | ⟨hjl, rfl⟩
        all_goals
          go_wp2_with fail
          go_loopg [10] M (fun k vi w9 => DRel w b c M k vi w9)
          case atStart => exact ⟨F, K, 0, by omega, by omega, rfl, HT.out.eng, HNW.out, HB.out⟩
          case round =>
            obtain ⟨F4, K4, i, hi, hgk, rfl, he, hnew, hb⟩ := hrel
            have HG2 := Lib.hid hgk
            clear hgk
            rcases Nat.eq_or_lt_of_le hi with hiM | hiM
            · have BE := Lib.hid hb
              clear he hb hnew
              subst hiM
              go_wp2_with fail
              refine (known_any _).mono ?_
              rintro e w9 ⟨rfl, hb9⟩
              have B9 := Lib.hid (BE.out.trans (hb9.mono BE.out.size))
              clear hb9
              go_wp2_with fail
              go_ret
              exact ⟨rfl, B9.out⟩
            · obtain ⟨key, hky⟩ : ∃ key, ks[i]? = some key := ⟨_, List.getElem?_eq_getElem (by rw [← HM.out]; exact hiM)⟩
              obtain ⟨gg, oo, rfl, hcell⟩ := (HK.out.below hb).get _ _ hky
              have hks : key.size ≤ 40 := HS.out key (List.mem_of_getElem? hky)
              have y0 : (0 : Int) ≤ (i : Int) := by omega
              have y1 : (i : Int) < (M : Int) := by omega
              have KC : Hid (∀ w1, Below w.heap.size w w1 → w1.cell? ⟨gg, oo + i, none⟩ = some (.string key)) := Lib.hid (by
                intro w1 hb1
                obtain ⟨g', o', e, h'⟩ := (HK.out.below hb1).get _ _ hky
                cases e
                exact h')
              clear hky
              obtain ⟨hi5, hiff, hyes, hno⟩ := Eg.load_facts he.inv hks
              by_cases hin : key ∈ res K4
              · have HAS := Lib.hid (Eg.has_iff.2 hin)
                have hld : (Eg.load c K4 key).1 = false := by rw [Bool.eq_false_iff]; exact fun e => (hiff.1 e).1 hin
                have HB4 := Lib.hid hb
                have HNW4 := Lib.hid hnew
                have HSM := Lib.hid (fun x (hx : x ∈ res K4) => res_small he.inv hx)
                have hR := res_le he.inv
                have hlr := Eg.len_res K4
                obtain ⟨n, hn⟩ : ∃ n, n = len K4 := ⟨_, rfl⟩
                rw [← hn] at hlr
                have hn9 : n ≤ 1024 := by omega
                have HLR := Lib.hid hlr
                have HH := Lib.hid (Eg.eng_has he (key := key) (by omega))
                rw [HAS.out] at HH
                have HE4 := Lib.hid he
                have HN := Lib.hid hn.symm
                have LV := Lib.hid (fun w1 (h : Eng w1 b F4 c K4) => Eg.eng_load h hks)
                rw [hld] at LV
                have hsame := hno hld
                have HSUB : Hid (∀ x ∈ res K4, x ∈ res (Eg.load c K4 key).2) := Lib.hid (by rw [hsame]; exact fun x hx => hx)
                have HP5 : Hid (len (Eg.load c K4 key).2 = n) := Lib.hid (by rw [hsame]; exact HN.out)
                have dE : ((n : Int) != (n : Int)) = false := by simp
                clear he hnew hb hn hlr hld hyes hno hiff hi5 hsame hR hin
                generalize (Eg.load c K4 key).2 = K5 at *
                go_wp2_with fail
                refine HH.out.mono ?_
                rintro e w2 ⟨rfl, hb2⟩
                have E2 := Lib.hid (HE4.out.below hb2)
                have B2 := Lib.hid (HB4.out.trans (hb2.mono HB4.out.size))
                clear hb2
                have LN := Lib.hid (Eg.eng_len E2.out)
                rw [HN.out] at LN
                go_wp2_with fail
                refine LN.out.mono ?_
                rintro e w3 ⟨rfl, hb3⟩
                have E3 := Lib.hid (E2.out.below hb3)
                have B3 := Lib.hid (B2.out.trans (hb3.mono B2.out.size))
                clear hb3
                go_wp2_with fail
                refine (Eg.eng_keys E3.out).mono ?_
                rintro e w4 ⟨v4, rfl, ho4, hb4⟩
                have E4 := Lib.hid (E3.out.below hb4)
                have B4 := Lib.hid (B3.out.trans (hb4.mono B3.out.size))
                obtain ⟨A4, c4, rfl⟩ := own_form' ho4
                have O4 := Lib.hid ho4
                have k4 := KC.out _ B4.out
                clear ho4 hb4
                rw [HLR.out] at O4 ⊢
                go_wp2_with fail
                refine (LV.out w4 E4.out).mono ?_
                rintro e w5 ⟨rfl, F5, he5, hs5⟩
                have E5 := Lib.hid he5
                have B5 := Lib.hid (B4.out.trans (hs5.below B4.out.size HNW4.out))
                have N5 := Lib.hid (hs5.above B4.out.size HNW4.out)
                have O5 := Lib.hid (own_upd O4.out hs5.upd (fun k hk hf => by have := (O4.out.lt k hk).1; have := E3.out.lt k hf; omega))
                have k5 := KC.out _ B5.out
                clear he5 hs5
                have LN5 := Lib.hid (Eg.eng_len E5.out)
                rw [HP5.out] at LN5
                go_wp2_with fail
                refine LN5.out.mono ?_
                rintro e w6 ⟨rfl, hb6⟩
                have E8 := Lib.hid (E5.out.below hb6)
                have B8 := Lib.hid (B5.out.trans (hb6.mono B5.out.size))
                have O8 := Lib.hid (own_below O5.out hb6)
                clear hb6
                go_wp2_with fail
                go_loopg [15] n (fun k vi w9 => GRel w b c F5 K5 (.slice A4 n c4) (res K4) w3.heap.size n k vi w9)
                case atStart => exact ⟨0, by omega, by omega, rfl, E8.out, O8.out, B8.out⟩
                case round =>
                  obtain ⟨u, hu, hgk, rfl, he, ho, hb⟩ := hrel
                  have HG3 := Lib.hid hgk
                  clear hgk
                  rcases Nat.eq_or_lt_of_le hu with hun | hul
                  · have HEE := Lib.hid he
                    have HBB := Lib.hid hb
                    clear he ho hb
                    subst hun
                    go_wp2_with fail
                    go_roundg (M - (i + 1))
                    case measure => rw [HG2.out]; omega
                    case rel => exact ⟨F5, K5, i + 1, hiM, rfl, rfl, HEE.out, N5.out, HBB.out⟩
                  · obtain ⟨y, hy⟩ : ∃ y, (res K4)[u]? = some y := ⟨_, List.getElem?_eq_getElem (by rw [HLR.out]; exact hul)⟩
                    obtain ⟨g2, o2, rfl, hcell2⟩ := (Sl.of_own (F := fun _ => True) (xs := res K4) (by exact ho) (fun _ _ => trivial)).cell hy
                    have hyr := List.mem_of_getElem? hy
                    have x0 : (0 : Int) ≤ (u : Int) := by omega
                    have x1 : (u : Int) < (n : Int) := by omega
                    have HEE := Lib.hid he
                    have HOO := Lib.hid ho
                    have HBB := Lib.hid hb
                    have HY := Lib.hid (Eg.eng_has he (key := y) (by have := HSM.out y hyr; omega))
                    rw [Eg.has_iff.2 (HSUB.out y hyr)] at HY
                    clear he ho hb hy hyr
                    go_wp2_with fail
                    refine HY.out.mono ?_
                    rintro e w8 ⟨rfl, hb8⟩
                    have E8 := Lib.hid (HEE.out.below hb8)
                    have O8 := Lib.hid (own_below HOO.out hb8)
                    have B8 := Lib.hid (HBB.out.trans (hb8.mono HBB.out.size))
                    clear hb8
                    go_wp2_with fail
                    go_roundg (n - (u + 1))
                    case measure => rw [HG3.out]; omega
                    case rel => exact ⟨u + 1, hul, rfl, rfl, E8.out, O8.out, B8.out⟩
              · by_cases hlt : len K4 < c
                · have HAS : Hid (has K4 key = false) := Lib.hid (by rw [Bool.eq_false_iff]; exact fun e => hin (Eg.has_iff.1 e))
                  have hld : (Eg.load c K4 key).1 = true := hiff.2 ⟨hin, hlt⟩
                  have HB4 := Lib.hid hb
                  have HNW4 := Lib.hid hnew
                  have HSM := Lib.hid (fun x (hx : x ∈ res K4) => res_small he.inv hx)
                  have hR := res_le he.inv
                  have hlr := Eg.len_res K4
                  obtain ⟨n, hn⟩ : ∃ n, n = len K4 := ⟨_, rfl⟩
                  rw [← hn] at hlr
                  have hn9 : n ≤ 1024 := by omega
                  have HLR := Lib.hid hlr
                  have HH := Lib.hid (Eg.eng_has he (key := key) (by omega))
                  rw [HAS.out] at HH
                  have HE4 := Lib.hid he
                  have HN := Lib.hid hn.symm
                  have LV := Lib.hid (fun w1 (h : Eng w1 b F4 c K4) => Eg.eng_load h hks)
                  rw [hld] at LV
                  obtain ⟨hmem, hlen⟩ := hyes hld
                  have g3 : (n : Int) < (c : Int) := by omega
                  have HSUB : Hid (∀ x ∈ res K4, x ∈ res (Eg.load c K4 key).2) := Lib.hid (fun x hx => (hmem x).2 (.inr hx))
                  have HK5 : Hid (has (Eg.load c K4 key).2 key = true) := Lib.hid (Eg.has_iff.2 ((hmem key).2 (.inl rfl)))
                  obtain ⟨p, hp⟩ : ∃ p, p = len (Eg.load c K4 key).2 := ⟨_, rfl⟩
                  have HP5 := Lib.hid hp.symm
                  have dE : ((p : Int) != (n : Int) + 1) = false := by rw [hp, hlen, ← hn]; simp
                  clear he hnew hb hn hlr hld hyes hno hiff hi5 hmem hlen hp hR hin hlt
                  generalize (Eg.load c K4 key).2 = K5 at *
                  go_wp2_with fail
                  refine HH.out.mono ?_
                  rintro e w2 ⟨rfl, hb2⟩
                  have E2 := Lib.hid (HE4.out.below hb2)
                  have B2 := Lib.hid (HB4.out.trans (hb2.mono HB4.out.size))
                  clear hb2
                  have LN := Lib.hid (Eg.eng_len E2.out)
                  rw [HN.out] at LN
                  go_wp2_with fail
                  refine LN.out.mono ?_
                  rintro e w3 ⟨rfl, hb3⟩
                  have E3 := Lib.hid (E2.out.below hb3)
                  have B3 := Lib.hid (B2.out.trans (hb3.mono B2.out.size))
                  clear hb3
                  go_wp2_with fail
                  refine (Eg.eng_keys E3.out).mono ?_
                  rintro e w4 ⟨v4, rfl, ho4, hb4⟩
                  have E4 := Lib.hid (E3.out.below hb4)
                  have B4 := Lib.hid (B3.out.trans (hb4.mono B3.out.size))
                  obtain ⟨A4, c4, rfl⟩ := own_form' ho4
                  have O4 := Lib.hid ho4
                  have k4 := KC.out _ B4.out
                  clear ho4 hb4
                  rw [HLR.out] at O4 ⊢
                  go_wp2_with fail
                  refine (LV.out w4 E4.out).mono ?_
                  rintro e w5 ⟨rfl, F5, he5, hs5⟩
                  have E5 := Lib.hid he5
                  have B5 := Lib.hid (B4.out.trans (hs5.below B4.out.size HNW4.out))
                  have N5 := Lib.hid (hs5.above B4.out.size HNW4.out)
                  have O5 := Lib.hid (own_upd O4.out hs5.upd (fun k hk hf => by have := (O4.out.lt k hk).1; have := E3.out.lt k hf; omega))
                  have k5 := KC.out _ B5.out
                  clear he5 hs5
                  go_wp2_with fail
                  refine (Eg.eng_room E5.out).mono ?_
                  rintro e w6 ⟨rfl, rfl⟩
                  go_wp2_with fail
                  refine (Eg.eng_has E5.out (key := key) (by omega)).mono ?_
                  rintro e w6 ⟨rfl, hb6⟩
                  rw [HK5.out]
                  have E6 := Lib.hid (E5.out.below hb6)
                  have B6 := Lib.hid (B5.out.trans (hb6.mono B5.out.size))
                  have O6 := Lib.hid (own_below O5.out hb6)
                  clear hb6
                  have LN5 := Lib.hid (Eg.eng_len E6.out)
                  rw [HP5.out] at LN5
                  go_wp2_with fail
                  refine LN5.out.mono ?_
                  rintro e w7 ⟨rfl, hb7⟩
                  have E8 := Lib.hid (E6.out.below hb7)
                  have B8 := Lib.hid (B6.out.trans (hb7.mono B6.out.size))
                  have O8 := Lib.hid (own_below O6.out hb7)
                  clear hb7
                  go_wp2_with fail
                  go_loopg [15] n (fun k vi w9 => GRel w b c F5 K5 (.slice A4 n c4) (res K4) w3.heap.size n k vi w9)
                  case atStart => exact ⟨0, by omega, by omega, rfl, E8.out, O8.out, B8.out⟩
                  case round =>
                    obtain ⟨u, hu, hgk, rfl, he, ho, hb⟩ := hrel
                    have HG3 := Lib.hid hgk
                    clear hgk
                    rcases Nat.eq_or_lt_of_le hu with hun | hul
                    · have HEE := Lib.hid he
                      have HBB := Lib.hid hb
                      clear he ho hb
                      subst hun
                      go_wp2_with fail
                      go_roundg (M - (i + 1))
                      case measure => rw [HG2.out]; omega
                      case rel => exact ⟨F5, K5, i + 1, hiM, rfl, rfl, HEE.out, N5.out, HBB.out⟩
                    · obtain ⟨y, hy⟩ : ∃ y, (res K4)[u]? = some y := ⟨_, List.getElem?_eq_getElem (by rw [HLR.out]; exact hul)⟩
                      obtain ⟨g2, o2, rfl, hcell2⟩ := (Sl.of_own (F := fun _ => True) (xs := res K4) (by exact ho) (fun _ _ => trivial)).cell hy
                      have hyr := List.mem_of_getElem? hy
                      have x0 : (0 : Int) ≤ (u : Int) := by omega
                      have x1 : (u : Int) < (n : Int) := by omega
                      have HEE := Lib.hid he
                      have HOO := Lib.hid ho
                      have HBB := Lib.hid hb
                      have HY := Lib.hid (Eg.eng_has he (key := y) (by have := HSM.out y hyr; omega))
                      rw [Eg.has_iff.2 (HSUB.out y hyr)] at HY
                      clear he ho hb hy hyr
                      go_wp2_with fail
                      refine HY.out.mono ?_
                      rintro e w8 ⟨rfl, hb8⟩
                      have E8 := Lib.hid (HEE.out.below hb8)
                      have O8 := Lib.hid (own_below HOO.out hb8)
                      have B8 := Lib.hid (HBB.out.trans (hb8.mono HBB.out.size))
                      clear hb8
                      go_wp2_with fail
                      go_roundg (n - (u + 1))
                      case measure => rw [HG3.out]; omega
                      case rel => exact ⟨u + 1, hul, rfl, rfl, E8.out, O8.out, B8.out⟩
                · have HAS : Hid (has K4 key = false) := Lib.hid (by rw [Bool.eq_false_iff]; exact fun e => hin (Eg.has_iff.1 e))
                  have hld : (Eg.load c K4 key).1 = false := by rw [Bool.eq_false_iff]; exact fun e => hlt (hiff.1 e).2
                  have HB4 := Lib.hid hb
                  have HNW4 := Lib.hid hnew
                  have HSM := Lib.hid (fun x (hx : x ∈ res K4) => res_small he.inv hx)
                  have hR := res_le he.inv
                  have hlr := Eg.len_res K4
                  obtain ⟨n, hn⟩ : ∃ n, n = len K4 := ⟨_, rfl⟩
                  rw [← hn] at hlr
                  have hn9 : n ≤ 1024 := by omega
                  have HLR := Lib.hid hlr
                  have HH := Lib.hid (Eg.eng_has he (key := key) (by omega))
                  rw [HAS.out] at HH
                  have HE4 := Lib.hid he
                  have HN := Lib.hid hn.symm
                  have LV := Lib.hid (fun w1 (h : Eng w1 b F4 c K4) => Eg.eng_load h hks)
                  rw [hld] at LV
                  have g3 : ¬ (n : Int) < (c : Int) := by omega
                  have g4 : decide (n < c) = false := decide_eq_false (by omega)
                  have hsame := hno hld
                  have HSUB : Hid (∀ x ∈ res K4, x ∈ res (Eg.load c K4 key).2) := Lib.hid (by rw [hsame]; exact fun x hx => hx)
                  have HP5 : Hid (len (Eg.load c K4 key).2 = n) := Lib.hid (by rw [hsame]; exact HN.out)
                  have dE : ((n : Int) != (n : Int)) = false := by simp
                  clear he hnew hb hn hlr hld hyes hno hiff hi5 hsame hR hin hlt
                  generalize (Eg.load c K4 key).2 = K5 at *
                  go_wp2_with fail
                  refine HH.out.mono ?_
                  rintro e w2 ⟨rfl, hb2⟩
                  have E2 := Lib.hid (HE4.out.below hb2)
                  have B2 := Lib.hid (HB4.out.trans (hb2.mono HB4.out.size))
                  clear hb2
                  have LN := Lib.hid (Eg.eng_len E2.out)
                  rw [HN.out] at LN
                  go_wp2_with fail
                  refine LN.out.mono ?_
                  rintro e w3 ⟨rfl, hb3⟩
                  have E3 := Lib.hid (E2.out.below hb3)
                  have B3 := Lib.hid (B2.out.trans (hb3.mono B2.out.size))
                  clear hb3
                  go_wp2_with fail
                  refine (Eg.eng_keys E3.out).mono ?_
                  rintro e w4 ⟨v4, rfl, ho4, hb4⟩
                  have E4 := Lib.hid (E3.out.below hb4)
                  have B4 := Lib.hid (B3.out.trans (hb4.mono B3.out.size))
                  obtain ⟨A4, c4, rfl⟩ := own_form' ho4
                  have O4 := Lib.hid ho4
                  have k4 := KC.out _ B4.out
                  clear ho4 hb4
                  rw [HLR.out] at O4 ⊢
                  go_wp2_with fail
                  refine (LV.out w4 E4.out).mono ?_
                  rintro e w5 ⟨rfl, F5, he5, hs5⟩
                  have E5 := Lib.hid he5
                  have B5 := Lib.hid (B4.out.trans (hs5.below B4.out.size HNW4.out))
                  have N5 := Lib.hid (hs5.above B4.out.size HNW4.out)
                  have O5 := Lib.hid (own_upd O4.out hs5.upd (fun k hk hf => by have := (O4.out.lt k hk).1; have := E3.out.lt k hf; omega))
                  have k5 := KC.out _ B5.out
                  clear he5 hs5
                  go_wp2_with fail
                  refine (Eg.eng_room E5.out).mono ?_
                  rintro e w6 ⟨rfl, rfl⟩
                  have LN5 := Lib.hid (Eg.eng_len E5.out)
                  rw [HP5.out] at LN5
                  go_wp2_with fail
                  refine LN5.out.mono ?_
                  rintro e w7 ⟨rfl, hb7⟩
                  have E8 := Lib.hid (E5.out.below hb7)
                  have B8 := Lib.hid (B5.out.trans (hb7.mono B5.out.size))
                  have O8 := Lib.hid (own_below O5.out hb7)
                  clear hb7
                  go_wp2_with fail
                  go_loopg [15] n (fun k vi w9 => GRel w b c F5 K5 (.slice A4 n c4) (res K4) w3.heap.size n k vi w9)
                  case atStart => exact ⟨0, by omega, by omega, rfl, E8.out, O8.out, B8.out⟩
                  case round =>
                    obtain ⟨u, hu, hgk, rfl, he, ho, hb⟩ := hrel
                    have HG3 := Lib.hid hgk
                    clear hgk
                    rcases Nat.eq_or_lt_of_le hu with hun | hul
                    · have HEE := Lib.hid he
                      have HBB := Lib.hid hb
                      clear he ho hb
                      subst hun
                      go_wp2_with fail
                      go_roundg (M - (i + 1))
                      case measure => rw [HG2.out]; omega
                      case rel => exact ⟨F5, K5, i + 1, hiM, rfl, rfl, HEE.out, N5.out, HBB.out⟩
                    · obtain ⟨y, hy⟩ : ∃ y, (res K4)[u]? = some y := ⟨_, List.getElem?_eq_getElem (by rw [HLR.out]; exact hul)⟩
                      obtain ⟨g2, o2, rfl, hcell2⟩ := (Sl.of_own (F := fun _ => True) (xs := res K4) (by exact ho) (fun _ _ => trivial)).cell hy
                      have hyr := List.mem_of_getElem? hy
                      have x0 : (0 : Int) ≤ (u : Int) := by omega
                      have x1 : (u : Int) < (n : Int) := by omega
                      have HEE := Lib.hid he
                      have HOO := Lib.hid ho
                      have HBB := Lib.hid hb
                      have HY := Lib.hid (Eg.eng_has he (key := y) (by have := HSM.out y hyr; omega))
                      rw [Eg.has_iff.2 (HSUB.out y hyr)] at HY
                      clear he ho hb hy hyr
                      go_wp2_with fail
                      refine HY.out.mono ?_
                      rintro e w8 ⟨rfl, hb8⟩
                      have E8 := Lib.hid (HEE.out.below hb8)
                      have O8 := Lib.hid (own_below HOO.out hb8)
                      have B8 := Lib.hid (HBB.out.trans (hb8.mono HBB.out.size))
                      clear hb8
                      go_wp2_with fail
                      go_roundg (n - (u + 1))
                      case measure => rw [HG3.out]; omega
                      case rel => exact ⟨u + 1, hul, rfl, rfl, E8.out, O8.out, B8.out⟩

end Go.Proofs.YtkeicfajlmhajaaGreat.Lw
