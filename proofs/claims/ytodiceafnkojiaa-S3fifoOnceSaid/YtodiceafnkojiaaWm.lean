/- The laws of an engine alone: First. -/
import Derived.Test.YtodiceafnkojiaaQo
namespace Go.Proofs.Ytodiceafnkojiaa.Lw
open Go Go.RowKit Go.Proofs.Ytodiceafnkojiaa.K Go.Proofs.Ytodiceafnkojiaa.Sl
open Go.Proofs.Ytodiceafnkojiaa.Li (more more_lt own_form')
open Go.Proofs.Ytodiceafnkojiaa.Rw (cell_below cell_upd own_mono own_below)
open Go.Proofs.Ytodiceafnkojiaa.Eg (Ks Eng access remove evict has stext res gho len cof init Inv AccPost Gone Texts)

theorem rstr_take {w : World} {A : Option Addr} {xs : List ByteArray} (h : RStr w A xs) (j : Nat) : RStr w A (xs.take j) :=
  ⟨by have := h.len; simp; omega, fun i s hs => h.get i s (by
    rw [List.getElem?_take] at hs
    split at hs
    · exact hs
    · cases hs)⟩

/-- So many came, and those that had to go went in their order. -/
def IRel (w0 : World) (b c : Nat) (xs : List ByteArray) (N k : Nat) (v6 v7 : Value) (w : World) : Prop :=
  ∃ F K j, j ≤ N ∧ k = N - j ∧ v7 = .int .i64 ((j : Nat) : Int) ∧ v6 = .int .i64 ((j - c : Nat) : Int) ∧ Fifo c xs j K ∧ Eng w b F c K ∧ (∀ k, F k → w0.heap.size ≤ k) ∧ Below w0.heap.size w0 w
def JRel (n : Nat) (w2 : World) (kk : Nat) (v6 v10 : Value) (w : World) : Prop :=
  (kk = 1 ∧ v6 = .int .i64 ((n : Nat) : Int) ∧ v10 = .int .i64 0 ∧ w = w2) ∨ (kk = 0 ∧ v6 = .int .i64 ((n + 1 : Nat) : Int) ∧ v10 = .int .i64 1 ∧ Below w2.heap.size w2 w)

set_option maxRecDepth 100000 in
set_option maxHeartbeats 3200000 in
theorem first (room : Int) {w : World} {A : Option Addr} {xs : List ByteArray} {cap : Nat} (h : RStr w A xs) (hc : xs.length ≤ cap) :
    Calls Try.prog 4 #[.int .i64 room, .slice A xs.length cap] w fun e w' => e = .returned (.bool true) ∧ Below w.heap.size w w' := by
  by_cases hlo : room < 1
  · clear h hc
    generalize xs.length = N at *
    go_enter Try.func4, Try.ntmps4
    go_wp2_with fail
    go_ret
    exact ⟨rfl, Below.refl _ _⟩
  by_cases hhi : 100 < room
  · clear h hc
    generalize xs.length = N at *
    go_enter Try.func4, Try.ntmps4
    go_wp2_with fail
    go_ret
    exact ⟨rfl, Below.refl _ _⟩
  obtain ⟨r, hL, hr⟩ := long_any h hc h.len
  have LG := Lib.hid hL
  have NW := Lib.hid (Eg.eng_new room w)
  clear hL
  cases r with
  | true =>
    clear hr h
    go_enter Try.func4, Try.ntmps4
    go_wp2_with fail
    refine LG.out.mono ?_
    rintro e w1 ⟨rfl, rfl⟩
    go_wp2_with fail
    go_ret
    exact ⟨rfl, Below.refl _ _⟩
  | false =>
    obtain ⟨h200, h40⟩ := hr rfl
    obtain ⟨c, hcr⟩ : ∃ c : Nat, room = (c : Int) := ⟨room.toNat, by omega⟩
    subst hcr
    have hcof : cof (c : Int) = c := by unfold cof; omega
    unfold Eg.NewPost at NW
    rw [hcof] at NW
    clear hcof
    obtain ⟨N, hN⟩ : ∃ N, N = xs.length := ⟨_, rfl⟩
    rw [← hN] at hc LG h200 ⊢
    have HN := Lib.hid hN
    have H := Lib.hid h
    have H40 := Lib.hid h40
    clear h hN h40 hr
    go_enter Try.func4, Try.ntmps4
    go_wp2_with fail
    refine LG.out.mono ?_
    rintro e w1 ⟨rfl, rfl⟩
    go_wp2_with fail
    refine NW.out.mono ?_
    rintro e w1 ⟨b, F, rfl, he, hb, hF⟩
    have R0 : Hid (IRel w b c xs N N (.int .i64 0) (.int .i64 0) w1) := Lib.hid ⟨F, init, 0, by omega, by omega, rfl, by simp, fifo_init c xs, he, hF, hb⟩
    clear he hb hF
    go_wp2_with fail
    go_loopg [6, 7] N (fun k v6 v7 wr => IRel w b c xs N k v6 v7 wr)
    case atStart => exact R0.out
    case round =>
      obtain ⟨F, K, j, hj, hgk, rfl, rfl, hff, he, hF, hb⟩ := hrel
      have HGK := Lib.hid hgk
      clear hgk
      rcases Nat.eq_or_lt_of_le hj with rfl | hjl
      · have KN := Lib.hid (known_any wr)
        have HB := Lib.hid hb
        obtain ⟨n, hn⟩ : ∃ n, n = j - c := ⟨_, rfl⟩
        rw [← hn]
        have m1 : max 0 ((j : Int) - (c : Int)) = (n : Int) := by omega
        have m2 : IntKind.i64.wrap ((j : Int) - (c : Int)) = (j : Int) - (c : Int) := IntWalk.i64_in _ (by omega)
        have m3 : max 0 (IntKind.i64.wrap ((j : Int) - (c : Int))) = (n : Int) := by rw [m2]; exact m1
        have m4 : (if (0 : Int) < (j : Int) - (c : Int) then (j : Int) - (c : Int) else 0) = (n : Int) := by split <;> omega
        have m5 : (if (0 : Int) < IntKind.i64.wrap ((j : Int) - (c : Int)) then IntKind.i64.wrap ((j : Int) - (c : Int)) else 0) = (n : Int) := by rw [m2]; exact m4
        clear he hF hb hff hn
        go_wp2_with fail
        refine KN.out.mono ?_
        rintro e w2 ⟨rfl, hb2⟩
        have HB2 := Lib.hid hb2
        clear hb2
        go_wp2_with fail
        go_ret
        exact ⟨rfl, HB.out.trans (HB2.out.mono HB.out.size)⟩
      · obtain ⟨s, hs⟩ : ∃ s, xs[j]? = some s := ⟨_, List.getElem?_eq_getElem (by rw [← HN.out]; exact hjl)⟩
        obtain ⟨g, o, rfl, hcell⟩ := (H.out.below hb).get j s hs
        have hsz := H40.out s (List.mem_of_getElem? hs)
        have htl : (xs.take j).length = j := by rw [List.length_take]; have := HN.out; omega
        have HB := Lib.hid hb
        have HF := Lib.hid hF
        have B1 := Lib.hid (below_drewN hb 1)
        have HH : Hid (∀ (i : Nat) x w1, Below w.heap.size w w1 → xs[i]? = some x → w1.cell? ⟨g, o + i, none⟩ = some (.string x)) := Lib.hid (by
          intro i x w1 hb1 hx
          obtain ⟨g', o', e, h'⟩ := (H.out.below hb1).get _ _ hx
          cases e
          exact h')
        have z0 : (0 : Int) ≤ (j : Int) := by omega
        have z1 : (j : Int) < (N : Int) := by omega
        have z2 : (j : Int) ≤ (cap : Int) := by omega
        by_cases hin : s ∈ xs.take j
        · have HY : Hid (∀ W, Below w.heap.size w W → Calls Try.prog 17 #[.slice (some ⟨g, o, none⟩) j cap, .string s] W fun e w' => e = .returned (.bool true) ∧ W = w') := Lib.hid (fun W hW => by
            have q := w_has_yes (cap := cap) (rstr_take (H.out.below hW) j) (by omega) (by omega) hin
            rw [htl] at q
            exact q)
          obtain ⟨n, hn⟩ : ∃ n, n = j - c := ⟨_, rfl⟩
          rw [← hn]
          clear he hF hb hff hs hin htl hn
          go_wp2_with fail
          go_region_held3 (fun w' => w'.cell? ⟨g, o + j, none⟩ = some (.string s))
            (first | (go_keep; done) | assumption)
            (first | (go_at_call 17; refine (HY.out _ B1.out).mono ?_; rintro e w1 ⟨rfl, rfl⟩))
          go_wp2_with fail
          refine (known_any _).mono ?_
          rintro e w2 ⟨rfl, hb2⟩
          have HB2 := Lib.hid hb2
          clear hb2
          go_wp2_with fail
          go_ret
          exact ⟨rfl, B1.out.trans (HB2.out.mono B1.out.size)⟩
        · have HY : Hid (∀ W, Below w.heap.size w W → Calls Try.prog 17 #[.slice (some ⟨g, o, none⟩) j cap, .string s] W fun e w' => e = .returned (.bool false) ∧ W = w') := Lib.hid (fun W hW => by
            have q := w_has_no (cap := cap) (rstr_take (H.out.below hW) j) (by omega) (by omega) hin
            rw [htl] at q
            exact q)
          obtain ⟨hf2, hlt, hge⟩ := fifo_next he.inv hff hs hin
          have AC := Eg.eng_access (he.drewN 1) hsz
          unfold AccPost at AC
          have k0 := HH.out j s (wr.drewN 1) B1.out hs
          obtain ⟨n, hn⟩ : ∃ n, n = j - c := ⟨_, rfl⟩
          rw [← hn]
          by_cases hjc : j < c
          · rw [hlt hjc] at AC
            have hn1 : j + 1 - c = n := by omega
            have HN1 := Lib.hid hn1
            have AH := Lib.hid AC
            have FF := Lib.hid hf2
            clear he hF hb hff hs hin htl hn hlt hge AC hf2 hn1
            generalize (access c K s).1 = hit at *
            generalize (access c K s).2.2 = K' at *
            go_wp2_with fail
            go_region_held3 (fun w' => w'.cell? ⟨g, o + j, none⟩ = some (.string s))
              (first | (go_keep; done) | assumption)
              (first | (go_at_call 17; refine (HY.out _ B1.out).mono ?_; rintro e w1 ⟨rfl, rfl⟩))
            go_wp2_with fail
            refine AH.out.mono ?_
            rintro e w2 ⟨v, F2, rfl, he2, hs2, ho2, -⟩
            have B2 := Lib.hid (B1.out.trans (hs2.below B1.out.size HF.out))
            have N2 := Lib.hid (hs2.above B1.out.size HF.out)
            have E2 := Lib.hid he2
            obtain ⟨A2, c2, rfl⟩ := own_form' ho2
            clear he2 hs2 ho2
            simp only [List.length_nil]
            go_wp2_with fail
            go_loopg [6, 10] 0 (fun _ v6 v10 w3 => v6 = .int .i64 ((n : Nat) : Int) ∧ v10 = .int .i64 0 ∧ w3 = w2)
            case atStart => exact ⟨rfl, rfl, rfl⟩
            case round =>
              obtain ⟨rfl, rfl, rfl⟩ := hrel
              go_wp2_with fail
              go_roundg (N - (j + 1))
              case measure => rw [HGK.out]; omega
              case rel => exact ⟨F2, K', j + 1, hjl, rfl, rfl, by rw [HN1.out], FF.out, E2.out, N2.out, B2.out⟩
          · obtain ⟨k, hk, hl⟩ := hge (by omega)
            rw [hl] at AC
            rw [← hn] at hk
            have hn1 : j + 1 - c = n + 1 := by omega
            have hc1 := he.inv.c1
            have y0 : (0 : Int) ≤ (n : Int) := by omega
            have y1 : (n : Int) < (N : Int) := by omega
            have y2 : decide (N ≤ n) = false := decide_eq_false (by omega)
            have y3 : ¬ (N : Int) ≤ (n : Int) := by omega
            have HN1 := Lib.hid hn1
            have AH := Lib.hid AC
            have FF := Lib.hid hf2
            have HK := Lib.hid hk
            clear he hF hb hff hs hin htl hn hlt hge AC hf2 hn1 hk hl hc1
            generalize (access c K s).1 = hit at *
            generalize (access c K s).2.2 = K' at *
            go_wp2_with fail
            go_region_held3 (fun w' => w'.cell? ⟨g, o + j, none⟩ = some (.string s))
              (first | (go_keep; done) | assumption)
              (first | (go_at_call 17; refine (HY.out _ B1.out).mono ?_; rintro e w1 ⟨rfl, rfl⟩))
            go_wp2_with fail
            refine AH.out.mono ?_
            rintro e w2 ⟨v, F2, rfl, he2, hs2, ho2, -⟩
            have B2 := Lib.hid (B1.out.trans (hs2.below B1.out.size HF.out))
            have N2 := Lib.hid (hs2.above B1.out.size HF.out)
            have E2 := Lib.hid he2
            have hsl := Sl.of_own (F := fun _ => True) ho2 (fun _ _ => trivial)
            obtain ⟨A2, c2, rfl, hc2⟩ := hsl.form
            obtain ⟨g2, o2, rfl, k2⟩ := hsl.cell (j := 0) rfl
            have k3 : w2.cell? ⟨g2, o2, none⟩ = some (.string k) := k2
            have k4 := HH.out n k w2 B2.out HK.out
            clear he2 hs2 ho2 hsl k2
            simp only [List.length_singleton] at hc2 ⊢
            go_wp2_with fail
            go_loopg [6, 10] 1 (fun kk v6 v10 w3 => JRel n w2 kk v6 v10 w3)
            case atStart => exact .inl ⟨rfl, rfl, rfl, rfl⟩
            case round =>
              rcases hrel with ⟨hk1, rfl, rfl, rfl⟩ | ⟨hk1, rfl, rfl, hb3⟩
              · go_wp2_with fail
                go_quiet (fail)
                go_wp2_with fail
                go_roundg 0
                case measure => omega
                case rel => exact .inr ⟨rfl, by first | rfl | go_num, rfl, below_drewN (Below.refl _ _) _⟩
              · have HB3 := Lib.hid hb3
                clear hb3
                go_wp2_with fail
                go_roundg (N - (j + 1))
                case measure => rw [HGK.out]; omega
                case rel => exact ⟨F2, K', j + 1, hjl, rfl, rfl, by rw [HN1.out], FF.out, E2.out.below HB3.out, N2.out, B2.out.trans (HB3.out.mono B2.out.size)⟩

end Go.Proofs.Ytodiceafnkojiaa.Lw
