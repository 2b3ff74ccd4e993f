/- The laws of an engine alone: Fits. -/
import Derived.Test.YtodiceafnkojiaaWc
namespace Go.Proofs.Ytodiceafnkojiaa.Lw
open Go Go.RowKit Go.Proofs.Ytodiceafnkojiaa.K Go.Proofs.Ytodiceafnkojiaa.Sl
open Go.Proofs.Ytodiceafnkojiaa.Li (more more_lt own_form')
open Go.Proofs.Ytodiceafnkojiaa.Rw (cell_below cell_upd own_mono own_below)
open Go.Proofs.Ytodiceafnkojiaa.Eg (Ks Eng access remove evict has stext res gho len cof init Inv AccPost Gone Texts)

/-- A list of keys of the law's own, beside an engine. -/
structure Beside (w0 : World) (b c : Nat) (F : Nat → Prop) (K : Ks) (D : Nat → Prop) (v : Value) (ys : List ByteArray) (w : World) : Prop where
  eng : Eng w b F c K
  sl : Sl w v D ys
  mem : ∀ x, x ∈ ys ↔ x ∈ res K
  nod : ys.Nodup
  fnew : ∀ k, F k → w0.heap.size ≤ k
  dnew : ∀ k, D k → w0.heap.size ≤ k
  dlt : ∀ k, D k → k < w.heap.size
  sep : ∀ k, D k → ¬ F k
  bel : Below w0.heap.size w0 w

def FRel (w0 : World) (b c N : Nat) (k : Nat) (v6 v7 : Value) (wr : World) : Prop :=
  ∃ F K D ys j, j ≤ N ∧ k = N - j ∧ v7 = .int .i64 ((j : Nat) : Int) ∧ ys.length ≤ j ∧ Beside w0 b c F K D v6 ys wr

theorem same_len {c : Nat} {K : Ks} (hi : Inv c K) {ys : List ByteArray} (hn : ys.Nodup) (h : ∀ x, x ∈ ys ↔ x ∈ res K) : ys.length = len K := by
  rw [← Eg.len_res]
  exact ((List.perm_ext_iff_of_nodup hn (Eg.res_nodup hi)).2 h).length_eq

section
variable {w0 w w' : World} {b c : Nat} {F F' D : Nat → Prop} {K K' : Ks} {v v' : Value} {ys : List ByteArray}

/-- The engine acted; the list is what it was, or fits again. -/
theorem Beside.eng' (h : Beside w0 b c F K D v ys w) (he : Eng w' b F' c K') (hs : Step F w F' w') (hm : ∀ x, x ∈ ys ↔ x ∈ res K') : Beside w0 b c F' K' D v ys w' := by
  have hb := Nat.le_trans h.bel.size (Nat.le_refl _)
  exact ⟨he, h.sl.upd hs.upd h.sep, hm, h.nod, hs.above h.bel.size h.fnew, h.dnew, fun k hk => Nat.lt_of_lt_of_le (h.dlt k hk) hs.upd.size, hs.apart h.sep h.dlt, h.bel.trans (hs.below h.bel.size h.fnew)⟩
theorem Beside.below (h : Beside w0 b c F K D v ys w) (hb : Below w.heap.size w w') : Beside w0 b c F K D v ys w' :=
  ⟨h.eng.below hb, h.sl.below hb, h.mem, h.nod, h.fnew, h.dnew, fun k hk => Nat.lt_of_lt_of_le (h.dlt k hk) hb.size, h.sep, h.bel.trans (hb.mono h.bel.size)⟩
/-- A key was appended, and the engine acted. -/
theorem Beside.push {key : ByteArray} {w2 : World} (h : Beside w0 b c F K D v ys w) (hp : Pushed w D ys key v' w') (hno : key ∉ ys) (he : Eng w2 b F' c K') (hs : Step F w' F' w2) (hm : ∀ x, x ∈ res K' ↔ x = key ∨ x ∈ res K) :
    Beside w0 b c F' K' (fun j => v'.ownBlock = some j) v' (ys ++ [key]) w2 := by
  have hsep : ∀ k, v'.ownBlock = some k → ¬ F k := fun k hk hf => by
    rcases hp.new k hk with h1 | h1
    · exact h.sep k h1 hf
    · have := h.eng.lt k hf; omega
  have hb' : Below w0.heap.size w0 w' := h.bel.trans (hp.upd.below h.bel.size h.dnew)
  refine ⟨he, hp.sl.upd hs.upd hsep, ?_, ?_, hs.above hb'.size h.fnew, fun k hk => ?_, fun k hk => Nat.lt_of_lt_of_le (hp.lt k hk) hs.upd.size, hs.apart hsep hp.lt, hb'.trans (hs.below hb'.size h.fnew)⟩
  · intro x
    rw [hm, List.mem_append, List.mem_singleton, h.mem]
    exact or_comm
  · rw [List.nodup_append]
    refine ⟨h.nod, by simp, ?_⟩
    intro a ha x hx
    rw [List.mem_singleton] at hx
    subst hx
    rintro rfl
    exact hno ha
  · rcases hp.new k hk with h1 | h1
    · exact h.dnew k h1
    · have := h.bel.size; omega
theorem Beside.eng_push {key : ByteArray} (h : Beside w0 b c F K D v ys w) (hp : Pushed w D ys key v' w') : Eng w' b F c K := h.eng.upd hp.upd (fun k hf hd => h.sep k hd hf)
end

set_option maxRecDepth 100000 in
set_option maxHeartbeats 3200000 in
theorem fits (room : Int) {w : World} {A : Option Addr} {xs : List ByteArray} {cap : Nat} (h : RStr w A xs) (hc : xs.length ≤ cap) :
    Calls Try.prog 5 #[.int .i64 room, .slice A xs.length cap] w fun e w' => e = .returned (.bool true) ∧ Below w.heap.size w w' := by
  by_cases hlo : room < 1
  · clear h hc
    generalize xs.length = N at *
    go_enter Try.func5, Try.ntmps5
    go_wp2_with fail
    go_ret
    exact ⟨rfl, Below.refl _ _⟩
  by_cases hhi : 100 < room
  · clear h hc
    generalize xs.length = N at *
    go_enter Try.func5, Try.ntmps5
    go_wp2_with fail
    go_ret
    exact ⟨rfl, Below.refl _ _⟩
  obtain ⟨r, hL, hr⟩ := long_any h hc h.len
  have LG := Lib.hid hL
  have NW := Lib.hid (Eg.eng_new room w)
  clear hL
  cases r with
  | true =>
    clear hr h
    go_enter Try.func5, Try.ntmps5
    go_wp2_with fail
    refine LG.out.mono ?_
    rintro e w1 ⟨rfl, rfl⟩
    go_wp2_with fail
    go_ret
    exact ⟨rfl, Below.refl _ _⟩
  | false =>
    obtain ⟨h200, h40⟩ := hr rfl
    obtain ⟨c, hcr⟩ : ∃ c : Nat, room = (c : Int) := ⟨room.toNat, by omega⟩
    subst hcr
    have hcof : cof (c : Int) = c := by unfold cof; omega
    unfold Eg.NewPost at NW
    rw [hcof] at NW
    clear hcof
    obtain ⟨N, hN⟩ : ∃ N, N = xs.length := ⟨_, rfl⟩
    rw [← hN] at hc LG h200 ⊢
    have HN := Lib.hid hN
    have H := Lib.hid h
    have H40 := Lib.hid h40
    clear h hN h40 hr
    go_enter Try.func5, Try.ntmps5
    go_wp2_with fail
    refine LG.out.mono ?_
    rintro e w1 ⟨rfl, rfl⟩
    go_wp2_with fail
    refine NW.out.mono ?_
    rintro e w1 ⟨b, F, rfl, he, hb, hF⟩
    have R0 : Hid (FRel w b c N N (.slice none 0 0) (.int .i64 0) w1) := Lib.hid ⟨F, init, fun _ => False, [], 0, by omega, by omega, rfl, by simp, ⟨he, Sl.nil _ _, fun x => by rw [show res init = [] from rfl], List.nodup_nil, hF, fun _ h => h.elim, fun _ h => h.elim, fun _ h => h.elim, hb⟩⟩
    clear he hb hF
    go_wp2_with fail
    go_loopg [6, 7] N (fun k v6 v7 wr => FRel w b c N k v6 v7 wr)
    case atStart => exact R0.out
    case round =>
      obtain ⟨F, K, D, ys, j, hj, hgk, rfl, hle, hB⟩ := hrel
      have HGK := Lib.hid hgk
      clear hgk
      rcases Nat.eq_or_lt_of_le hj with rfl | hjl
      · have KN := Lib.hid (known_any wr)
        have HB := Lib.hid hB.bel
        clear hB
        go_wp2_with fail
        refine KN.out.mono ?_
        rintro e w2 ⟨rfl, hb2⟩
        have HB2 := Lib.hid hb2
        clear hb2
        go_wp2_with fail
        go_ret
        exact ⟨rfl, HB.out.trans (HB2.out.mono HB.out.size)⟩
      · obtain ⟨s, hs⟩ : ∃ s, xs[j]? = some s := ⟨_, List.getElem?_eq_getElem (by rw [← HN.out]; exact hjl)⟩
        obtain ⟨g, o, rfl, hcell0⟩ := H.out.get j s hs
        have HG := Lib.hid (World.block_lt_of_cell? w _ hcell0)
        have hcell := cell_below hB.bel hcell0
        clear hcell0
        have hsz := H40.out s (List.mem_of_getElem? hs)
        obtain ⟨hit, l, K', hcall, hi', hcase⟩ := acc_cases hB.eng.inv hsz
        obtain ⟨Ay, cy, rfl, hcy⟩ := hB.sl.form
        have hys : ys.length ≤ 1000 * 1000 := by omega
        have hln := same_len hB.eng.inv hB.nod hB.mem
        have hrm := hB.eng.inv.room
        have RS := hB.sl.rstr (by omega)
        have LE := Lib.hid (fun F2 w2 (h : Eng w2 b F2 c K') => Eg.eng_len h)
        have HB := Lib.hid hB
        have HC := Lib.hid (hcall b)
        have z0 : (0 : Int) ≤ (j : Int) := by omega
        have z1 : (j : Int) < (N : Int) := by omega
        have hm := hB.mem s
        clear hcall hi' hs hB
        rcases hcase with ⟨hin, rfl, rfl, hmem, hn⟩ | ⟨hin, rfl, rfl, hlc, hmem, hn⟩ | ⟨hin, rfl, hlc, k, rfl, -, -, -⟩
        · have HY := Lib.hid (w_has_yes RS hcy (by omega) (hm.2 hin))
          have HM := Lib.hid hmem
          have AC := Lib.hid (HC.out F wr HB.out.eng)
          rw [hn, ← hln] at LE
          have HNN := Lib.hid hn
          have HLN := Lib.hid hln
          clear RS hm hin hmem hn hln
          generalize hne : ys.length = n at *
          have HNE := Lib.hid hne
          clear hne
          go_wp2_with fail
          refine HY.out.mono ?_
          rintro e w2 ⟨rfl, rfl⟩
          go_wp2_with fail
          refine AC.out.mono ?_
          rintro e w2 ⟨v, F2, rfl, he2, hs2, ho2, -⟩
          obtain ⟨A2, c2, rfl⟩ := own_form' ho2
          have LN := Lib.hid (LE.out F2 w2 he2)
          have HB2 := Lib.hid (HB.out.eng' he2 hs2 (fun x => (HB.out.mem x).trans (HM.out x).symm))
          clear he2 hs2 ho2
          simp only [List.length_nil]
          go_wp2_with fail
          refine LN.out.mono ?_
          rintro e w3 ⟨rfl, hb3⟩
          have HB3 := Lib.hid hb3
          clear hb3
          go_wp2_with fail
          go_roundg (N - (j + 1))
          case measure => rw [HGK.out]; omega
          case rel => exact ⟨F2, K', D, ys, j + 1, hjl, rfl, rfl, by rw [HNE.out]; omega, HB2.out.below HB3.out⟩
        · have HY := Lib.hid (w_has_no RS hcy (by omega) (fun e => hin (hm.1 e)))
          have HM := Lib.hid hmem
          have HNO := Lib.hid (fun e => hin (hm.1 e))
          rw [hn, ← hln] at LE
          have hnc : ys.length < c := by omega
          have SL := Lib.hid HB.out.sl
          have LT := Lib.hid HB.out.dlt
          clear RS hm hin hmem hn hln
          have LN0 : Hid (ys.length ≤ 1000000) := Lib.hid (by omega)
          generalize hne : ys.length = n at *
          have HNE := Lib.hid hne
          clear hne
          have dnc : ((n : Int) == (c : Int)) = false := by simp; omega
          go_wp2_with fail
          refine HY.out.mono ?_
          rintro e w2 ⟨rfl, rfl⟩
          go_wp2_with (at_builtin; refine wpList_push rfl _ _ rfl SL.out (by rw [HNE.out]; exact LN0.out) LT.out s 1 _ rfl rfl rfl ?_; intro v' w5 hp; obtain ⟨A'', c'', hv, -⟩ := hp.sl.form; rw [List.length_append, List.length_singleton, HNE.out] at hv; subst hv; have hcell5 := cell_upd hp.upd (fun hd => by have := HB.out.dnew _ hd; have := HG.out; omega) hcell; have HP := Lib.hid hp; clear hp)
          refine (HC.out F w5 (HB.out.eng_push HP.out)).mono ?_
          rintro e w2 ⟨v, F2, rfl, he2, hs2, ho2, -⟩
          obtain ⟨A2, c2, rfl⟩ := own_form' ho2
          have LN := Lib.hid (LE.out F2 w2 he2)
          have HB2 := Lib.hid (HB.out.push HP.out HNO.out he2 hs2 HM.out)
          clear he2 hs2 ho2
          simp only [List.length_nil]
          go_wp2_with fail
          refine LN.out.mono ?_
          rintro e w3 ⟨rfl, hb3⟩
          have HB3 := Lib.hid hb3
          clear hb3
          go_wp2_with fail
          go_roundg (N - (j + 1))
          case measure => rw [HGK.out]; omega
          case rel => exact ⟨F2, K', _, ys ++ [s], j + 1, hjl, rfl, rfl, by rw [List.length_append, HNE.out]; simp; omega, HB2.out.below HB3.out⟩
        · have HY := Lib.hid (w_has_no RS hcy (by omega) (fun e => hin (hm.1 e)))
          have hnc : ys.length = c := by omega
          have HBL := Lib.hid HB.out.bel
          clear RS hm hin hln HB LE
          rw [hnc] at HY ⊢
          clear hnc hle hcy hys hlc
          go_wp2_with fail
          refine HY.out.mono ?_
          rintro e w2 ⟨rfl, rfl⟩
          go_wp2_with fail
          refine (known_any wr).mono ?_
          rintro e w2 ⟨rfl, hb2⟩
          have HB2 := Lib.hid hb2
          clear hb2
          go_wp2_with fail
          go_ret
          exact ⟨rfl, HBL.out.trans (HB2.out.mono HBL.out.size)⟩

end Go.Proofs.Ytodiceafnkojiaa.Lw
