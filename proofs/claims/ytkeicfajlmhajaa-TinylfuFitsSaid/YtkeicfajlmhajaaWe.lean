/- The laws of an engine alone: Fits. -/
import Derived.Test.YtkeicfajlmhajaaWc
namespace Go.Proofs.Ytkeicfajlmhajaa.Lw
open Go Go.RowKit Go.Proofs.Ytkeicfajlmhajaa.K Go.Proofs.Ytkeicfajlmhajaa.Sl
open Go.Proofs.Ytkeicfajlmhajaa.Li (more more_lt own_form')
open Go.Proofs.Ytkeicfajlmhajaa.Rw (cell_below cell_upd own_mono own_below)
open Go.Proofs.Ytkeicfajlmhajaa.Eg (Ks Eng access remove evict has stext res gho len cof init Inv AccPost Gone Texts)

/-- A list of keys of the law's own, beside an engine. -/
structure Beside (w0 : World) (b c : Nat) (F : Nat → Prop) (K : Ks) (D : Nat → Prop) (v : Value) (ys : List ByteArray) (w : World) : Prop where
  eng : Eng w b F c K
  sl : Sl w v D ys
  mem : ∀ x, x ∈ ys ↔ x ∈ res K
  nod : ys.Nodup
  fnew : ∀ k, F k → w0.heap.size ≤ k
  dnew : ∀ k, D k → w0.heap.size ≤ k
  dlt : ∀ k, D k → k < w.heap.size
  sep : ∀ k, D k → ¬ F k
  bel : Below w0.heap.size w0 w

def FRel (w0 : World) (b c N : Nat) (k : Nat) (v6 v7 : Value) (wr : World) : Prop :=
  ∃ F K D ys j, j ≤ N ∧ k = N - j ∧ v7 = .int .i64 ((j : Nat) : Int) ∧ ys.length ≤ j ∧ Beside w0 b c F K D v6 ys wr

theorem same_len {c : Nat} {K : Ks} (hi : Inv c K) {ys : List ByteArray} (hn : ys.Nodup) (h : ∀ x, x ∈ ys ↔ x ∈ res K) : ys.length = len K := by
  rw [← Eg.len_res]
  exact ((List.perm_ext_iff_of_nodup hn (Eg.res_nodup hi)).2 h).length_eq

section
variable {w0 w w' : World} {b c : Nat} {F F' D : Nat → Prop} {K K' : Ks} {v v' : Value} {ys : List ByteArray}

/-- The engine acted; the list is what it was, or fits again. -/
theorem Beside.eng' (h : Beside w0 b c F K D v ys w) (he : Eng w' b F' c K') (hs : Step F w F' w') (hm : ∀ x, x ∈ ys ↔ x ∈ res K') : Beside w0 b c F' K' D v ys w' := by
  have hb := Nat.le_trans h.bel.size (Nat.le_refl _)
  exact ⟨he, h.sl.upd hs.upd h.sep, hm, h.nod, hs.above h.bel.size h.fnew, h.dnew, fun k hk => Nat.lt_of_lt_of_le (h.dlt k hk) hs.upd.size, hs.apart h.sep h.dlt, h.bel.trans (hs.below h.bel.size h.fnew)⟩
theorem Beside.below (h : Beside w0 b c F K D v ys w) (hb : Below w.heap.size w w') : Beside w0 b c F K D v ys w' :=
  ⟨h.eng.below hb, h.sl.below hb, h.mem, h.nod, h.fnew, h.dnew, fun k hk => Nat.lt_of_lt_of_le (h.dlt k hk) hb.size, h.sep, h.bel.trans (hb.mono h.bel.size)⟩
/-- A key was appended, and the engine acted. -/
theorem Beside.push {key : ByteArray} {w2 : World} (h : Beside w0 b c F K D v ys w) (hp : Pushed w D ys key v' w') (hno : key ∉ ys) (he : Eng w2 b F' c K') (hs : Step F w' F' w2) (hm : ∀ x, x ∈ res K' ↔ x = key ∨ x ∈ res K) :
    Beside w0 b c F' K' (fun j => v'.ownBlock = some j) v' (ys ++ [key]) w2 := by
  have hsep : ∀ k, v'.ownBlock = some k → ¬ F k := fun k hk hf => by
    rcases hp.new k hk with h1 | h1
    · exact h.sep k h1 hf
    · have := h.eng.lt k hf; omega
  have hb' : Below w0.heap.size w0 w' := h.bel.trans (hp.upd.below h.bel.size h.dnew)
  refine ⟨he, hp.sl.upd hs.upd hsep, ?_, ?_, hs.above hb'.size h.fnew, fun k hk => ?_, fun k hk => Nat.lt_of_lt_of_le (hp.lt k hk) hs.upd.size, hs.apart hsep hp.lt, hb'.trans (hs.below hb'.size h.fnew)⟩
  · intro x
    rw [hm, List.mem_append, List.mem_singleton, h.mem]
    exact or_comm
  · rw [List.nodup_append]
    refine ⟨h.nod, by simp, ?_⟩
    intro a ha x hx
    rw [List.mem_singleton] at hx
    subst hx
    rintro rfl
    exact hno ha
  · rcases hp.new k hk with h1 | h1
    · exact h.dnew k h1
    · have := h.bel.size; omega
theorem Beside.eng_push {key : ByteArray} (h : Beside w0 b c F K D v ys w) (hp : Pushed w D ys key v' w') : Eng w' b F c K := h.eng.upd hp.upd (fun k hf hd => h.sep k hd hf)
end

set_option maxRecDepth 100000 in
set_option maxHeartbeats 3200000 in
theorem fits (room : Int) {w : World} {A : Option Addr} {xs : List ByteArray} {cap : Nat} (h : RStr w A xs) (hc : xs.length ≤ cap) :
    Calls Try.prog 3 #[.int .i64 room, .slice A xs.length cap] w fun e w' => e = .returned (.bool true) ∧ Below w.heap.size w w' := by
  by_cases hlo : room < 1
  · clear h hc
    generalize xs.length = N at *
    go_enter Try.func3, Try.ntmps3
    go_wp2_with fail
    go_ret
    exact ⟨rfl, Below.refl _ _⟩
  by_cases hhi : 100 < room
  · clear h hc
    generalize xs.length = N at *
    go_enter Try.func3, Try.ntmps3
    go_wp2_with fail
    go_ret
    exact ⟨rfl, Below.refl _ _⟩
  obtain ⟨r, hL, hr⟩ := long_any h hc h.len
  have LG := Lib.hid hL
  have NW := Lib.hid (Eg.eng_new room w)
  clear hL
  cases r with
  | true =>
    clear hr h
    go_enter Try.func3, Try.ntmps3
    go_wp2_with fail
    refine LG.out.mono ?_
    rintro e w1 ⟨rfl, rfl⟩
    go_wp2_with fail
    go_ret
    exact ⟨rfl, Below.refl _ _⟩
  | false =>
    obtain ⟨h200, h40⟩ := hr rfl
    obtain ⟨c, hcr⟩ : ∃ c : Nat, room = (c : Int) := ⟨room.toNat, by omega⟩
    subst hcr
    have hcof : cof (c : Int) = c := by unfold cof; omega
    unfold Eg.NewPost at NW
    rw [hcof] at NW
    clear hcof
    obtain ⟨N, hN⟩ : ∃ N, N = xs.length := ⟨_, rfl⟩
    rw [← hN] at hc LG h200 ⊢
    have HN := Lib.hid hN
    have H := Lib.hid h
    have H40 := Lib.hid h40
    clear h hN h40 hr
    go_enter Try.func3, Try.ntmps3
    go_wp2_with fail
    refine LG.out.mono ?_
    rintro e w1 ⟨rfl, rfl⟩
    go_wp2_with fail
    refine NW.out.mono ?_
    rintro e w1 ⟨b, F, rfl, he, hb, hF⟩
    have R0 : Hid (FRel w b c N N (.slice none 0 0) (.int .i64 0) w1) := Lib.hid ⟨F, init, fun _ => False, [], 0, by omega, by omega, rfl, by simp, ⟨he, Sl.nil _ _, fun x => by rw [show res init = [] from rfl], List.nodup_nil, hF, fun _ h => h.elim, fun _ h => h.elim, fun _ h => h.elim, hb⟩⟩
    clear he hb hF
    go_wp2_with fail
    go_loopg [6, 7] N (fun k v6 v7 wr => FRel w b c N k v6 v7 wr)
    case atStart => exact R0.out
    case round =>
      obtain ⟨F, K, D, ys, j, hj, hgk, rfl, hle, hB⟩ := hrel
      have HGK := Lib.hid hgk
      clear hgk
      rcases Nat.eq_or_lt_of_le hj with rfl | hjl
      · have KN := Lib.hid (known_any wr)
        have HB := Lib.hid hB.bel
        clear hB
        go_wp2_with fail
        refine KN.out.mono ?_
        rintro e w2 ⟨rfl, hb2⟩
        have HB2 := Lib.hid hb2
        clear hb2
        go_wp2_with fail
        go_ret
        exact ⟨rfl, HB.out.trans (HB2.out.mono HB.out.size)⟩
      · obtain ⟨s, hs⟩ : ∃ s, xs[j]? = some s := ⟨_, List.getElem?_eq_getElem (by rw [← HN.out]; exact hjl)⟩
        obtain ⟨g, o, rfl, hcell0⟩ := H.out.get j s hs
        have HG := Lib.hid (World.block_lt_of_cell? w _ hcell0)
        have hcell := cell_below hB.bel hcell0
        clear hcell0
        have hsz := H40.out s (List.mem_of_getElem? hs)
        obtain ⟨hit, l, K', hcall, hi', hcase⟩ := acc_cases hB.eng.inv hsz
        obtain ⟨Ay, cy, rfl, hcy⟩ := hB.sl.form
        have hys : ys.length ≤ 1000 * 1000 := by omega
        have hln := same_len hB.eng.inv hB.nod hB.mem
        have hrm := hB.eng.inv.room
        have RS := hB.sl.rstr (by omega)
        have LE := Lib.hid (fun F2 w2 (h : Eng w2 b F2 c K') => Eg.eng_len h)
        have HB := Lib.hid hB
        have HC := Lib.hid (hcall b)
        have z0 : (0 : Int) ≤ (j : Int) := by omega
        have z1 : (j : Int) < (N : Int) := by omega
        have hm := hB.mem s
        clear hcall hi' hs hB
        rcases hcase with ⟨hin, rfl, rfl, hmem, hn⟩ | ⟨hin, rfl, rfl, hlc, hmem, hn⟩ | ⟨hin, rfl, hlc, k, rfl, -, -, -⟩
        · have HY := Lib.hid (w_has_yes RS hcy (by omega) (hm.2 hin))
          have HM := Lib.hid hmem
          have AC := Lib.hid (HC.out F wr HB.out.eng)
          rw [hn, ← hln] at LE
          have HNN := Lib.hid hn
          have HLN := Lib.hid hln
          clear RS hm hin hmem hn hln
          generalize hne : ys.length = n at *
          have HNE := Lib.hid hne
          clear hne
          go_wp2_with fail
          refine HY.out.mono ?_
          rintro e w2 ⟨rfl, rfl⟩
          go_wp2_with fail
          refine AC.out.mono ?_
          rintro e w2 ⟨v, F2, rfl, he2, hs2, ho2, -⟩
          obtain ⟨A2, c2, rfl⟩ := own_form' ho2
          have LN := Lib.hid (LE.out F2 w2 he2)
          have HB2 := Lib.hid (HB.out.eng' he2 hs2 (fun x => (HB.out.mem x).trans (HM.out x).symm))
          clear he2 hs2 ho2
          simp only [List.length_nil]
          go_wp2_with fail
          refine LN.out.mono ?_
          rintro e w3 ⟨rfl, hb3⟩
          have HB3 := Lib.hid hb3
          clear hb3
          go_wp2_with fail
          go_roundg (N - (j + 1))
          case measure => rw [HGK.out]; omega
          case rel => exact ⟨F2, K', D, ys, j + 1, hjl, rfl, rfl, by rw [HNE.out]; omega, HB2.out.below HB3.out⟩
        · have HY := Lib.hid (w_has_no RS hcy (by omega) (fun e => hin (hm.1 e)))
          have HM := Lib.hid hmem
          have HNO := Lib.hid (fun e => hin (hm.1 e))
          rw [hn, ← hln] at LE
          have hnc : ys.length < c := by omega
          have SL := Lib.hid HB.out.sl
          have LT := Lib.hid HB.out.dlt
          clear RS hm hin hmem hn hln
          have LN0 : Hid (ys.length ≤ 1000000) := Lib.hid (by omega)
          generalize hne : ys.length = n at *
          have HNE := Lib.hid hne
          clear hne
          have dnc : ((n : Int) == (c : Int)) = false := by simp; omega
          go_wp2_with fail
          refine HY.out.mono ?_
          rintro e w2 ⟨rfl, rfl⟩
          go_wp2_with (at_builtin; refine wpList_push rfl _ _ rfl SL.out (by rw [HNE.out]; exact LN0.out) LT.out s 1 _ rfl rfl rfl ?_; intro v' w5 hp; obtain ⟨A'', c'', hv, -⟩ := hp.sl.form; rw [List.length_append, List.length_singleton, HNE.out] at hv; subst hv; have hcell5 := cell_upd hp.upd (fun hd => by have := HB.out.dnew _ hd; have := HG.out; omega) hcell; have HP := Lib.hid hp; clear hp)
          refine (HC.out F w5 (HB.out.eng_push HP.out)).mono ?_
          rintro e w2 ⟨v, F2, rfl, he2, hs2, ho2, -⟩
          obtain ⟨A2, c2, rfl⟩ := own_form' ho2
          have LN := Lib.hid (LE.out F2 w2 he2)
          have HB2 := Lib.hid (HB.out.push HP.out HNO.out he2 hs2 HM.out)
          clear he2 hs2 ho2
          simp only [List.length_nil]
          go_wp2_with fail
          refine LN.out.mono ?_
          rintro e w3 ⟨rfl, hb3⟩
          have HB3 := Lib.hid hb3
          clear hb3
          go_wp2_with fail
          go_roundg (N - (j + 1))
          case measure => rw [HGK.out]; omega
          case rel => exact ⟨F2, K', _, ys ++ [s], j + 1, hjl, rfl, rfl, by rw [List.length_append, HNE.out]; simp; omega, HB2.out.below HB3.out⟩
        · have HY := Lib.hid (w_has_no RS hcy (by omega) (fun e => hin (hm.1 e)))
          have hnc : ys.length = c := by omega
          have HBL := Lib.hid HB.out.bel
          clear RS hm hin hln HB LE
          rw [hnc] at HY ⊢
          clear hnc hle hcy hys hlc
          go_wp2_with fail
          refine HY.out.mono ?_
          rintro e w2 ⟨rfl, rfl⟩
          go_wp2_with fail
          refine (known_any wr).mono ?_
          rintro e w2 ⟨rfl, hb2⟩
          have HB2 := Lib.hid hb2
          clear hb2
          go_wp2_with fail
          go_ret
          exact ⟨rfl, HBL.out.trans (HB2.out.mono HBL.out.size)⟩

end Go.Proofs.Ytkeicfajlmhajaa.Lw

/- The laws of an engine alone: Told. -/
namespace Go.Proofs.Ytkeicfajlmhajaa.Lw
open Go Go.RowKit Go.Proofs.Ytkeicfajlmhajaa.K Go.Proofs.Ytkeicfajlmhajaa.Sl
open Go.Proofs.Ytkeicfajlmhajaa.Li (more more_lt own_form')
open Go.Proofs.Ytkeicfajlmhajaa.Rw (cell_below cell_upd own_mono own_below)
open Go.Proofs.Ytkeicfajlmhajaa.Eg (Ks Eng access remove evict has stext res gho len cof init Inv AccPost Gone Texts)

section
variable {w0 w w' : World} {b c : Nat} {F F' D : Nat → Prop} {K K' : Ks} {v v' : Value} {ys : List ByteArray}

/-- The list is another, apart from the engine; the engine may have acted, too. -/
structure Apart (w0 : World) (b c : Nat) (F : Nat → Prop) (K : Ks) (D : Nat → Prop) (v : Value) (ys : List ByteArray) (w : World) : Prop where
  eng : Eng w b F c K
  sl : Sl w v D ys
  nod : ys.Nodup
  fnew : ∀ k, F k → w0.heap.size ≤ k
  dnew : ∀ k, D k → w0.heap.size ≤ k
  dlt : ∀ k, D k → k < w.heap.size
  sep : ∀ k, D k → ¬ F k
  bel : Below w0.heap.size w0 w
theorem Beside.apart (h : Beside w0 b c F K D v ys w) : Apart w0 b c F K D v ys w := ⟨h.eng, h.sl, h.nod, h.fnew, h.dnew, h.dlt, h.sep, h.bel⟩
theorem Apart.beside (h : Apart w0 b c F K D v ys w) (hm : ∀ x, x ∈ ys ↔ x ∈ res K) : Beside w0 b c F K D v ys w := ⟨h.eng, h.sl, hm, h.nod, h.fnew, h.dnew, h.dlt, h.sep, h.bel⟩
theorem Apart.eng' (h : Apart w0 b c F K D v ys w) (he : Eng w' b F' c K') (hs : Step F w F' w') : Apart w0 b c F' K' D v ys w' :=
  ⟨he, h.sl.upd hs.upd h.sep, h.nod, hs.above h.bel.size h.fnew, h.dnew, fun k hk => Nat.lt_of_lt_of_le (h.dlt k hk) hs.upd.size, hs.apart h.sep h.dlt, h.bel.trans (hs.below h.bel.size h.fnew)⟩
theorem Apart.below (h : Apart w0 b c F K D v ys w) (hb : Below w.heap.size w w') : Apart w0 b c F K D v ys w' :=
  ⟨h.eng.below hb, h.sl.below hb, h.nod, h.fnew, h.dnew, fun k hk => Nat.lt_of_lt_of_le (h.dlt k hk) hb.size, h.sep, h.bel.trans (hb.mono h.bel.size)⟩
/-- The list was cut. -/
theorem Apart.cut {n : Nat} {key : ByteArray} (h : Apart w0 b c F K D v ys w) (hb : Below w.heap.size w w') (ho : w'.ownsRow w.heap.size 9 1 v' n ((without ys key).map .string)) :
    Apart w0 b c F K (fun j => v'.ownBlock = some j) v' (without ys key) w' :=
  ⟨h.eng.below hb, Sl.of_own ho (fun _ h => h), h.nod.filter _, h.fnew, fun k hk => by have := (ho.lt k hk).1; have := h.bel.size; omega, fun k hk => (ho.lt k hk).2,
   fun k hk hf => by have := (ho.lt k hk).1; have := h.eng.lt k hf; omega, h.bel.trans (hb.mono h.bel.size)⟩
/-- The list got one more key. -/
theorem Apart.push {key : ByteArray} (h : Apart w0 b c F K D v ys w) (hp : Pushed w D ys key v' w') (hno : key ∉ ys) : Apart w0 b c F K (fun j => v'.ownBlock = some j) v' (ys ++ [key]) w' := by
  refine ⟨h.eng.upd hp.upd (fun k hf hd => h.sep k hd hf), hp.sl, ?_, h.fnew, fun k hk => ?_, hp.lt, fun k hk hf => ?_, h.bel.trans (hp.upd.below h.bel.size h.dnew)⟩
  · rw [List.nodup_append]
    refine ⟨h.nod, by simp, ?_⟩
    intro a ha x hx
    rw [List.mem_singleton] at hx
    subst hx
    rintro rfl
    exact hno ha
  · rcases hp.new k hk with h1 | h1
    · exact h.dnew k h1
    · have := h.bel.size; omega
  · rcases hp.new k hk with h1 | h1
    · exact h.sep k h1 hf
    · have := h.eng.lt k hf; omega
theorem mem_without {ys : List ByteArray} {x key : ByteArray} : x ∈ without ys key ↔ x ∈ ys ∧ x ≠ key := by simp [without]
end

theorem less_len_of_mem' {ys : List ByteArray} {k : ByteArray} (h : k ∈ ys) (hn : ys.Nodup) : (without ys k).length + 1 = ys.length := by
  obtain ⟨p, q, rfl⟩ := List.append_of_mem h
  rw [List.nodup_append, List.nodup_cons] at hn
  obtain ⟨-, ⟨n1, -⟩, n2⟩ := hn
  unfold without
  rw [List.filter_append, List.filter_cons_of_neg (by simp), List.filter_eq_self.2, List.filter_eq_self.2]
  · simp; omega
  · intro a ha
    refine decide_eq_true ?_
    rintro rfl
    exact n1 ha
  · intro a ha
    refine decide_eq_true ?_
    rintro rfl
    exact n2 a ha a (List.mem_cons_self ..) rfl

/-- The loop over who went: one key, or none. -/
def TRel (w0 : World) (b c : Nat) (F : Nat → Prop) (K : Ks) (ys : List ByteArray) (k : ByteArray) (v : Value) (w2 : World) (kk : Nat) (v6 v11 : Value) (w3 : World) : Prop :=
  (kk = 1 ∧ v6 = v ∧ v11 = .int .i64 0 ∧ w3 = w2) ∨ (kk = 0 ∧ v11 = .int .i64 1 ∧ ∃ D', Apart w0 b c F K D' v6 (without ys k) w3)

/-- The last loop: whoever is in the list is resident. -/
def LRel (w0 : World) (b c : Nat) (F : Nat → Prop) (K : Ks) (D : Nat → Prop) (v6 : Value) (ys : List ByteArray) (N : Nat) (k : Nat) (v12 : Value) (wr : World) : Prop :=
  ∃ j, j ≤ N ∧ k = N - j ∧ v12 = .int .i64 ((j : Nat) : Int) ∧ Beside w0 b c F K D v6 ys wr

set_option maxRecDepth 100000 in
set_option maxHeartbeats 3200000 in
theorem told (room : Int) {w : World} {A : Option Addr} {xs : List ByteArray} {cap : Nat} (h : RStr w A xs) (hc : xs.length ≤ cap) :
    Calls Try.prog 6 #[.int .i64 room, .slice A xs.length cap] w fun e w' => e = .returned (.bool true) ∧ Below w.heap.size w w' := by
  obtain ⟨r, hL, hr⟩ := long_any h hc h.len
  have LG := Lib.hid hL
  have NW := Lib.hid (Eg.eng_new room w)
  clear hL
  cases r with
  | true =>
    clear hr h
    go_enter Try.func6, Try.ntmps6
    go_wp2_with fail
    refine LG.out.mono ?_
    rintro e w1 ⟨rfl, rfl⟩
    go_wp2_with fail
    go_ret
    exact ⟨rfl, Below.refl _ _⟩
  | false =>
    obtain ⟨h200, h40⟩ := hr rfl
    obtain ⟨N, hN⟩ : ∃ N, N = xs.length := ⟨_, rfl⟩
    rw [← hN] at hc LG h200 ⊢
    have HN := Lib.hid hN
    have H := Lib.hid h
    have H40 := Lib.hid h40
    clear h hN h40 hr
    go_enter Try.func6, Try.ntmps6
    go_wp2_with fail
    refine LG.out.mono ?_
    rintro e w1 ⟨rfl, rfl⟩
    go_wp2_with fail
    refine NW.out.mono ?_
    rintro e w1 ⟨b, F, rfl, he, hb, hF⟩
    have R0 : Hid (FRel w b (cof room) N N (.slice none 0 0) (.int .i64 0) w1) := Lib.hid ⟨F, init, fun _ => False, [], 0, by omega, by omega, rfl, by simp, ⟨he, Sl.nil _ _, fun x => by rw [show res init = [] from rfl], List.nodup_nil, hF, fun _ h => h.elim, fun _ h => h.elim, fun _ h => h.elim, hb⟩⟩
    clear he hb hF
    generalize cof room = c at *
    go_wp2_with fail
    go_loopg [6, 7] N (fun k v6 v7 wr => FRel w b c N k v6 v7 wr)
    case atStart => exact R0.out
    case round =>
      obtain ⟨F, K, D, ys, j, hj, hgk, rfl, hle, hB⟩ := hrel
      have HGK := Lib.hid hgk
      clear hgk
      rcases Nat.eq_or_lt_of_le hj with rfl | hjl
      · obtain ⟨Ay, cy, rfl, hcy⟩ := hB.sl.form
        have HB := Lib.hid hB
        have hM : ys.length ≤ 200 := by omega
        clear hB
        obtain ⟨M, hM0⟩ : ∃ M, M = ys.length := ⟨_, rfl⟩
        rw [← hM0] at hcy hM HB hle ⊢
        have HMM := Lib.hid hM0
        clear hM0
        go_wp2_with fail
        go_loopg [12] M (fun k v12 w2 => LRel w b c F K D (.slice Ay M cy) ys M k v12 w2)
        case atStart => exact ⟨0, by omega, by omega, rfl, HB.out⟩
        case round =>
          obtain ⟨i, hi, hgk, rfl, hB2⟩ := hrel
          have HGK2 := Lib.hid hgk
          clear hgk
          rcases Nat.eq_or_lt_of_le hi with rfl | hil
          · have HBL := Lib.hid hB2.bel
            clear hB2
            go_wp2_with fail
            refine (known_any _).mono ?_
            rintro e w3 ⟨rfl, hb3⟩
            have HB3 := Lib.hid hb3
            clear hb3
            go_wp2_with fail
            go_ret
            exact ⟨rfl, HBL.out.trans (HB3.out.mono HBL.out.size)⟩
          · obtain ⟨y, hy⟩ : ∃ y, ys[i]? = some y := ⟨_, List.getElem?_eq_getElem (by rw [← HMM.out]; exact hil)⟩
            obtain ⟨g, o, rfl, hcell⟩ := hB2.sl.cell hy
            have hyr := (hB2.mem y).1 (List.mem_of_getElem? hy)
            have HS := Lib.hid (Eg.eng_has hB2.eng (key := y) (by have := res_small hB2.eng.inv hyr; omega))
            rw [Eg.has_iff.2 hyr] at HS
            have HB2 := Lib.hid hB2
            have z0 : (0 : Int) ≤ (i : Int) := by omega
            have z1 : (i : Int) < (M : Int) := by omega
            clear hB2 hyr hy
            go_wp2_with fail
            refine HS.out.mono ?_
            rintro e w3 ⟨rfl, hb3⟩
            have HB3 := Lib.hid (HB2.out.below hb3)
            clear hb3
            go_wp2_with fail
            go_roundg (M - (i + 1))
            case measure => rw [HGK2.out]; omega
            case rel => exact ⟨i + 1, hil, rfl, rfl, HB3.out⟩
      · obtain ⟨s, hs⟩ : ∃ s, xs[j]? = some s := ⟨_, List.getElem?_eq_getElem (by rw [← HN.out]; exact hjl)⟩
        obtain ⟨g, o, rfl, hcell0⟩ := H.out.get j s hs
        have HG := Lib.hid (World.block_lt_of_cell? w _ hcell0)
        have HC0 := Lib.hid hcell0
        have hcell := cell_below hB.bel hcell0
        clear hcell0
        have hsz := H40.out s (List.mem_of_getElem? hs)
        obtain ⟨hit, l, K', hcall, hi', hcase⟩ := acc_cases hB.eng.inv hsz
        obtain ⟨Ay, cy, rfl, hcy⟩ := hB.sl.form
        have hys : ys.length ≤ 1000 * 1000 := by omega
        have hln := same_len hB.eng.inv hB.nod hB.mem
        have RS := hB.sl.rstr (by omega)
        have LE := Lib.hid (fun F2 w2 (h : Eng w2 b F2 c K') => Eg.eng_len h)
        have HB := Lib.hid hB
        have HC := Lib.hid (hcall b)
        have z0 : (0 : Int) ≤ (j : Int) := by omega
        have z1 : (j : Int) < (N : Int) := by omega
        have hm := hB.mem s
        clear hcall hs hB
        rcases hcase with ⟨hin, rfl, rfl, hmem, hn⟩ | ⟨hin, rfl, rfl, hlc, hmem, hn⟩ | ⟨hin, rfl, hlc, k, rfl, hkr, hmem, hn⟩
        · have HY := Lib.hid (w_has_yes RS hcy (by omega) (hm.2 hin))
          have HM := Lib.hid hmem
          rw [hn, ← hln] at LE
          clear RS hm hin hmem hn hln hi'
          generalize hne : ys.length = n at *
          have HNE := Lib.hid hne
          clear hne
          go_wp2_with fail
          refine HY.out.mono ?_
          rintro e w2 ⟨rfl, rfl⟩
          go_wp2_with fail
          refine (HC.out F _ HB.out.eng).mono ?_
          rintro e w2 ⟨v, F2, rfl, he2, hs2, ho2, -⟩
          obtain ⟨A2, c2, rfl⟩ := own_form' ho2
          have LN := Lib.hid (LE.out F2 w2 he2)
          have HB2 := Lib.hid (HB.out.eng' he2 hs2 (fun x => (HB.out.mem x).trans (HM.out x).symm))
          have hcell2 := cell_below HB2.out.bel HC0.out
          have GN := Lib.hid (w_has_no (xs := []) (A := A2) (cap := c2) (w := w2) ⟨by simp, by simp⟩ (by simp) (by simp) (key := s) (by simp))
          clear he2 hs2 ho2
          simp only [List.length_nil] at GN ⊢
          go_wp2_with fail
          refine GN.out.mono ?_
          rintro e w3 ⟨rfl, rfl⟩
          go_wp2_with fail
          go_loopg [6, 11] 0 (fun kk v6 v11 w3 => kk = 0 ∧ v6 = .slice Ay n cy ∧ v11 = .int .i64 0 ∧ w3 = w2)
          case atStart => exact ⟨rfl, rfl, rfl, rfl⟩
          case round =>
            obtain ⟨rfl, rfl, rfl, rfl⟩ := hrel
            go_wp2_with fail
            refine LN.out.mono ?_
            rintro e w3 ⟨rfl, hb3⟩
            have HB3 := Lib.hid hb3
            clear hb3
            go_wp2_with fail
            go_roundg (N - (j + 1))
            case measure => rw [HGK.out]; omega
            case rel => exact ⟨F2, K', D, ys, j + 1, hjl, rfl, rfl, by rw [HNE.out]; omega, HB2.out.below HB3.out⟩
        · have HY := Lib.hid (w_has_no RS hcy (by omega) (fun e => hin (hm.1 e)))
          have HM := Lib.hid hmem
          have HNO2 := Lib.hid (fun e => hin (hm.1 e))
          rw [hn, ← hln] at LE
          clear RS hm hin hmem hn hln hi' hlc
          generalize hne : ys.length = n at *
          have LYS := Lib.hid hne
          clear hne
          go_wp2_with fail
          refine HY.out.mono ?_
          rintro e w2 ⟨rfl, rfl⟩
          go_wp2_with fail
          refine (HC.out F _ HB.out.eng).mono ?_
          rintro e w2 ⟨v, F2, rfl, he2, hs2, ho2, -⟩
          obtain ⟨A2, c2, rfl⟩ := own_form' ho2
          have HA := Lib.hid (HB.out.apart.eng' he2 hs2)
          have hcell2 := cell_below HA.out.bel HC0.out
          have GN := Lib.hid (w_has_no (xs := []) (A := A2) (cap := c2) (w := w2) ⟨by simp, by simp⟩ (by simp) (by simp) (key := s) (by simp))
          have SL := Lib.hid HA.out.sl
          have LT := Lib.hid HA.out.dlt
          have LN0 : Hid (ys.length ≤ 1000000) := Lib.hid (by rw [LYS.out]; omega)
          have MEM : Hid (∀ x, x ∈ ys ++ [s] ↔ x ∈ res K') := Lib.hid (fun x => by rw [HM.out, List.mem_append, List.mem_singleton, HB.out.mem]; exact or_comm)
          clear he2 hs2 ho2
          simp only [List.length_nil] at GN ⊢
          go_wp2_with fail
          refine GN.out.mono ?_
          rintro e w3 ⟨rfl, rfl⟩
          go_wp2_with fail
          go_loopg [6, 11] 0 (fun kk v6 v11 w3 => kk = 0 ∧ v6 = .slice Ay n cy ∧ v11 = .int .i64 0 ∧ w3 = w2)
          case atStart => exact ⟨rfl, rfl, rfl, rfl⟩
          case round =>
            obtain ⟨rfl, rfl, rfl, rfl⟩ := hrel
            go_wp2_with (at_builtin; refine wpList_push rfl _ _ rfl SL.out LN0.out LT.out s 1 _ rfl rfl rfl ?_; intro v' w5 hp; obtain ⟨A'', c'', hv, -⟩ := hp.sl.form; rw [List.length_append, List.length_singleton, LYS.out] at hv; subst hv; have HP := Lib.hid hp; clear hp)
            have HB5 := Lib.hid ((HA.out.push HP.out HNO2.out).beside MEM.out)
            refine (LE.out _ _ HB5.out.eng).mono ?_
            rintro e w6 ⟨rfl, hb6⟩
            have HB6 := Lib.hid hb6
            clear hb6
            go_wp2_with fail
            go_roundg (N - (j + 1))
            case measure => rw [HGK.out]; omega
            case rel => exact ⟨_, K', _, _, j + 1, hjl, rfl, rfl, by rw [List.length_append, List.length_singleton, LYS.out]; omega, HB5.out.below HB6.out⟩
        · have HY := Lib.hid (w_has_no RS hcy (by omega) (fun e => hin (hm.1 e)))
          have HM := Lib.hid hmem
          have HNO := Lib.hid (fun e => hin (hm.1 e))
          have hks : k ≠ s := by rintro rfl; exact hin hkr
          have hky := (HB.out.mem k).2 hkr
          have hkl := less_len_of_mem' hky HB.out.nod
          rw [hn, ← hln, ← hkl] at LE
          have HKY := Lib.hid hky
          have HKL := Lib.hid hkl
          clear RS hm hin hmem hn hln hi' hlc hkr hky hkl
          generalize hne : ys.length = n at *
          have LYN := Lib.hid hne
          clear hne
          go_wp2_with fail
          refine HY.out.mono ?_
          rintro e w2 ⟨rfl, rfl⟩
          go_wp2_with fail
          refine (HC.out F _ HB.out.eng).mono ?_
          rintro e w2 ⟨v, F2, rfl, he2, hs2, ho2, hn2⟩
          obtain ⟨A2, c2, rfl, hc2, R2⟩ := own_rstr ho2 (by simp)
          have HA0 := Lib.hid (HB.out.apart.eng' he2 hs2)
          have hcell2 := cell_below HA0.out.bel HC0.out
          obtain ⟨g2, o2, rfl, hk2⟩ := R2.get 0 k rfl
          have GN := Lib.hid (w_has_no R2 hc2 (by simp) (key := s) (by simpa using fun e => hks e.symm))
          have RY := Lib.hid (HA0.out.sl.rstr (by rw [LYN.out]; omega))
          have YK := Lib.hid (w_has_yes RY.out (by rw [LYN.out]; exact hcy) (by rw [LYN.out]; omega) HKY.out)
          have CK := Lib.hid (w_cut RY.out (by rw [LYN.out]; exact hcy) (by rw [LYN.out]; omega) k)
          rw [LYN.out] at YK CK
          clear he2 hs2 ho2 hn2 R2
          simp only [List.length_cons, List.length_nil] at GN hc2 ⊢
          have hk2' : w2.cell? ⟨g2, o2, none⟩ = some (.string k) := hk2
          go_wp2_with fail
          refine GN.out.mono ?_
          rintro e w3 ⟨rfl, rfl⟩
          go_wp2_with fail
          go_loopg [6, 11] 1 (fun kk v6 v11 w3 => TRel w b c F2 K' ys k (.slice Ay n cy) w2 kk v6 v11 w3)
          case atStart => exact .inl ⟨rfl, rfl, rfl, rfl⟩
          case round =>
            rcases hrel with ⟨rfl, rfl, rfl, rfl⟩ | ⟨rfl, rfl, D3, hA3⟩
            · go_wp2_with fail
              refine YK.out.mono ?_
              rintro e w3 ⟨rfl, rfl⟩
              go_wp2_with fail
              refine CK.out.mono ?_
              rintro e w3 ⟨v', rfl, ho, hb3, -⟩
              have HT := Lib.hid (HA0.out.cut hb3 ho)
              clear ho hb3
              go_wp2_with fail
              go_roundg 0
              case measure => omega
              case rel => exact .inr ⟨rfl, rfl, _, HT.out⟩
            · obtain ⟨A3, c3, rfl, hc3⟩ := hA3.sl.form
              have HA := Lib.hid hA3
              have hcell3 := cell_below HA.out.bel HC0.out
              have SL := Lib.hid HA.out.sl
              have LT := Lib.hid HA.out.dlt
              have HNO2 : Hid (s ∉ without ys k) := Lib.hid (fun e => HNO.out (mem_without.1 e).1)
              have MEM : Hid (∀ x, x ∈ without ys k ++ [s] ↔ x ∈ res K') := Lib.hid (fun x => by rw [HM.out, List.mem_append, List.mem_singleton, mem_without, HB.out.mem]; exact or_comm)
              clear hA3
              obtain ⟨m, hmm⟩ : ∃ m, m = (without ys k).length := ⟨_, rfl⟩
              have hm1 : m ≤ n := by have := HKL.out; omega
              rw [← hmm] at SL HA LE ⊢
              have LYS : Hid ((without ys k).length = m) := Lib.hid hmm.symm
              have LN0 : Hid ((without ys k).length ≤ 1000000) := Lib.hid (by rw [LYS.out]; omega)
              clear hmm
              go_wp2_with (at_builtin; refine wpList_push rfl _ _ rfl SL.out LN0.out LT.out s 1 _ rfl rfl rfl ?_; intro v' w5 hp; obtain ⟨A'', c'', hv, -⟩ := hp.sl.form; rw [List.length_append, List.length_singleton, LYS.out] at hv; subst hv; have HP := Lib.hid hp; clear hp)
              have HB5 := Lib.hid ((HA.out.push HP.out HNO2.out).beside MEM.out)
              refine (LE.out _ _ HB5.out.eng).mono ?_
              rintro e w6 ⟨rfl, hb6⟩
              have HB6 := Lib.hid hb6
              clear hb6
              go_wp2_with fail
              go_roundg (N - (j + 1))
              case measure => rw [HGK.out]; omega
              case rel => exact ⟨_, K', _, without ys k ++ [s], j + 1, hjl, rfl, rfl, by rw [List.length_append, List.length_singleton, LYS.out]; omega, HB5.out.below HB6.out⟩

end Go.Proofs.Ytkeicfajlmhajaa.Lw
