/- An engine and its reference side by side; one act in both. -/
import Derived.Test.YtkeicfajlmhajaaWa
import Derived.Test.YtkeicfajlmhajaaQv
import Derived.Deep.RegionHeld3
import Derived.Deep.LoopGhost
namespace Go.Proofs.Ytkeicfajlmhajaa.Lw
open Go Go.RowKit Go.Proofs.Ytkeicfajlmhajaa.K Go.Proofs.Ytkeicfajlmhajaa.Sl
open Go.Proofs.Ytkeicfajlmhajaa.Li (more more_lt own_form')
open Go.Proofs.Ytkeicfajlmhajaa.Rw (cell_below cell_upd own_mono own_below)
open Go.Proofs.Ytkeicfajlmhajaa.Eg (Ks Eng access remove evict has stext res gho len cof init Inv AccPost Gone Texts)

section
variable {w w' : World} {b q c : Nat} {F F' G G' : Nat → Prop} {K K' L L' : Ks}

theorem far_step {D D' : Nat → Prop} {k : Nat} (h : ¬ D k) (hk : k < w.heap.size) (hs : Step D w D' w') : ¬ D' k := fun hf => (hs.grow k hf).elim h (by omega)

theorem own_rstr {B n : Nat} {v : Value} {l : List ByteArray} (h : w.ownsRow B 9 1 v n (l.map .string)) (hl : l.length ≤ 8796093021952) : ∃ A c, v = .slice A l.length c ∧ l.length ≤ c ∧ RStr w A l := by
  have hs := Sl.of_own (F := fun _ => True) h (fun _ _ => trivial)
  obtain ⟨A, c, rfl, hc⟩ := hs.form
  exact ⟨A, c, rfl, hc, hs.rstr hl⟩

theorem gone_le {c : Nat} {K : Ks} (hi : Inv c K) {key : ByteArray} (hk : key.size ≤ 40) : (access c K key).2.1.length ≤ 1 := by
  have h := Eg.access_facts hi hk
  by_cases hm : key ∈ res K
  · rw [(h.yes hm).1]; simp
  · rcases h.no hm with ⟨-, h1, -⟩ | ⟨-, k, h1, -⟩
    · rw [h1]; simp
    · rw [h1]; simp

end

end Go.Proofs.Ytkeicfajlmhajaa.Lw

/- TinyLFU: known. -/
namespace Go.Proofs.Ytkeicfajlmhajaa.Lw
open Go Go.RowKit Go.Proofs.Ytkeicfajlmhajaa.K Go.Proofs.Ytkeicfajlmhajaa.Sl
open Go.Proofs.Ytkeicfajlmhajaa.Li (more more_lt own_form')
open Go.Proofs.Ytkeicfajlmhajaa.Rw (cell_below cell_upd own_mono own_below)
open Go.Proofs.Ytkeicfajlmhajaa.Eg (Ks Eng access remove evict has stext res gho len cof init Inv AccPost Gone Texts)

theorem res_small {c : Nat} {K : Ks} (h : Inv c K) {x : ByteArray} (hx : x ∈ res K) : x.size ≤ 40 := by
  obtain ⟨q, hq, hm⟩ := Eg.in_row hx
  exact h.small q hq x hm


theorem res_le {c : Nat} {K : Ks} (h : Inv c K) : (res K).length ≤ 1024 := by rw [Eg.len_res]; exact h.len1.2.2.2.1
theorem gho_le {c : Nat} {K : Ks} (_h : Inv c K) : (gho K).length ≤ 1024 := by simp [gho]

def kkeys : List ByteArray := [⟨#[97]⟩, ⟨#[98]⟩]
def kst (j : Nat) : Ks := (kkeys.take j).foldl (fun K k => (access (cof 8) K k).2.2) init
theorem kst_succ {j : Nat} {k : ByteArray} (h : kkeys[j]? = some k) : kst (j + 1) = (access (cof 8) (kst j) k).2.2 := by
  have hj := lt_of_getElem? h
  have e : kkeys[j] = k := by rw [List.getElem?_eq_getElem hj] at h; exact Option.some.inj h
  unfold kst
  rw [← List.take_append_getElem hj, List.foldl_append, e]
  rfl
theorem kst_end : stext (kst 2) = ⟨#[87, 58, 32, 98, 59, 65, 58, 32, 97, 59, 80, 58]⟩ := by decide +kernel
theorem kkey_small {j : Nat} {k : ByteArray} (h : kkeys[j]? = some k) : k.size ≤ 40 := by
  have : ∀ k ∈ kkeys, k.size ≤ 40 := by decide
  exact this k (List.mem_of_getElem? h)

def KRel (w : World) (b : Nat) (sb : Nat) (kk : Nat) (v3 : Value) (wr : World) : Prop :=
  ∃ (F : Nat → Prop) (j : Nat), j ≤ 2 ∧ kk = 2 - j ∧ v3 = .int .i64 (j : Int) ∧ Eng wr b F (cof 8) (kst j) ∧ ¬ F sb ∧ (∀ k, F k → w.heap.size ≤ k) ∧ Below w.heap.size w wr ∧
    wr.heap[sb]? = some (.cells (kkeys.map Value.string).toArray 9 (0, 0)) ∧ w.heap.size ≤ sb

set_option maxHeartbeats 800000 in
theorem known_any (w : World) : Calls Try.prog 11 #[] w fun e w' => e = .returned (.bool true) ∧ Below w.heap.size w w' := by
  have NW := Lib.hid (Eg.eng_new 8 w)
  go_enter Try.func11, Try.ntmps11
  go_wp2_with fail
  refine NW.out.mono ?_
  rintro e w1 ⟨b, F, rfl, he, hb, hF⟩
  have hb2 : Below w1.heap.size w1 (w1.alloc (.cells (kkeys.map Value.string).toArray 9)) := (Below.refl _ _).alloc (Nat.le_refl _) _
  have HR : Hid (KRel w b w1.heap.size 2 (.int .i64 0) (w1.alloc (.cells (kkeys.map Value.string).toArray 9))) :=
    Lib.hid ⟨F, 0, by omega, rfl, rfl, he.below hb2, fun hh => by have := he.lt _ hh; omega, hF, hb.trans (hb2.mono hb.size), heap_alloc_new w1 _, hb.size⟩
  clear he hb hF hb2
  go_wp2_with fail
  go_loopg [3] 2 (fun kk v3 wr => KRel w b w1.heap.size kk v3 wr)
  case atStart => exact HR.out
  case round =>
    obtain ⟨F, j, hj, hgk, rfl, he, hs, hF, hb, hblk, hsz⟩ := hrel
    have HGK := Lib.hid hgk
    clear hgk
    rcases Nat.eq_or_lt_of_le hj with rfl | hjl
    · have ST := Lib.hid (Eg.eng_state he)
      rw [kst_end] at ST
      have HB := Lib.hid hb
      clear he hb hblk hF hs
      go_wp2_with fail
      refine ST.out.mono ?_
      rintro e w4 ⟨rfl, hb4⟩
      have HB4 := Lib.hid hb4
      clear hb4
      go_wp2_with fail
      go_ret
      exact ⟨rfl, HB.out.trans (HB4.out.mono HB.out.size)⟩
    · obtain ⟨k, hk⟩ : ∃ k, kkeys[j]? = some k := ⟨_, List.getElem?_eq_getElem (by simpa [kkeys] using hjl)⟩
      have hcell : wr.cell? ⟨w1.heap.size, j, none⟩ = some (.string k) := by
        rw [cell_of hblk]; simp [hk]
      have ACC := Lib.hid (Eg.eng_access he (kkey_small hk))
      have HK := Lib.hid (kst_succ hk)
      have HB := Lib.hid hb
      have HBL := Lib.hid hblk
      have HF := Lib.hid hF
      have HS := Lib.hid hs
      have HLT := Lib.hid (lt_of_block hblk)
      clear he hb hblk hF hs hk
      have z0 : (0 : Int) ≤ (j : Int) := by omega
      have z1 : (j : Int) < 2 := by omega
      go_wp2_with fail
      refine ACC.out.mono ?_
      rintro e w2 ⟨v, F2, rfl, he2, hs2, -, -⟩
      have HE2 := Lib.hid he2
      have HS2 := Lib.hid hs2
      clear he2 hs2
      go_wp2_with fail
      go_roundg (2 - (j + 1))
      case measure => rw [HGK.out]; omega
      case rel =>
        refine ⟨F2, j + 1, hjl, rfl, rfl, by rw [HK.out]; exact HE2.out, far_step HS.out HLT.out HS2.out, HS2.out.above HB.out.size HF.out, ?_, ?_, hsz⟩
        · exact HB.out.trans ((HS2.out.below HB.out.size HF.out))
        · exact HS2.out.upd.get HBL.out HS.out
end Go.Proofs.Ytkeicfajlmhajaa.Lw

/- The laws of an engine alone: OfNothing, Counts. -/
namespace Go.Proofs.Ytkeicfajlmhajaa.Lw
open Go Go.RowKit Go.Proofs.Ytkeicfajlmhajaa.K Go.Proofs.Ytkeicfajlmhajaa.Sl
open Go.Proofs.Ytkeicfajlmhajaa.Li (more more_lt own_form')
open Go.Proofs.Ytkeicfajlmhajaa.Rw (cell_below cell_upd own_mono own_below)
open Go.Proofs.Ytkeicfajlmhajaa.Eg (Ks Eng access remove evict has stext res gho len cof init Inv AccPost Gone Texts)

theorem eng_state_nil (w : World) : Calls Try.prog 22 #[.pointer none] w fun e w' => e = .returned (.string ByteArray.empty) ∧ w = w' := by
  go_enter Try.func22, Try.ntmps22
  go_wp2_with fail
  go_ret
  exact ⟨rfl, rfl⟩
theorem eng_load_nil (key : ByteArray) (w : World) : Calls Try.prog 19 #[.pointer none, .string key] w fun e w' => e = .returned (.bool false) ∧ ∃ n, w' = w.drewN n := by
  go_enter Try.func19, Try.ntmps19
  go_wp2_with fail
  go_quiet (fail)
  go_wp2_with fail
  go_ret
  exact ⟨rfl, _, rfl⟩

set_option maxRecDepth 100000 in
set_option maxHeartbeats 1600000 in
theorem of_nothing (key : ByteArray) (w : World) : Calls Try.prog 7 #[.string key] w fun e w' => e = .returned (.bool true) ∧ Below w.heap.size w w' := by
  by_cases h40 : 40 < key.size
  · have i1 : (40 : Int) < (key.size : Int) := by omega
    go_enter Try.func7, Try.ntmps7
    go_wp2_with fail
    go_ret
    exact ⟨rfl, Below.refl _ _⟩
  · have i1 : ¬ (40 : Int) < (key.size : Int) := by omega
    go_enter Try.func7, Try.ntmps7
    go_wp2_with fail
    refine (Eg.eng_access_nil key w).mono ?_
    rintro e w1 ⟨rfl, rfl⟩
    go_wp2_with fail
    refine (Eg.eng_evict_nil w).mono ?_
    rintro e w1 ⟨rfl, rfl⟩
    go_wp2_with fail
    refine (eng_load_nil key w).mono ?_
    rintro e w1 ⟨rfl, n, rfl⟩
    go_wp2_with fail
    refine (Eg.eng_remove_nil key _).mono ?_
    rintro e w1 ⟨rfl, rfl⟩
    go_wp2_with fail
    refine (Eg.eng_has_nil key _).mono ?_
    rintro e w1 ⟨rfl, rfl⟩
    go_wp2_with fail
    refine (Eg.eng_keys_nil _).mono ?_
    rintro e w1 ⟨rfl, rfl⟩
    go_wp2_with fail
    refine (Eg.eng_ghosts_nil _).mono ?_
    rintro e w1 ⟨rfl, rfl⟩
    go_wp2_with fail
    refine (eng_state_nil _).mono ?_
    rintro e w1 ⟨rfl, rfl⟩
    go_wp2_with fail
    refine (Eg.eng_len_nil _).mono ?_
    rintro e w1 ⟨rfl, rfl⟩
    go_wp2_with fail
    refine (Eg.eng_room_nil _).mono ?_
    rintro e w1 ⟨rfl, rfl⟩
    go_wp2_with fail
    refine (known_any _).mono ?_
    rintro e w1 ⟨rfl, hb⟩
    have HB := Lib.hid hb
    clear hb
    go_wp2_with fail
    go_ret
    exact ⟨rfl, (below_drewN (Below.refl _ _) n).trans HB.out⟩

/-- Access, by its three cases. -/
theorem acc_cases {c : Nat} {K : Ks} (hi : Inv c K) {key : ByteArray} (hk : key.size ≤ 40) : ∃ hit l K', (∀ b F w, Eng w b F c K → Calls Try.prog 12 #[.pointer (some ⟨b, 0, none⟩), .string key] w (Gone l (fun v => .tuple #[.bool hit, v]) b F c K' w)) ∧ Inv c K' ∧
    ((key ∈ res K ∧ hit = true ∧ l = [] ∧ (∀ x, x ∈ res K' ↔ x ∈ res K) ∧ len K' = len K) ∨
     (key ∉ res K ∧ hit = false ∧ l = [] ∧ len K < c ∧ (∀ x, x ∈ res K' ↔ x = key ∨ x ∈ res K) ∧ len K' = len K + 1) ∨
     (key ∉ res K ∧ hit = false ∧ len K = c ∧ ∃ k, l = [k] ∧ k ∈ res K ∧ (∀ x, x ∈ res K' ↔ x = key ∨ (x ∈ res K ∧ x ≠ k)) ∧ len K' = len K)) := by
  have A := Eg.access_facts hi hk
  refine ⟨_, _, _, fun b F w h => Eg.eng_access h hk, A.inv, ?_⟩
  by_cases hm : key ∈ res K
  · obtain ⟨h1, h2, h3⟩ := A.yes hm
    exact .inl ⟨hm, by rw [A.hit_]; exact Eg.has_iff.2 hm, h1, h2, h3⟩
  · have hf : (access c K key).1 = false := by rw [A.hit_, Bool.eq_false_iff]; exact fun e => hm (Eg.has_iff.1 e)
    rcases A.no hm with ⟨h1, h2, h3, h4⟩ | ⟨h1, h2⟩
    · exact .inr (.inl ⟨hm, hf, h2, h1, h3, h4⟩)
    · exact .inr (.inr ⟨hm, hf, h1, h2⟩)

def CRel (w0 : World) (b c N : Nat) (k : Nat) (v6 v7 v8 : Value) (wr : World) : Prop :=
  ∃ F K j went, j ≤ N ∧ k = N - j ∧ v8 = .int .i64 ((j : Nat) : Int) ∧ v7 = .int .i64 ((went : Nat) : Int) ∧ v6 = .int .i64 ((went : Int) + (len K : Int)) ∧ went + len K ≤ j ∧ Eng wr b F c K ∧ (∀ k, F k → w0.heap.size ≤ k) ∧ Below w0.heap.size w0 wr

set_option maxRecDepth 100000 in
set_option maxHeartbeats 1600000 in
theorem counts (room : Int) {w : World} {A : Option Addr} {xs : List ByteArray} {cap : Nat} (h : RStr w A xs) (hc : xs.length ≤ cap) :
    Calls Try.prog 5 #[.int .i64 room, .slice A xs.length cap] w fun e w' => e = .returned (.bool true) ∧ Below w.heap.size w w' := by
  obtain ⟨r, hL, hr⟩ := long_any h hc h.len
  have LG := Lib.hid hL
  have NW := Lib.hid (Eg.eng_new room w)
  clear hL
  cases r with
  | true =>
    clear hr h
    go_enter Try.func5, Try.ntmps5
    go_wp2_with fail
    refine LG.out.mono ?_
    rintro e w1 ⟨rfl, rfl⟩
    go_wp2_with fail
    go_ret
    exact ⟨rfl, Below.refl _ _⟩
  | false =>
    obtain ⟨h200, h40⟩ := hr rfl
    obtain ⟨N, hN⟩ : ∃ N, N = xs.length := ⟨_, rfl⟩
    rw [← hN] at hc LG h200 ⊢
    have HN := Lib.hid hN
    have H := Lib.hid h
    have H40 := Lib.hid h40
    clear h hN h40 hr
    go_enter Try.func5, Try.ntmps5
    go_wp2_with fail
    refine LG.out.mono ?_
    rintro e w1 ⟨rfl, rfl⟩
    go_wp2_with fail
    refine NW.out.mono ?_
    rintro e w1 ⟨b, F, rfl, he, hb, hF⟩
    have R0 : Hid (CRel w b (cof room) N N (.int .i64 0) (.int .i64 0) (.int .i64 0) w1) := Lib.hid ⟨F, init, 0, 0, by omega, by omega, rfl, rfl, by rfl, by show 0 + 0 ≤ 0; omega, he, hF, hb⟩
    have hc2 := Eg.cof_2 room
    clear he hb hF
    generalize cof room = c at *
    go_wp2_with fail
    go_loopg [6, 7, 8] N (fun k v6 v7 v8 wr => CRel w b c N k v6 v7 v8 wr)
    case atStart => exact R0.out
    case round =>
      obtain ⟨F, K, j, went, hj, hgk, rfl, rfl, rfl, hle, he, hF, hb⟩ := hrel
      have HGK := Lib.hid hgk
      clear hgk
      rcases Nat.eq_or_lt_of_le hj with rfl | hjl
      · have KN := Lib.hid (known_any wr)
        have HB := Lib.hid hb
        clear he hF hb
        go_wp2_with fail
        refine KN.out.mono ?_
        rintro e w2 ⟨rfl, hb2⟩
        have HB2 := Lib.hid hb2
        clear hb2
        go_wp2_with fail
        go_ret
        exact ⟨rfl, HB.out.trans (HB2.out.mono HB.out.size)⟩
      · obtain ⟨s, hs⟩ : ∃ s, xs[j]? = some s := ⟨_, List.getElem?_eq_getElem (by rw [← HN.out]; exact hjl)⟩
        obtain ⟨g, o, rfl, hcell⟩ := (H.out.below hb).get j s hs
        have hsz := H40.out s (List.mem_of_getElem? hs)
        obtain ⟨hit, l, K', hcall, hi', hcase⟩ := acc_cases he.inv hsz
        have AC := Lib.hid (hcall b F wr he)
        have LE := Lib.hid (fun F2 w2 (h : Eng w2 b F2 c K') => Eg.eng_len h)
        have hl2 := hi'.room
        have HF := Lib.hid hF
        have HB := Lib.hid hb
        have z0 : (0 : Int) ≤ (j : Int) := by omega
        have z1 : (j : Int) < (N : Int) := by omega
        clear hcall hi' hF hb hs he
        rcases hcase with ⟨-, rfl, rfl, -, hn⟩ | ⟨-, rfl, rfl, -, -, hn⟩ | ⟨-, rfl, -, k, rfl, -, -, hn⟩
        · have HNN := Lib.hid hn
          rw [hn] at hl2 LE
          clear hn
          generalize len K = n at *
          go_wp2_with fail
          refine AC.out.mono ?_
          rintro e w2 ⟨v, F2, rfl, he2, hs2, ho2, -⟩
          obtain ⟨A2, c2, rfl⟩ := own_form' ho2
          have LN := Lib.hid (LE.out F2 w2 he2)
          have HE2 := Lib.hid he2
          have HS2 := Lib.hid hs2
          clear he2 hs2 ho2
          simp only [List.length_nil]
          go_wp2_with fail
          refine LN.out.mono ?_
          rintro e w3 ⟨rfl, hb3⟩
          have HB3 := Lib.hid hb3
          clear hb3
          go_wp2_with fail
          go_roundg (N - (j + 1))
          case measure => rw [HGK.out]; omega
          case rel => exact ⟨F2, K', j + 1, went, hjl, rfl, rfl, rfl, (by rw [HNN.out] <;> first | rfl | go_num), by rw [HNN.out]; omega, HE2.out.below HB3.out, HS2.out.above HB.out.size HF.out, HB.out.trans ((HS2.out.below HB.out.size HF.out).trans (HB3.out.mono (Nat.le_trans HB.out.size HS2.out.upd.size)))⟩
        · have HNN := Lib.hid hn
          rw [hn] at hl2 LE
          clear hn
          generalize len K = n at *
          go_wp2_with fail
          refine AC.out.mono ?_
          rintro e w2 ⟨v, F2, rfl, he2, hs2, ho2, -⟩
          obtain ⟨A2, c2, rfl⟩ := own_form' ho2
          have LN := Lib.hid (LE.out F2 w2 he2)
          have HE2 := Lib.hid he2
          have HS2 := Lib.hid hs2
          clear he2 hs2 ho2
          simp only [List.length_nil]
          go_wp2_with fail
          refine LN.out.mono ?_
          rintro e w3 ⟨rfl, hb3⟩
          have HB3 := Lib.hid hb3
          clear hb3
          go_wp2_with fail
          go_roundg (N - (j + 1))
          case measure => rw [HGK.out]; omega
          case rel => exact ⟨F2, K', j + 1, went, hjl, rfl, rfl, rfl, (by rw [HNN.out] <;> first | rfl | go_num), by rw [HNN.out]; omega, HE2.out.below HB3.out, HS2.out.above HB.out.size HF.out, HB.out.trans ((HS2.out.below HB.out.size HF.out).trans (HB3.out.mono (Nat.le_trans HB.out.size HS2.out.upd.size)))⟩
        · have HNN := Lib.hid hn
          rw [hn] at hl2 LE
          clear hn
          generalize len K = n at *
          go_wp2_with fail
          refine AC.out.mono ?_
          rintro e w2 ⟨v, F2, rfl, he2, hs2, ho2, -⟩
          obtain ⟨A2, c2, rfl⟩ := own_form' ho2
          have LN := Lib.hid (LE.out F2 w2 he2)
          have HE2 := Lib.hid he2
          have HS2 := Lib.hid hs2
          clear he2 hs2 ho2
          simp only [List.length_cons, List.length_nil]
          go_wp2_with fail
          refine LN.out.mono ?_
          rintro e w3 ⟨rfl, hb3⟩
          have HB3 := Lib.hid hb3
          clear hb3
          go_wp2_with fail
          go_roundg (N - (j + 1))
          case measure => rw [HGK.out]; omega
          case rel => exact ⟨F2, K', j + 1, went + 1, hjl, rfl, rfl, rfl, (by rw [HNN.out] <;> first | rfl | go_num), by rw [HNN.out]; omega, HE2.out.below HB3.out, HS2.out.above HB.out.size HF.out, HB.out.trans ((HS2.out.below HB.out.size HF.out).trans (HB3.out.mono (Nat.le_trans HB.out.size HS2.out.upd.size)))⟩

end Go.Proofs.Ytkeicfajlmhajaa.Lw
