/- The rows of an engine: keys. -/
import Derived.Test.YtkeicfajlmhajaaRf
import Derived.Laws.AppendOwnNone
namespace Go.Proofs.Ytkeicfajlmhajaa.Rw
open Go Go.RowKit Go.Proofs.Ytkeicfajlmhajaa.K
open Go.Proofs.Ytkeicfajlmhajaa.Li (Lst more more_lt hdl own_form' infoS)
open Go.Proofs.Ytkeicfajlmhajaa.In (Idx V)

section
variable {R : Nat} {w : World} {v : Value} {F : Nat → Prop} {K : Nat → List ByteArray}

/-- The keys of these rows. -/
def cat (K : Nat → List ByteArray) (rs : List Nat) : List ByteArray := rs.flatMap K
theorem cat_take {rs : List Nat} {j r : Nat} (h : rs[j]? = some r) : cat K (rs.take (j + 1)) = cat K (rs.take j) ++ K r := by
  have hj := lt_of_getElem? h
  have e : rs[j] = r := by rw [List.getElem?_eq_getElem hj] at h; exact Option.some.inj h
  unfold cat
  rw [← List.take_append_getElem hj, List.flatMap_append, e]
  simp

theorem own_below {w w' : World} {B e n : Nat} {v : Value} {xs : List Value} (h : w.ownsRow B e 1 v n xs) (hb : Below w.heap.size w w') : w'.ownsRow B e 1 v n xs := by
  obtain ⟨h1, (h2 | ⟨g, c, cur, h2, h3, h4, h5⟩)⟩ := h
  · exact ⟨h1, .inl h2⟩
  · exact ⟨h1, .inr ⟨g, c, cur, h2, h3, (hb.block _ (lt_of_block h4)).trans h4, h5⟩⟩

theorem own_mono {w : World} {B B' e n : Nat} {v : Value} {xs : List Value} (h : w.ownsRow B e 1 v n xs) (hB : B' ≤ B) : w.ownsRow B' e 1 v n xs := by
  obtain ⟨h1, (h2 | ⟨g, c, cur, h2, h3, h4, h5⟩)⟩ := h
  · exact ⟨h1, .inl h2⟩
  · exact ⟨h1, .inr ⟨g, c, cur, h2, Nat.le_trans hB h3, h4, h5⟩⟩

theorem cat_le (rs : List Nat) (j : Nat) : (cat K (rs.take j)).length ≤ (cat K rs).length := by
  have e := List.take_append_drop j rs
  unfold cat
  conv => rhs; rw [← e, List.flatMap_append, List.length_append]
  omega

theorem cell_below {w w' : World} (h : Below w.heap.size w w') {k o : Nat} {x : Value} (hc : w.cell? ⟨k, o, none⟩ = some x) : w'.cell? ⟨k, o, none⟩ = some x :=
  cell_upd (Upd.of_below (F := fun _ => False) h (fun k h1 h2 => by omega)) id hc

def KeysPost (K : Nat → List ByteArray) (rs : List Nat) (w : World) (e : Ending) (w' : World) : Prop :=
  ∃ v, e = .returned v ∧ w'.ownsRow w.heap.size 9 1 v (cat K rs).length ((cat K rs).map .string) ∧ Below w.heap.size w w'

set_option maxHeartbeats 800000 in
theorem rows_keys (h : Rows R w v F K) {rs : List Nat} {a c : Nat} (hrs : ∀ r ∈ rs, r < R) (ha : ∀ (j r : Nat), rs[j]? = some r → w.cell? ⟨a, j, none⟩ = some (.int .i64 (r : Int))) (hl : rs.length ≤ 1000) (ht : (cat K rs).length ≤ 1000000) :
    Calls Try.prog 33 #[v, .slice (some ⟨a, 0, none⟩) rs.length c] w (KeysPost K rs w) := by
  obtain ⟨s, cap, bx, n, l, X, Fx, Fr, M, rfl, h2, h3, h4, h5, h6, h7⟩ := h
  have hb2 : Below w.heap.size w (w.alloc (.cells #[.slice (some ⟨s, 0, none⟩) R cap, .pointer (some ⟨bx, 0, none⟩)] 42)) := (Below.refl _ _).alloc (Nat.le_refl _) _
  have H2 := Lib.hid h2
  have HA := Lib.hid ha
  have HV := Lib.hid (block_new w (.cells #[.slice (some ⟨s, 0, none⟩) R cap, .pointer (some ⟨bx, 0, none⟩)] 42))
  have HRS := Lib.hid hrs
  have HX : Hid (∀ r, r < R → (X r).map (fun x => Value.string x.2) = (K r).map .string ∧ (X r).length = (K r).length) := Lib.hid (fun r hr => by rw [h3 r hr, List.map_map, List.length_map]; exact ⟨rfl, rfl⟩)
  have HT := Lib.hid ht
  have HB2 := Lib.hid hb2
  have HZ : Hid (w.heap.size < (w.alloc (.cells #[.slice (some ⟨s, 0, none⟩) R cap, .pointer (some ⟨bx, 0, none⟩)] 42)).heap.size) := Lib.hid (by simp)
  obtain ⟨N, hN⟩ : ∃ N, N = rs.length := ⟨_, rfl⟩
  rw [← hN] at hl ⊢
  have HN := Lib.hid hN
  clear h2 h3 h4 h5 h6 h7 hb2 hrs ha hN ht
  obtain ⟨i0, hi0, hz0, hz1, hz2⟩ := info_parts infoS
  unfold rv
  go_enter Try.func33, Try.ntmps33
  go_wp2_with fail
  generalize w.alloc (.cells #[.slice (some ⟨s, 0, none⟩) R cap, .pointer (some ⟨bx, 0, none⟩)] 42) = w2 at *
  go_loopg [5, 10] N (fun k v5 v10 wr => ∃ j : Nat, j ≤ N ∧ k = N - j ∧ v10 = .int .i64 (j : Int) ∧ wr.ownsRow w2.heap.size 9 1 v5 (cat K (rs.take j)).length ((cat K (rs.take j)).map .string) ∧ Below w2.heap.size w2 wr)
  case atStart => exact ⟨0, by omega, by omega, rfl, World.ownsRow_nil _ _ _ _, Below.refl _ _⟩
  case round =>
    obtain ⟨j, hj, hgk, rfl, ho, hb⟩ := hrel
    obtain ⟨gA, gc, rfl⟩ := own_form' ho
    have HGK := Lib.hid hgk
    have HO := Lib.hid ho
    have HB := Lib.hid hb
    clear hgk ho hb
    rcases Nat.eq_or_lt_of_le hj with rfl | hjl
    · go_wp2_with fail
      go_ret
      have e : rs.take j = rs := by rw [HN.out, List.take_length]
      have h1 := HO.out
      have e2 : cat K (rs.take j) = cat K rs := by rw [e]
      refine ⟨.slice gA (cat K (rs.take j)).length gc, rfl, ?_, HB2.out.trans (HB.out.mono (Nat.le_of_lt HZ.out))⟩
      rw [← e2]
      exact own_mono h1 (Nat.le_of_lt HZ.out)
    · obtain ⟨r, hr⟩ : ∃ r, rs[j]? = some r := ⟨_, List.getElem?_eq_getElem (by rw [← HN.out]; exact hjl)⟩
      have hrR : r < R := HRS.out r (List.mem_of_getElem? hr)
      have z0 : (0 : Int) ≤ (j : Int) := by omega
      have z1 : (j : Int) < (N : Int) := by omega
      have y0 : (0 : Int) ≤ (r : Int) := by omega
      have y1 : (r : Int) < (R : Int) := by omega
      have hbw : Below w.heap.size w wr := HB2.out.trans (HB.out.mono (Nat.le_of_lt HZ.out))
      have hrw := H2.out.below (by omega) hbw
      have ca := cell_below hbw (HA.out j r hr)
      have cs := hrw.cell hrR
      obtain ⟨b0, b1, fb⟩ := In.two_cells ((HB.out.block _ HZ.out).trans HV.out)
      have L := Lib.hid (Li.lst_all (hrw.lst r hrR))
      have hn := cat_take (K := K) hr
      have hle := cat_le (K := K) rs (j + 1)
      have hall := HT.out
      have hnl := congrArg List.length hn
      rw [List.length_append] at hnl
      have HNX := Lib.hid hn
      have b3 : (cat K (rs.take j)).length ≤ 1000000 := by omega
      have b4 : (cat K (rs.take j)).length + (K r).length ≤ 1000000 := by omega
      have hws := hbw.size
      clear hn hle hall hr hrw hnl
      have HBW := Lib.hid hbw
      clear hbw
      go_wp2_with fail
      refine L.out.mono ?_
      rintro e w3 ⟨v3, rfl, ho3, hb3, hnil⟩
      rw [(HX.out r hrR).1, (HX.out r hrR).2] at ho3
      have HO1 := Lib.hid (own_below HO.out hb3)
      have HB3 := Lib.hid (HBW.out.trans (hb3.mono hws))
      have HB23 := Lib.hid (HB.out.trans (hb3.mono HB.out.size))
      have hws3 := HB3.out.size
      have HXX := Lib.hid (HX.out r hrR).2
      clear hb3
      generalize hP : cat K (rs.take j) = P at *
      generalize hU : K r = U at *
      have HPU : Hid (cat K (rs.take (j + 1)) = P ++ U) := Lib.hid HNX.out
      clear HNX
      cases U with
      | nil =>
        have hv3 := hnil (List.length_eq_zero_iff.1 HXX.out)
        subst hv3
        clear ho3 hnil
        go_wp2_with (at_builtin; refine wpList_append_own_none rfl _ _ 22 rfl w2.heap.size 9 i0 1 Try.underlying22 hi0 (.slice gA P.length gc) P.length _ rfl HO1.out rfl ?_)
        go_roundg (N - (j + 1))
        case measure => rw [HGK.out]; omega
        case rel => exact ⟨j + 1, hjl, rfl, rfl, by rw [HPU.out, List.append_nil]; exact HO1.out, HB23.out⟩
      | cons u us =>
        obtain ⟨o1, (⟨o2, o3⟩ | ⟨g3, c3, cur, o2, o3, o4, o5, o6, o7, o8⟩)⟩ := ho3
        · simp at o3
        · subst o2
          clear hnil
          have hnews : ∀ (k : Nat) (x : Value), ((u :: us).map Value.string)[k]? = some x → w3.cell? ((⟨g3, 0, none⟩ : Addr).add k) = some x := by
            intro k x hx
            have hk := lt_of_getElem? hx
            have ea : (⟨g3, 0, none⟩ : Addr).add k = ⟨g3, k, none⟩ := by simp [Addr.add]; intro h; exact h.symm
            rw [ea, cell_of o4, ← Array.getElem?_toList]
            have e : cur.toList[k]? = (cur.toList.take ((u :: us).length * 1))[k]? := by rw [List.getElem?_take, if_pos (by simpa using hk)]
            rw [e, o8]
            exact hx
          have HNEWS := Lib.hid hnews
          have h1c : ∀ x ∈ (u :: us).map Value.string, x.oneCell' = true := by
            intro x hx
            obtain ⟨y, -, rfl⟩ := List.mem_map.1 hx
            rfl
          have H1C := Lib.hid h1c
          clear o4 o5 o6 o7 o8 o1 hnews h1c
          obtain ⟨m, hm⟩ : ∃ m, m = (u :: us).length := ⟨_, rfl⟩
          rw [← hm] at b4 ⊢
          have hm0 : 0 < m := by rw [hm]; simp
          have HM := Lib.hid hm
          clear hm
          obtain ⟨q, hq⟩ : ∃ q, q = P.length := ⟨_, rfl⟩
          rw [← hq] at b3 b4 HO HO1 ⊢
          have HQ := Lib.hid hq
          clear hq
          go_wp2_with (at_builtin; refine wpList_append_lies _ rfl _ _ 22 rfl w2.heap.size 9 i0 (.string ByteArray.empty) 1 16 Try.underlying22 hi0 hz0 hz1 hz2 rfl (by decide) (.slice gA q gc) q _ rfl HO1.out ⟨g3, 0, none⟩ m c3 ((u :: us).map Value.string) rfl (by rw [HM.out]; simp) HNEWS.out H1C.out hm0 (by unfold maxLen; omega) (by omega) HB23.out.size w3.heap.size rfl ?_; intro f' cf' w4 hown hgr hat hlt3; have HO4 := Lib.hid hown; have HGR := Lib.hid hgr; clear hown hgr hat hlt3)
          go_roundg (N - (j + 1))
          case measure => rw [HGK.out]; omega
          case rel =>
            refine ⟨j + 1, hjl, rfl, rfl, ?_, HB23.out.grown HGR.out HB23.out.size (fun g hg => (HO1.out.lt g hg).1)⟩
            rw [HPU.out, List.length_append, ← HM.out, ← HQ.out, List.map_append]
            exact HO4.out
end

end Go.Proofs.Ytkeicfajlmhajaa.Rw
