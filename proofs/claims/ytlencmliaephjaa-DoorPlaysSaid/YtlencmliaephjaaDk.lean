/- DoorKeeps. -/
import Derived.Test.YtlencmliaephjaaDh
namespace Go.Proofs.Ytlencmliaephjaa.Do
open Go Go.RowKit Go.Proofs.Ytlencmliaephjaa.K Go.Proofs.Ytlencmliaephjaa.Ha Go.Proofs.Ytlencmliaephjaa.Sk

/-- The bits behind so many keys. -/
def adds (m : Nat) (l : List ByteArray) : List Bool := l.foldl (fun B key => addB m B key) (List.replicate (64 * m) false)
theorem adds_snoc {m : Nat} {l : List ByteArray} {k : Nat} {s : ByteArray} (h : l[k]? = some s) : adds m (l.take (k + 1)) = addB m (adds m (l.take k)) s := by
  obtain ⟨hk, rfl⟩ := List.getElem?_eq_some_iff.1 h
  rw [List.take_succ_eq_append_getElem hk, adds, List.foldl_append]; rfl
theorem foldl_length (m : Nat) : ∀ (l : List ByteArray) (B : List Bool), (l.foldl (fun B key => addB m B key) B).length = B.length
  | [], _ => rfl
  | x :: l, B => by rw [List.foldl_cons, foldl_length m l, addB_length]
theorem adds_length (m : Nat) (l : List ByteArray) : (adds m l).length = 64 * m := by unfold adds; rw [foldl_length]; simp
theorem adds_has {m : Nat} (hm : 1 ≤ m) {l : List ByteArray} : ∀ k, k ≤ l.length → ∀ j s, j < k → l[j]? = some s → has m (adds m (l.take k)) s = true
  | 0, _, j, _, hj, _ => by omega
  | k + 1, hk, j, s, hj, hs => by
    have hx : l[k]? = some l[k] := List.getElem?_eq_getElem (by omega)
    rw [adds_snoc hx]
    by_cases e : j = k
    · subst e
      rw [hx] at hs
      cases hs
      exact has_add m _ _ (adds_length _ _) hm
    · exact has_mono m _ _ _ (adds_length _ _) hm (adds_has hm k (by omega) j s (by omega) hs)

set_option maxHeartbeats 1600000 in
set_option maxRecDepth 100000 in
theorem keeps_calls (room : Int) (A : Option Addr) (cap : Nat) (l : List ByteArray) (w : World) (hl : RStr w A l) :
    Calls Try.prog 6 #[.int .i64 room, .slice A l.length cap] w fun e w' => e = .returned (.bool true) ∧ Below w.heap.size w w' := by
  have hlen := hl.len
  have HL := Lib.hid hl
  have H1 := heavy8_calls A cap l w hl
  have hsm := @heavy8_false l
  generalize heavy8 l = r at *
  clear hl
  have hcase : r = true ∨ (r = false ∧ decide ((300 : Int) < (l.length : Int)) = true) ∨ (r = false ∧ l.length ≤ 300) := by
    cases r <;> simp <;> omega
  rcases hcase with rfl | ⟨rfl, t1⟩ | ⟨rfl, hl300⟩
  · go_enter Try.func6, Try.ntmps6
    go_wp2_with (go_at_call 17; refine H1.mono ?_; rintro e w' ⟨rfl, k, rfl⟩)
    go_ret
    exact ⟨rfl, below_drewN (Below.refl _ _) _⟩
  · go_enter Try.func6, Try.ntmps6
    go_wp2_with (go_at_call 17; refine H1.mono ?_; rintro e w' ⟨rfl, k, rfl⟩)
    go_ret
    exact ⟨rfl, below_drewN (Below.refl _ _) _⟩
  · have t1 : decide ((300 : Int) < (l.length : Int)) = false := by simp; omega
    have HS := Lib.hid (hsm rfl)
    clear hsm
    obtain ⟨m1, m2⟩ := dw_range room
    have N := fun w => new_dq room w
    generalize dw room = m at *
    have HN := Lib.hid N
    clear N
    go_enter Try.func6, Try.ntmps6
    go_wp2_with (first | (go_at_call 17; refine H1.mono ?_; rintro e w' ⟨rfl, k, rfl⟩) | (go_at_call 18; refine (HN.out _).mono ?_; rintro e w1 ⟨b, c, rfl, hb, hc, hd, hw⟩))
    have hw' : Hid (Below w.heap.size w w1) := Lib.hid ⟨hw.os, hw.tape, hw.output, hw.size, hw.block⟩
    have hF : Hid (∀ i, i = c → w.heap.size ≤ i) := Lib.hid (by rintro i rfl; exact hc)
    have h0 : Hid (Dq w1 b c m (adds m (l.take 0))) := Lib.hid hd
    clear hd hw hb hc H1
    go_loopw [6] (fun v6 wr => ∃ k : Nat, k ≤ l.length ∧ v6 = .int .i64 k ∧ Dq wr b c m (adds m (l.take k)) ∧ Below w.heap.size w wr) (fun v6 wr => l.length - (intOf v6).toNat)
    case atStart => exact ⟨0, by omega, rfl, h0.out, hw'.out⟩
    case round =>
      clear h0 hw'
      obtain ⟨k, hk, rfl, hs, hB⟩ := hrel
      have HSq := Lib.hid hs
      have HB := Lib.hid hB
      clear hs hB
      by_cases hli : k < l.length
      · obtain ⟨s, hsk⟩ : ∃ s, l[k]? = some s := ⟨_, List.getElem?_eq_getElem hli⟩
        obtain ⟨ab, ao, rfl, hcell⟩ := (HL.out.below HB.out).get k s hsk
        have hsz := HS.out k s (by omega) hsk
        have HP := Lib.hid (adds_snoc (m := m) hsk)
        have ADD := Lib.hid (add_dq s HSq.out (by omega))
        clear hsk
        go_wp2_with (go_at_call 19; refine ADD.out.mono ?_; rintro e w3 ⟨rfl, hs3, hu3⟩)
        have S3 : Hid (Dq w3 b c m (adds m (l.take (k + 1)))) := Lib.hid (by rw [HP.out]; exact hs3)
        have B3 := Lib.hid (HB.out.trans (hu3.below HB.out.size hF.out))
        clear hs3 hu3 ADD HSq HB hcell
        go_loopw [7] (fun v7 wq => ∃ j : Nat, j ≤ l.length + 7 ∧ v7 = .int .i64 j ∧ Dq wq b c m (adds m (l.take (k + 1))) ∧ Below w.heap.size w wq) (fun v7 wq => l.length + 7 - (intOf v7).toNat)
        case atStart => exact ⟨0, by omega, rfl, S3.out, B3.out⟩
        case round =>
          clear S3 B3
          obtain ⟨j, hj, rfl, hs, hB⟩ := hrel
          have HSq := Lib.hid hs
          have HB := Lib.hid hB
          clear hs hB
          by_cases hjk : j ≤ k
          · obtain ⟨x, hxj⟩ : ∃ x, l[j]? = some x := ⟨_, List.getElem?_eq_getElem (by omega)⟩
            obtain ⟨ab', ao', he, hcell⟩ := (HL.out.below HB.out).get j x hxj
            cases he
            have hsx := HS.out j x (by omega) hxj
            have T := has_dq x HSq.out (by omega)
            rw [adds_has m1 (k + 1) (by omega) j x (by omega) hxj] at T
            have HT := Lib.hid T
            have z1 : (j : Int) < (l.length : Int) := by omega
            clear T hxj
            go_wp2_with (go_at_call 20; refine HT.out.mono ?_; rintro e w4 ⟨rfl, q, rfl⟩)
            go_roundw
            case rel => exact ⟨j + 7, by omega, by go_num, HSq.out.drewN _, below_drewN HB.out _⟩
            case measure => simp [intOf]; omega
          · go_wp2_with fail
            go_roundw
            case rel => exact ⟨k + 1, by omega, by go_num, HSq.out, HB.out⟩
            case measure => simp [intOf]; omega
      · generalize adds m (l.take k) = B at *
        go_wp2_with (go_at_call 24; refine (clear_dq HSq.out).mono ?_; rintro e w3 ⟨rfl, hs3, hu3⟩)
        have S3 := Lib.hid hs3
        have B3 := Lib.hid (HB.out.trans (hu3.below HB.out.size hF.out))
        clear hs3 hu3 HSq HB
        go_loopw [8] (fun v8 wq => ∃ j : Nat, j ≤ l.length ∧ v8 = .int .i64 j ∧ Dq wq b c m (List.replicate (64 * m) false) ∧ Below w.heap.size w wq) (fun v8 wq => l.length - (intOf v8).toNat)
        case atStart => exact ⟨0, by omega, rfl, S3.out, B3.out⟩
        case round =>
          clear S3 B3
          obtain ⟨j, hj, rfl, hs, hB⟩ := hrel
          have HSq := Lib.hid hs
          have HB := Lib.hid hB
          clear hs hB
          by_cases hjk : j < l.length
          · obtain ⟨x, hxj⟩ : ∃ x, l[j]? = some x := ⟨_, List.getElem?_eq_getElem (by omega)⟩
            obtain ⟨ab', ao', rfl, hcell⟩ := (HL.out.below HB.out).get j x hxj
            have hsx := HS.out j x (by omega) hxj
            have T := has_dq x HSq.out (by omega)
            rw [has_zero] at T
            have HT := Lib.hid T
            clear T hxj
            go_wp2_with (go_at_call 20; refine HT.out.mono ?_; rintro e w4 ⟨rfl, q, rfl⟩)
            go_roundw
            case rel => exact ⟨j + 1, by omega, by go_num, HSq.out.drewN _, below_drewN HB.out _⟩
            case measure => simp [intOf]; omega
          · have O := ones_dq HSq.out
            rw [count_zero] at O
            have HO := Lib.hid O
            clear O
            go_wp2_with (first | (go_at_call 21; refine HO.out.mono ?_; rintro e w4 ⟨rfl, rfl⟩) | (go_at_call 22; refine (known_calls _).mono ?_; rintro e w5 ⟨rfl, hb5⟩))
            go_ret
            exact ⟨rfl, HB.out.trans (hb5.mono HB.out.size)⟩

end Go.Proofs.Ytlencmliaephjaa.Do
