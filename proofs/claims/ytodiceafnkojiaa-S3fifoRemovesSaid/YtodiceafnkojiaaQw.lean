/- S3-FIFO's reference in memory: State, Keys, Ghosts. -/
import Derived.Test.YtodiceafnkojiaaQv
import Derived.Test.YtodiceafnkojiaaQu
import Derived.Laws.BytesArg
import Derived.BigRegion
namespace Go.Proofs.Ytodiceafnkojiaa.Rf
open Go Go.RowKit Go.Proofs.Ytodiceafnkojiaa.K Go.Proofs.Ytodiceafnkojiaa.Sl Go.Proofs.Ytodiceafnkojiaa.Eg
open Go.Proofs.Ytodiceafnkojiaa.Li (more more_lt infoS own_form')
open Go.Proofs.Ytodiceafnkojiaa.Rw (upd upd_same upd_other less less_same cell_below cell_upd own_mono own_below)
open Go.Proofs.Ytodiceafnkojiaa.Tx (txt str three tail tail_len)
open Go.Proofs.Ytodiceafnkojiaa.Sc (Cs fl RC)

section
variable {w : World} {A : Option Addr} {ys : List ByteArray} {cap : Nat}

theorem tail_take {j : Nat} {s : ByteArray} (hs : ys[j]? = some s) : tail (ys.take (j + 1)) = tail (ys.take j) ++ 32 :: s.data.toList := by
  have hj := lt_of_getElem? hs
  have e : ys[j] = s := by rw [List.getElem?_eq_getElem hj] at hs; exact Option.some.inj hs
  unfold tail
  rw [← List.take_append_getElem hj, List.flatMap_append, e]
  simp

theorem str_grow (name : List UInt8) (l : List ByteArray) (s : ByteArray) : str (txt name l) ++ ⟨#[32]⟩ ++ s = str (txt name l ++ 32 :: s.data.toList) := by
  unfold str
  apply ByteArray.ext
  rw [ByteArray.data_append, ByteArray.data_append]
  apply Array.ext'
  simp
theorem str_name (name : ByteArray) : name ++ ⟨#[58]⟩ = str (txt name.data.toList []) := by
  unfold str txt tail
  apply ByteArray.ext
  rw [ByteArray.data_append]
  apply Array.ext'
  simp
theorem str_size (l : List UInt8) : (str l).size = l.length := by
  show l.toArray.size = _
  simp

/-- A cell's text. -/
def cx (x : ByteArray × Nat) : ByteArray := x.1 ++ ⟨#[47]⟩ ++ dig x.2
theorem cx_size {x : ByteArray × Nat} (h1 : x.1.size ≤ 40) (h2 : x.2 ≤ 3) : (cx x).size ≤ 50 := by
  have h3 := dig_size h2
  unfold cx
  rw [ByteArray.size_append, ByteArray.size_append, h3]
  show x.1.size + 1 + 1 ≤ 50
  omega
theorem cx_cl (K : Ks) (r : Nat) : (cl K r).map cx = counts K r := by
  unfold cl counts
  rw [List.map_map]
  rfl
theorem str_cell (s : ByteArray) (k d : ByteArray) : s ++ ⟨#[32]⟩ ++ k ++ ⟨#[47]⟩ ++ d = s ++ ⟨#[32]⟩ ++ (k ++ ⟨#[47]⟩ ++ d) := by
  apply ByteArray.ext
  simp [ByteArray.data_append]

theorem dig_str (m : Nat) (hm : m ≤ 3) : strOfNums [48 + (m : Int)] = dig m := by
  rcases min3 m hm with rfl | rfl | rfl | rfl <;> rfl
/-- One byte as a text. -/
theorem conv_at (W : World) (a : Nat) (z : Int) (h : W.cell? ⟨a, 0, none⟩ = some (.int .u8 z)) :
    (convert 96 9 (.slice (some ⟨a, 0, none⟩) 1 1)).run Try.prog W = .ok (.string (strOfNums [z])) W :=
  run_convert_bytes_arg (P := Try.prog) W 96 5 Try.underlying96 Try.underlying5 a 0 1 1 [z] rfl (fun i hi => by
    have : i = 0 := by omega
    subst this
    exact h) 9 Try.underlying9
theorem conv_dig (W : World) (m : Nat) (hm : m ≤ 3) (z : Int) (hz : z = 48 + (m : Int)) :
    (convert 96 9 (.slice (some ⟨W.heap.size, 0, none⟩) 1 1)).run Try.prog (W.alloc (.cells #[.int .u8 z] 5)).drew = .ok (.string (dig m)) (W.alloc (.cells #[.int .u8 z] 5)).drew := by
  have h := conv_at (W.alloc (.cells #[.int .u8 z] 5)).drew W.heap.size z (cnew W (.int .u8 z) 5)
  rw [hz, dig_str m hm, ← hz] at h
  exact h

set_option maxRecDepth 100000 in
set_option maxHeartbeats 1600000 in
theorem ref_text {xs : Cs} (h : RC w A xs) (hc : xs.length ≤ cap) (hl : xs.length ≤ 3000) (hk : ∀ (j : Nat) (x : ByteArray × Nat), xs[j]? = some x → x.1.size ≤ 40 ∧ x.2 ≤ 3) (name : ByteArray) (hn : name.size ≤ 10) :
    Calls Try.prog 60 #[.string name, .slice A xs.length cap] w fun e w' => e = .returned (.string (str (txt name.data.toList (xs.map cx)))) ∧ Below w.heap.size w w' := by
  obtain ⟨N, hN⟩ : ∃ N, N = xs.length := ⟨_, rfl⟩
  rw [← hN] at hc hl ⊢
  have HN := Lib.hid hN
  have H := Lib.hid h
  have HK := Lib.hid hk
  have H0 := Lib.hid (str_name name)
  have HM : Hid (∀ k ∈ xs.map cx, k.size ≤ 50) := Lib.hid (fun k hk' => by
    obtain ⟨x, hx, rfl⟩ := List.mem_map.1 hk'
    obtain ⟨j, hj, rfl⟩ := List.mem_iff_getElem.1 hx
    have := hk j _ (List.getElem?_eq_getElem hj)
    exact cx_size this.1 this.2)
  have HXL : Hid ((xs.map cx).length = N) := Lib.hid (by rw [List.length_map, hN])
  clear h hN hk
  go_enter Try.func60, Try.ntmps60
  go_wp2_with fail
  go_loopg [5, 6] N (fun k v5 v6 wr => Below w.heap.size w wr ∧ ∃ j : Nat, j ≤ N ∧ k = N - j ∧ v6 = .int .i64 (j : Int) ∧ v5 = .string (str (txt name.data.toList ((xs.map cx).take j))))
  case atStart => exact ⟨Below.refl _ _, 0, by omega, by omega, rfl, by rw [H0.out]; rfl⟩
  case round =>
    obtain ⟨hb, j, hj, hgk, rfl, rfl⟩ := hrel
    have HGK := Lib.hid hgk
    have HB := Lib.hid hb
    clear hgk hb
    have hsz : (str (txt name.data.toList ((xs.map cx).take j))).size ≤ 300000 := by
      rw [str_size]
      have := tail_len ((xs.map cx).take j) (fun k hk => HM.out k (List.mem_of_mem_take hk))
      have h2 : ((xs.map cx).take j).length ≤ 3000 := by rw [List.length_take]; omega
      have h3 : name.data.toList.length = name.size := Array.length_toList
      unfold txt
      rw [List.length_append, List.length_cons]
      omega
    rcases Nat.eq_or_lt_of_le hj with rfl | hjl
    · have e : (xs.map cx).take j = xs.map cx := by rw [← HXL.out, List.take_length]
      rw [e]
      go_wp2_with fail
      go_ret
      exact ⟨rfl, HB.out⟩
    · obtain ⟨x, hx⟩ : ∃ x, xs[j]? = some x := ⟨_, List.getElem?_eq_getElem (by rw [← HN.out]; exact hjl)⟩
      obtain ⟨g, o, rfl, k0, k1⟩ := (H.out.below HB.out) j x hx
      obtain ⟨hs1, hs2⟩ := HK.out j x hx
      have hcx : (xs.map cx)[j]? = some (x.1 ++ ⟨#[47]⟩ ++ dig x.2) := by rw [List.getElem?_map, hx]; rfl
      have HF : Hid (str (txt name.data.toList ((xs.map cx).take j)) ++ ⟨#[32]⟩ ++ x.1 ++ ⟨#[47]⟩ ++ dig x.2 = str (txt name.data.toList ((xs.map cx).take (j + 1)))) := Lib.hid (by
        rw [str_cell, str_grow]
        unfold txt
        rw [tail_take hcx]
        simp)
      clear hx hcx
      have z0 : (0 : Int) ≤ (j : Int) := by omega
      have z1 : (j : Int) < (N : Int) := by omega
      generalize hz : str (txt name.data.toList ((xs.map cx).take j)) = z at *
      have HZ := Lib.hid hz
      clear hz
      obtain ⟨k, n⟩ := x
      dsimp only at *
      have k02 := fun ob => cell_below ((Below.refl _ _).alloc (Nat.le_refl _) ob) k0
      have k12 := fun ob => cell_below ((Below.refl _ _).alloc (Nat.le_refl _) ob) k1
      have D0 := dig_size (n := 0) (by omega)
      have D1 := dig_size (n := 1) (by omega)
      have D2 := dig_size (n := 2) (by omega)
      have D3 := dig_size (n := 3) (by omega)
      have V0 := conv_dig wr 0 (by omega) 48 rfl
      have V1 := conv_dig wr 1 (by omega) 49 rfl
      have V2 := conv_dig wr 2 (by omega) 50 rfl
      have V3 := conv_dig wr 3 (by omega) 51 rfl
      rcases min3 n hs2 with rfl | rfl | rfl | rfl
      all_goals
        go_wp2_with fail
        go_region
        all_goals
          go_wp2_with fail
          go_roundg (N - (j + 1))
          case measure => rw [HGK.out]; omega
          case rel =>
            exact ⟨bdrew (HB.out.alloc HB.out.size _), j + 1, hjl, rfl, rfl, congrArg Value.string HF.out⟩

variable {b c : Nat} {F : Nat → Prop} {K : Ks}

/-- The text ahead of the ghosts. -/
def pre (K : Ks) : List UInt8 := txt [83] (counts K 0) ++ 59 :: (txt [77] (counts K 1) ++ [59, 71, 58])
theorem pre_end (K : Ks) : str (pre K ++ tail (K.r 2)) = stext K := by
  unfold pre stext three
  congr 1
  simp [txt]
theorem pre_start (K : Ks) : str (txt [83] (counts K 0)) ++ ⟨#[59]⟩ ++ str (txt [77] (counts K 1)) ++ ⟨#[59, 71, 58]⟩ = str (pre K ++ tail []) := by
  unfold str pre tail
  apply ByteArray.ext
  simp only [ByteArray.data_append]
  apply Array.ext'
  simp
theorem pre_grow (p : List UInt8) (s : ByteArray) : str p ++ ⟨#[32]⟩ ++ s = str (p ++ 32 :: s.data.toList) := by
  unfold str
  apply ByteArray.ext
  rw [ByteArray.data_append, ByteArray.data_append]
  apply Array.ext'
  simp
theorem txt_len {name : List UInt8} {ys : List ByteArray} (hn : name.length ≤ 10) (hk : ∀ k ∈ ys, k.size ≤ 50) (hl : ys.length ≤ 1024) : (txt name ys).length ≤ 60000 := by
  have := tail_len ys hk
  unfold txt
  rw [List.length_append, List.length_cons]
  omega

set_option maxRecDepth 100000 in
set_option maxHeartbeats 1600000 in
theorem ref_state (h : Ref w b F c K) : Calls Try.prog 34 #[.pointer (some ⟨b, 0, none⟩)] w fun e w' => e = .returned (.string (stext K)) ∧ Below w.heap.size w w' := by
  have hi := h.inv
  obtain ⟨v, Fs, hm, -⟩ := h
  obtain ⟨A, p, hs⟩ := hm.rs
  have c0 : w.cell? ⟨b, 0, none⟩ = some (.slice (A 0) (cl K 0).length (p 0)) := hs.c0
  have c1 : w.cell? ⟨b, 1, none⟩ = some (.slice (A 1) (cl K 1).length (p 1)) := hs.c1
  have c2 : w.cell? ⟨b, 2, none⟩ = some (.slice (A 2) (K.r 2).length (p 2)) := hs.c2
  have s0 : Sc.Sc w (.slice (A 0) (cl K 0).length (p 0)) (Fs 0) (cl K 0) := hs.sl 0 (by omega)
  have s1 : Sc.Sc w (.slice (A 1) (cl K 1).length (p 1)) (Fs 1) (cl K 1) := hs.sl 1 (by omega)
  have s2 : Sl w (.slice (A 2) (K.r 2).length (p 2)) (Fs 2) (K.r 2) := hs.sl 2 (by omega)
  have hl := hi.len1
  have hcs : ∀ r, r < 2 → ∀ (j : Nat) (x : ByteArray × Nat), (cl K r)[j]? = some x → x.1.size ≤ 40 ∧ x.2 ≤ 3 := fun r hr j x hx => by
    obtain ⟨h1, h2⟩ := cl_get hx
    exact ⟨hi.small r (by omega) _ (List.mem_of_getElem? h1), by rw [h2]; exact hi.cnt _⟩
  have g2 : ∀ k ∈ K.r 2, k.size ≤ 50 := fun k hk => by have := hi.small 2 (by omega) k hk; omega
  have q0 := txt_len (name := [83]) (by simp) (counts_size hi (r := 0) (by omega)) (by unfold counts; rw [List.length_map]; omega)
  have q1 := txt_len (name := [77]) (by simp) (counts_size hi (r := 1) (by omega)) (by unfold counts; rw [List.length_map]; omega)
  obtain ⟨t0, ht0⟩ : ∃ t, t = str (txt [83] (counts K 0)) := ⟨_, rfl⟩
  obtain ⟨t1, ht1⟩ : ∃ t, t = str (txt [77] (counts K 1)) := ⟨_, rfl⟩
  have T0 : Hid (∀ W : World, Below w.heap.size w W → Calls Try.prog 60 #[.string ⟨#[83]⟩, .slice (A 0) (cl K 0).length (p 0)] W fun e w' => e = .returned (.string t0) ∧ Below W.heap.size W w') := Lib.hid (fun W hb => by
    have := ref_text (s0.below hb).rc (hs.p_ 0 (by omega)) (by rw [cl_length]; omega) (hcs 0 (by omega)) ⟨#[83]⟩ (by decide)
    rw [cx_cl] at this
    rw [ht0]
    exact this)
  have T1 : Hid (∀ W : World, Below w.heap.size w W → Calls Try.prog 60 #[.string ⟨#[77]⟩, .slice (A 1) (cl K 1).length (p 1)] W fun e w' => e = .returned (.string t1) ∧ Below W.heap.size W w') := Lib.hid (fun W hb => by
    have := ref_text (s1.below hb).rc (hs.p_ 1 (by omega)) (by rw [cl_length]; omega) (hcs 1 (by omega)) ⟨#[77]⟩ (by decide)
    rw [cx_cl] at this
    rw [ht1]
    exact this)
  have z0 : t0.size ≤ 60000 := by rw [ht0, str_size]; exact q0
  have z1 : t1.size ≤ 60000 := by rw [ht1, str_size]; exact q1
  have HST : Hid (t0 ++ ⟨#[59]⟩ ++ t1 ++ ⟨#[59, 71, 58]⟩ = str (pre K ++ tail ((K.r 2).take 0))) := Lib.hid (by rw [ht0, ht1]; exact pre_start K)
  have HEN := Lib.hid (pre_end K)
  have hpre : (pre K).length ≤ 130000 := by unfold pre; simp; omega
  have RS2 := Lib.hid (s2.rstr (by omega))
  have G2 := Lib.hid g2
  obtain ⟨N, hN⟩ : ∃ N, N = (K.r 2).length := ⟨_, rfl⟩
  have hNl : N ≤ 1024 := by omega
  rw [← hN] at c2
  have HN := Lib.hid hN
  clear hm hs hi ht0 ht1 hl s0 s1 s2 hcs g2 q0 q1 hN
  generalize (cl K 0).length = n0 at *
  generalize (cl K 1).length = n1 at *
  generalize A 0 = A0 at *
  generalize A 1 = A1 at *
  generalize A 2 = A2 at *
  generalize p 0 = p0 at *
  generalize p 1 = p1 at *
  generalize p 2 = p2 at *
  have u0 : ¬ 9223372036854775807 < t0.size + 1 := by omega
  have u1 : ¬ 9223372036854775807 < t0.size + 1 + t1.size := by omega
  have u2 : ¬ 9223372036854775807 < t0.size + 1 + t1.size + 3 := by omega
  go_enter Try.func34, Try.ntmps34
  go_wp2_with fail
  refine wp_region_held_drew (S := fun w' => w'.cell? ⟨b, 0, none⟩ = some (.slice A0 n0 p0) ∧ w'.cell? ⟨b, 1, none⟩ = some (.slice A1 n1 p1)) (by kernel_rfl) ?_ (fun hHeld => ?_)
  · exact ⟨c0, c1⟩
  refine wpAnyH_take (i := 0) (v := ?_) rfl (by kernel_rfl) (by kernel_rfl) (by kernel_rfl) (fun _ _ _ h => h) (Or.inl ⟨by rfl, ?_⟩) (by assumption) ?_
  rotate_left
  · (intro w hSw; (try dsimp only at hSw); go_simp; first | done | with_reducible rfl)
  simp only [Act.put, List.getElem_toArray, List.getElem_cons_zero, List.setIfInBounds_toArray, List.set_cons_zero, List.set_cons_succ]
  refine wpAnyH_take (i := 1) (v := ?_) rfl (by kernel_rfl) (by kernel_rfl) (by kernel_rfl) (fun _ _ _ h => h) (Or.inl ⟨by rfl, ?_⟩) (by assumption) ?_
  rotate_left
  · (intro w hSw; (try dsimp only at hSw); go_simp; first | done | with_reducible rfl)
  simp only [Act.put, List.getElem_toArray, List.getElem_cons_zero, List.getElem_cons_succ, List.setIfInBounds_toArray, List.set_cons_zero, List.set_cons_succ]
  refine wpAnyH_take (i := 2) (v := ?_) rfl (by kernel_rfl) (by kernel_rfl) (by kernel_rfl) (fun _ _ _ h => h) (Or.inl ⟨by rfl, ?_⟩) (by assumption) ?_
  rotate_left
  · (intro w hSw; (try dsimp only at hSw); go_simp; first | done | with_reducible rfl)
  simp only [Act.put, List.getElem_toArray, List.getElem_cons_zero, List.getElem_cons_succ, List.setIfInBounds_toArray, List.set_cons_zero, List.set_cons_succ]
  refine wpAnyH_take (i := 3) (v := ?_) rfl (by kernel_rfl) (by kernel_rfl) (by kernel_rfl) (fun _ _ _ h => h) (Or.inl ⟨by rfl, ?_⟩) (by assumption) ?_
  rotate_left
  · (intro w hSw; (try dsimp only at hSw); go_simp; first | done | with_reducible rfl)
  simp only [Act.put, List.getElem_toArray, List.getElem_cons_zero, List.getElem_cons_succ, List.setIfInBounds_toArray, List.set_cons_zero, List.set_cons_succ]
  refine wpAnyH_take (i := 6) (v := ?_) rfl (by kernel_rfl) (by kernel_rfl) (by kernel_rfl) (fun _ _ _ h => h) (Or.inl ⟨by rfl, ?_⟩) (by assumption) ?_
  rotate_left
  · (intro w hSw; (try dsimp only at hSw); go_simp; first | done | with_reducible rfl)
  simp only [Act.put, List.getElem_toArray, List.getElem_cons_zero, List.getElem_cons_succ, List.setIfInBounds_toArray, List.set_cons_zero, List.set_cons_succ]
  refine wpAnyH_take (i := 7) (v := ?_) rfl (by kernel_rfl) (by kernel_rfl) (by kernel_rfl) (fun _ _ _ h => h) (Or.inl ⟨by rfl, ?_⟩) (by assumption) ?_
  rotate_left
  · (intro w hSw; (try dsimp only at hSw); go_simp; first | done | with_reducible rfl)
  simp only [Act.put, List.getElem_toArray, List.getElem_cons_zero, List.getElem_cons_succ, List.setIfInBounds_toArray, List.set_cons_zero, List.set_cons_succ]
  refine wpAnyH_take (i := 8) (v := ?_) rfl (by kernel_rfl) (by kernel_rfl) (by kernel_rfl) (fun _ _ _ h => h) (Or.inl ⟨by rfl, ?_⟩) (by assumption) ?_
  rotate_left
  · (intro w hSw; (try dsimp only at hSw); go_simp; first | done | with_reducible rfl)
  simp only [Act.put, List.getElem_toArray, List.getElem_cons_zero, List.getElem_cons_succ, List.setIfInBounds_toArray, List.set_cons_zero, List.set_cons_succ]
  refine wpAnyH_take (i := 9) (v := ?_) rfl (by kernel_rfl) (by kernel_rfl) (by kernel_rfl) (fun _ _ _ h => h) (Or.inl ⟨by rfl, ?_⟩) (by assumption) ?_
  rotate_left
  · (intro w hSw; (try dsimp only at hSw); go_simp; first | done | with_reducible rfl)
  simp only [Act.put, List.getElem_toArray, List.getElem_cons_zero, List.getElem_cons_succ, List.setIfInBounds_toArray, List.set_cons_zero, List.set_cons_succ]
  refine wpAnyH_ready (rs := [4]) (by kernel_rfl) (by simp) ?_
  refine AllReadyH.cons rfl (fun K hK => ?_) ?_
  rotate_left
  · exact AllReadyH.nil
  go_simp
  refine (T0.out _ (below_drewN (Below.refl _ w) 1)).mono ?_; rintro e w2 ⟨rfl, hb2⟩; have q0 := cell_below (w := w.drew) hb2 c0; have q1 := cell_below (w := w.drew) hb2 c1; have HB2 := Lib.hid (below_on (w := w) (w1 := w) (Below.refl _ _) hb2); clear hb2; go_simp
  refine hK.out _ _ ?_ (fun hHeld => ?_)
  · exact ⟨q0, q1⟩
  clear hK K
  try simp only [Act.put, List.getElem_toArray, List.getElem_cons_zero, List.getElem_cons_succ, List.setIfInBounds_toArray, List.set_cons_zero, List.set_cons_succ]
  refine wpAnyH_take (i := 5) (v := ?_) rfl (by kernel_rfl) (by kernel_rfl) (by kernel_rfl) (fun _ _ _ h => h) (Or.inl ⟨by rfl, ?_⟩) (by assumption) ?_
  rotate_left
  · (intro w hSw; (try dsimp only at hSw); go_simp; first | done | with_reducible rfl)
  simp only [Act.put, List.getElem_toArray, List.getElem_cons_zero, List.getElem_cons_succ, List.setIfInBounds_toArray, List.set_cons_zero, List.set_cons_succ]
  refine wpAnyH_ready (rs := [10]) (by kernel_rfl) (by simp) ?_
  refine AllReadyH.cons rfl (fun K hK => ?_) ?_
  rotate_left
  · exact AllReadyH.nil
  go_simp
  refine (T1.out w2 HB2.out).mono ?_; rintro e w3 ⟨rfl, hb3⟩; have r0 := cell_below hb3 q0; have r1 := cell_below hb3 q1; have HB3 := Lib.hid (below_next HB2.out hb3); clear hb3; go_simp
  refine hK.out _ _ ?_ (fun hHeld => ?_)
  · exact ⟨r0, r1⟩
  clear hK K
  try simp only [Act.put, List.getElem_toArray, List.getElem_cons_zero, List.getElem_cons_succ, List.setIfInBounds_toArray, List.set_cons_zero, List.set_cons_succ]
  refine wpAnyH_take (i := 11) (v := ?_) rfl (by kernel_rfl) (by kernel_rfl) (by kernel_rfl) (fun _ _ _ h => h) (Or.inl ⟨by rfl, ?_⟩) (by assumption) ?_
  rotate_left
  · (intro w hSw; (try dsimp only at hSw); go_simp; first | done | with_reducible rfl)
  simp only [Act.put, List.getElem_toArray, List.getElem_cons_zero, List.getElem_cons_succ, List.setIfInBounds_toArray, List.set_cons_zero, List.set_cons_succ]
  refine wpAnyH_take (i := 12) (v := ?_) rfl (by kernel_rfl) (by kernel_rfl) (by kernel_rfl) (fun _ _ _ h => h) (Or.inl ⟨by rfl, ?_⟩) (by assumption) ?_
  rotate_left
  · (intro w hSw; (try dsimp only at hSw); go_simp; first | done | with_reducible rfl)
  simp only [Act.put, List.getElem_toArray, List.getElem_cons_zero, List.getElem_cons_succ, List.setIfInBounds_toArray, List.set_cons_zero, List.set_cons_succ]
  refine wpAnyH_take (i := 13) (v := ?_) rfl (by kernel_rfl) (by kernel_rfl) (by kernel_rfl) (fun _ _ _ h => h) (Or.inl ⟨by rfl, ?_⟩) (by assumption) ?_
  rotate_left
  · (intro w hSw; (try dsimp only at hSw); go_simp; first | done | with_reducible rfl)
  simp only [Act.put, List.getElem_toArray, List.getElem_cons_zero, List.getElem_cons_succ, List.setIfInBounds_toArray, List.set_cons_zero, List.set_cons_succ]
  refine wpAnyH_done (by kernel_rfl) ?_ _
  go_wp2_with fail
  go_loopg [3, 4] N (fun k v3 v4 wr => w3 = wr ∧ ∃ j : Nat, j ≤ N ∧ k = N - j ∧ v4 = .int .i64 (j : Int) ∧ v3 = .string (str (pre K ++ tail ((K.r 2).take j))))
  case atStart => exact ⟨rfl, 0, by omega, by omega, rfl, congrArg Value.string HST.out⟩
  case round =>
    obtain ⟨rfl, j, hj, hgk, rfl, rfl⟩ := hrel
    have HGK := Lib.hid hgk
    clear hgk
    have d2 := cell_below HB3.out c2
    have hsz : (str (pre K ++ tail ((K.r 2).take j))).size ≤ 300000 := by
      rw [str_size, List.length_append]
      have := tail_len ((K.r 2).take j) (fun k hk => G2.out k (List.mem_of_mem_take hk))
      have h2 : ((K.r 2).take j).length ≤ 1024 := by rw [List.length_take]; omega
      omega
    rcases Nat.eq_or_lt_of_le hj with rfl | hjl
    · have e : (K.r 2).take j = K.r 2 := by rw [HN.out, List.take_length]
      rw [e, HEN.out]
      go_wp2_with fail
      go_ret
      exact ⟨rfl, HB3.out⟩
    · obtain ⟨s, hs⟩ : ∃ s, (K.r 2)[j]? = some s := ⟨_, List.getElem?_eq_getElem (by rw [← HN.out]; exact hjl)⟩
      obtain ⟨g, o, rfl, hcell⟩ := (RS2.out.below HB3.out).get j s hs
      have hss : s.size ≤ 50 := G2.out s (List.mem_of_getElem? hs)
      have HF : Hid (str (pre K ++ tail ((K.r 2).take j)) ++ ⟨#[32]⟩ ++ s = str (pre K ++ tail ((K.r 2).take (j + 1)))) := Lib.hid (by rw [pre_grow, tail_take hs]; simp)
      clear hs
      have y0 : (0 : Int) ≤ (j : Int) := by omega
      have y1 : (j : Int) < (N : Int) := by omega
      generalize str (pre K ++ tail ((K.r 2).take j)) = z at *
      go_wp2_with fail
      go_roundg (N - (j + 1))
      case measure => rw [HGK.out]; omega
      case rel => exact ⟨rfl, j + 1, hjl, rfl, rfl, congrArg Value.string HF.out⟩

/-- Keys that were gone through. -/
def KRel (w : World) (zs xs : List ByteArray) (N k : Nat) (v3 v4 : Value) (wr : World) : Prop :=
  ∃ j : Nat, j ≤ N ∧ k = N - j ∧ v4 = .int .i64 (j : Int) ∧ wr.ownsRow w.heap.size 9 1 v3 (zs ++ xs.take j).length ((zs ++ xs.take j).map .string) ∧ Below w.heap.size w wr

set_option maxHeartbeats 1600000 in
theorem ref_keys (h : Ref w b F c K) : Calls Try.prog 35 #[.pointer (some ⟨b, 0, none⟩)] w (Texts (res K) w) := by
  have hi := h.inv
  obtain ⟨v, Fs, hm, -⟩ := h
  obtain ⟨A, p, hs⟩ := hm.rs
  have c0 : w.cell? ⟨b, 0, none⟩ = some (.slice (A 0) (cl K 0).length (p 0)) := hs.c0
  have c1 : w.cell? ⟨b, 1, none⟩ = some (.slice (A 1) (cl K 1).length (p 1)) := hs.c1
  have R0 : Hid (RC w (A 0) (cl K 0)) := Lib.hid (Sc.Sc.rc (hs.sl 0 (by omega)))
  have R1 : Hid (RC w (A 1) (cl K 1)) := Lib.hid (Sc.Sc.rc (hs.sl 1 (by omega)))
  have hl := hi.len1
  obtain ⟨i0, hi0, hz0, hz1, hz2⟩ := info_parts infoS
  obtain ⟨N0, hN0⟩ : ∃ N, N = (K.r 0).length := ⟨_, rfl⟩
  obtain ⟨N1, hN1⟩ : ∃ N, N = (K.r 1).length := ⟨_, rfl⟩
  have hb0 : N0 ≤ 1024 := by omega
  have hb1 : N1 ≤ 1024 := by omega
  rw [cl_length, ← hN0] at c0
  rw [cl_length, ← hN1] at c1
  have HN0 := Lib.hid hN0
  have HN1 := Lib.hid hN1
  clear hm hs hi hl hN0 hN1
  generalize A 0 = A0 at *
  generalize A 1 = A1 at *
  generalize p 0 = p0 at *
  generalize p 1 = p1 at *
  go_enter Try.func35, Try.ntmps35
  go_wp2_with fail
  go_loopg [3, 4] N0 (fun k v3 v4 wr => KRel w [] (K.r 0) N0 k v3 v4 wr)
  case atStart => exact ⟨0, by omega, by omega, rfl, World.ownsRow_nil _ _ _ _, Below.refl _ _⟩
  case round =>
    obtain ⟨j, hj, hgk, rfl, ho, hb⟩ := hrel
    obtain ⟨gA, gc, rfl⟩ := own_form' ho
    have HGK := Lib.hid hgk
    have HO := Lib.hid ho
    have HB := Lib.hid hb
    have d0 := cell_below hb c0
    have d1 := cell_below hb c1
    clear hgk ho hb
    rcases Nat.eq_or_lt_of_le hj with rfl | hjl
    · have e : [] ++ (K.r 0).take j = K.r 0 ++ (K.r 1).take 0 := by rw [HN0.out, List.take_length]; simp
      rw [e] at HO
      have HR : Hid (KRel w (K.r 0) (K.r 1) N1 N1 (.slice gA (K.r 0 ++ (K.r 1).take 0).length gc) (.int .i64 0) wr) := Lib.hid ⟨0, by omega, by omega, rfl, HO.out, HB.out⟩
      rw [e]
      clear HO HB
      generalize (K.r 0 ++ (K.r 1).take 0).length = n7 at *
      go_wp2_with fail
      go_loopg [3, 5] N1 (fun k v3 v5 wr => KRel w (K.r 0) (K.r 1) N1 k v3 v5 wr)
      case atStart => exact HR.out
      case round =>
        obtain ⟨i, hi, hgk, rfl, ho, hb⟩ := hrel
        obtain ⟨gA, gc, rfl⟩ := own_form' ho
        have HGK := Lib.hid hgk
        have HO := Lib.hid ho
        have HB := Lib.hid hb
        have d1 := cell_below hb c1
        clear hgk ho hb HR
        rcases Nat.eq_or_lt_of_le hi with rfl | hjl
        · have e : K.r 0 ++ (K.r 1).take i = res K := by rw [HN1.out, List.take_length]; rfl
          rw [e] at HO ⊢
          generalize hn8 : (res K).length = n8 at *
          have HN8 := Lib.hid hn8
          clear hn8
          go_wp2_with fail
          go_ret
          exact ⟨_, rfl, by rw [HN8.out]; exact HO.out, HB.out⟩
        · obtain ⟨s, hs⟩ : ∃ s, (K.r 1)[i]? = some s := ⟨_, List.getElem?_eq_getElem (by rw [← HN1.out]; exact hjl)⟩
          obtain ⟨g, o, rfl, hcell, -⟩ := (R1.out.below HB.out) i (s, K.n s) (cl_of hs)
          dsimp only at hcell
          have HW : Hid (K.r 0 ++ (K.r 1).take (i + 1) = (K.r 0 ++ (K.r 1).take i) ++ [s]) := Lib.hid (by rw [List.take_add_one, hs, List.append_assoc]; rfl)
          have hle : (K.r 0 ++ (K.r 1).take i).length ≤ 2048 := by rw [List.length_append, List.length_take, ← HN0.out]; omega
          have z0 : (0 : Int) ≤ (i : Int) := by omega
          have z1 : (i : Int) < (N1 : Int) := by omega
          have HWS := Lib.hid HB.out.size
          clear hs
          generalize K.r 0 ++ (K.r 1).take i = P at *
          obtain ⟨q, hq⟩ : ∃ q, q = P.length := ⟨_, rfl⟩
          rw [← hq] at hle HO ⊢
          have HQ := Lib.hid hq
          clear hq
          go_wp2_with (at_builtin; refine wpList_append_lies _ rfl _ _ 22 rfl w.heap.size 9 i0 (.string ByteArray.empty) 1 16 Try.underlying22 hi0 hz0 hz1 hz2 rfl (by decide) (.slice gA q gc) q _ rfl (HO.out.alloc _) ⟨wr.heap.size, 0, none⟩ 1 1 [.string s] rfl rfl (World.news_of_block (cs := #[.string s]) (heap_alloc_new wr _)) (by simp [Value.oneCell']) (by omega) (by unfold maxLen; omega) (by omega) (by simp; have := HWS.out; omega) (wr.heap.size + 1) (by simp) ?_; intro f' cf' w3 hown hgr hat hlt3; have hb3 := HB.out.grown (Li.grown_al hgr) HWS.out (fun g hg => (HO.out.lt g hg).1); have HO3 := Lib.hid hown; have HB3 := Lib.hid hb3; clear hown hgr hat hlt3 hb3)
          go_roundg (N1 - (i + 1))
          case measure => rw [HGK.out]; omega
          case rel => exact ⟨i + 1, hjl, rfl, rfl, by rw [HW.out, List.length_append, ← HQ.out, List.map_append]; exact HO3.out, HB3.out⟩
    · obtain ⟨s, hs⟩ : ∃ s, (K.r 0)[j]? = some s := ⟨_, List.getElem?_eq_getElem (by rw [← HN0.out]; exact hjl)⟩
      obtain ⟨g, o, rfl, hcell, -⟩ := (R0.out.below HB.out) j (s, K.n s) (cl_of hs)
      dsimp only at hcell
      have HW : Hid ([] ++ (K.r 0).take (j + 1) = ([] ++ (K.r 0).take j) ++ [s]) := Lib.hid (by rw [List.take_add_one, hs]; rfl)
      have hle : ([] ++ (K.r 0).take j).length ≤ 2048 := by rw [List.nil_append, List.length_take]; omega
      have z0 : (0 : Int) ≤ (j : Int) := by omega
      have z1 : (j : Int) < (N0 : Int) := by omega
      have HWS := Lib.hid HB.out.size
      clear hs
      generalize [] ++ (K.r 0).take j = P at *
      obtain ⟨q, hq⟩ : ∃ q, q = P.length := ⟨_, rfl⟩
      rw [← hq] at hle HO ⊢
      have HQ := Lib.hid hq
      clear hq
      go_wp2_with (at_builtin; refine wpList_append_lies _ rfl _ _ 22 rfl w.heap.size 9 i0 (.string ByteArray.empty) 1 16 Try.underlying22 hi0 hz0 hz1 hz2 rfl (by decide) (.slice gA q gc) q _ rfl (HO.out.alloc _) ⟨wr.heap.size, 0, none⟩ 1 1 [.string s] rfl rfl (World.news_of_block (cs := #[.string s]) (heap_alloc_new wr _)) (by simp [Value.oneCell']) (by omega) (by unfold maxLen; omega) (by omega) (by simp; have := HWS.out; omega) (wr.heap.size + 1) (by simp) ?_; intro f' cf' w3 hown hgr hat hlt3; have hb3 := HB.out.grown (Li.grown_al hgr) HWS.out (fun g hg => (HO.out.lt g hg).1); have HO3 := Lib.hid hown; have HB3 := Lib.hid hb3; clear hown hgr hat hlt3 hb3)
      go_roundg (N0 - (j + 1))
      case measure => rw [HGK.out]; omega
      case rel => exact ⟨j + 1, hjl, rfl, rfl, by rw [HW.out, List.length_append, ← HQ.out, List.map_append]; exact HO3.out, HB3.out⟩

set_option maxHeartbeats 800000 in
theorem ref_ghosts (h : Ref w b F c K) : Calls Try.prog 37 #[.pointer (some ⟨b, 0, none⟩)] w (Texts (gho K) w) := by
  have hi := h.inv
  obtain ⟨v, Fs, hm, -⟩ := h
  obtain ⟨A, p, hs⟩ := hm.rs
  have c2 : w.cell? ⟨b, 2, none⟩ = some (.slice (A 2) (K.r 2).length (p 2)) := hs.c2
  have s2 : Sl w (.slice (A 2) (K.r 2).length (p 2)) (Fs 2) (K.r 2) := hs.sl 2 (by omega)
  have hl := hi.len1
  have W0 : Hid (Below w.heap.size w (w.alloc (.cells #[] 9))) := Lib.hid ((Below.refl _ _).alloc (Nat.le_refl _) _)
  have S0 := Lib.hid (s2.below W0.out)
  have OW : Hid ((w.alloc (.cells #[] 9)).ownsRow w.heap.size 9 1 (.slice (some ⟨w.heap.size, 0, none⟩) 0 0) 0 []) := Lib.hid (World.ownsRow_lit w #[] 0 (Nat.le_refl _) (by unfold maxLen; omega) rfl)
  have b1 : (K.r 2).length ≤ 1000 * 1000 := by omega
  have d2 := cell_below W0.out c2
  clear hm hs hi hl s2
  go_enter Try.func37, Try.ntmps37
  go_wp2_with (at_builtin; refine wpList_cat rfl _ _ rfl OW.out W0.out.size S0.out (by omega) b1 rfl rfl ?_; intro v' w2 ho hg; have hb2 := W0.out.grown hg W0.out.size (fun g hg => (OW.out.lt g hg).1); have HO2 := Lib.hid ho; have HB2 := Lib.hid hb2; clear ho hg hb2)
  go_ret
  exact ⟨v', rfl, by simpa [gho] using HO2.out, HB2.out⟩
end

end Go.Proofs.Ytodiceafnkojiaa.Rf
