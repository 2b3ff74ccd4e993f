/- 2Q's reference in memory: Has, Evict. -/
import Derived.Test.YtjpoeblhibgjbaaQr
namespace Go.Proofs.Ytjpoeblhibgjbaa.Rf
open Go Go.RowKit Go.Proofs.Ytjpoeblhibgjbaa.K Go.Proofs.Ytjpoeblhibgjbaa.Sl Go.Proofs.Ytjpoeblhibgjbaa.Eg
open Go.Proofs.Ytjpoeblhibgjbaa.Li (more more_lt own_form')
open Go.Proofs.Ytjpoeblhibgjbaa.Rw (upd upd_same upd_other less less_same cell_below cell_upd)

section
variable {w0 w w' : World} {b c : Nat} {F : Nat → Prop} {v : Nat → Value} {Fs : Nat → Nat → Prop} {K : Ks}

theorem qhas_yes {A : Nat → Option Addr} {p : Nat → Nat} (hi : Inv c K) (h : RS w b c v Fs K A p) {r : Nat} (hr : r < 3) {key : ByteArray} (hk : key ∈ K r) :
    Calls Try.prog 65 #[.slice (A r) (K r).length (p r), .string key] w (Sl.Some (K r).length w) :=
  q_has_yes ((h.sl r hr).rstr (by have := lens hi r hr; omega)) (h.p_ r hr) (by have := lens hi r hr; omega) hk
theorem qhas_no {A : Nat → Option Addr} {p : Nat → Nat} (hi : Inv c K) (h : RS w b c v Fs K A p) {r : Nat} (hr : r < 3) {key : ByteArray} (hk : key ∉ K r) :
    Calls Try.prog 65 #[.slice (A r) (K r).length (p r), .string key] w fun e w' => e = .returned (.int .i64 (-1)) ∧ w = w' :=
  q_has_no ((h.sl r hr).rstr (by have := lens hi r hr; omega)) (h.p_ r hr) (by have := lens hi r hr; omega) hk

theorem ref_has (h : Ref w b F c K) (key : ByteArray) : Calls Try.prog 51 #[.pointer (some ⟨b, 0, none⟩), .string key] w fun e w' => e = .returned (.bool (has K key)) ∧ w = w' := by
  have hi := h.inv
  obtain ⟨v, Fs, hm, -⟩ := h
  obtain ⟨A, p, hs⟩ := hm.rs
  have c0 := hs.c0
  have c2 := hs.c2
  by_cases h0 : key ∈ K 0
  · have e : has K key = true := by simp [has, h0]
    rw [e]
    have H := Lib.hid (qhas_yes hi hs (r := 0) (by omega) h0)
    clear hm hs hi h0 e
    go_enter Try.func51, Try.ntmps51
    go_wp2_with fail
    refine H.out.mono ?_
    rintro e w1 ⟨⟨i, rfl, hi⟩, rfl⟩
    go_wp2_with fail
    go_ret
    exact ⟨rfl, rfl⟩
  · by_cases h2 : key ∈ K 2
    · have e : has K key = true := by simp [has, h2]
      rw [e]
      have H := Lib.hid (qhas_no hi hs (r := 0) (by omega) h0)
      have H2 := Lib.hid (qhas_yes hi hs (r := 2) (by omega) h2)
      clear hm hs hi h0 h2 e
      go_enter Try.func51, Try.ntmps51
      go_wp2_with fail
      refine H.out.mono ?_
      rintro e w1 ⟨rfl, rfl⟩
      go_wp2_with fail
      refine H2.out.mono ?_
      rintro e w1 ⟨⟨i, rfl, hi⟩, rfl⟩
      go_wp2_with fail
      go_ret
      exact ⟨rfl, rfl⟩
    · have e : has K key = false := by simp [has, h0, h2]
      rw [e]
      have H := Lib.hid (qhas_no hi hs (r := 0) (by omega) h0)
      have H2 := Lib.hid (qhas_no hi hs (r := 2) (by omega) h2)
      clear hm hs hi h0 h2 e
      go_enter Try.func51, Try.ntmps51
      go_wp2_with fail
      refine H.out.mono ?_
      rintro e w1 ⟨rfl, rfl⟩
      go_wp2_with fail
      refine H2.out.mono ?_
      rintro e w1 ⟨rfl, rfl⟩
      go_wp2_with fail
      go_ret
      exact ⟨rfl, rfl⟩

theorem max4 {c : Nat} (h : c ≤ 1024) : (if (1 : Int) < IntKind.i64.wrap ((c : Int) / 4) then IntKind.i64.wrap ((c : Int) / 4) else 1) = (kin c : Int) := by
  have e : IntKind.i64.wrap ((c : Int) / 4) = (c : Int) / 4 := IntWalk.i64_in _ (by omega)
  rw [e]
  unfold kin
  split <;> omega
theorem max2 {c : Nat} (h : c ≤ 1024) : (if (1 : Int) < IntKind.i64.wrap ((c : Int) / 2) then IntKind.i64.wrap ((c : Int) / 2) else 1) = (kout c : Int) := by
  have e : IntKind.i64.wrap ((c : Int) / 2) = (c : Int) / 2 := IntWalk.i64_in _ (by omega)
  rw [e]
  unfold kout
  split <;> omega

theorem max4' (c : Nat) : (if (1 : Int) < (c : Int) / 4 then (c : Int) / 4 else 1) = (kin c : Int) := by
  unfold kin
  split <;> omega
theorem max2' (c : Nat) : (if (1 : Int) < (c : Int) / 2 then (c : Int) / 2 else 1) = (kout c : Int) := by
  unfold kout
  split <;> omega

/-- An act's end. -/
def Did (v : Value) (b : Nat) (F : Nat → Prop) (c : Nat) (K' : Ks) (w : World) (e : Ending) (w' : World) : Prop :=
  e = .returned v ∧ ∃ F', Ref w' b F' c K' ∧ Step F w F' w'

theorem revict_none (h : Ref w b F c K) (h0 : len K = 0) :
    Calls Try.prog 50 #[.pointer (some ⟨b, 0, none⟩)] w fun e w' => e = .returned (.tuple #[.string ByteArray.empty, .bool false]) ∧ Below w.heap.size w w' := by
  have L := Lib.hid (ref_len h)
  rw [h0] at L
  clear h h0
  go_enter Try.func50, Try.ntmps50
  go_wp2_with fail
  refine L.out.mono ?_
  rintro e w4 ⟨rfl, hb4⟩
  go_wp2_with fail
  go_ret2
  exact ⟨rfl, hb4⟩

theorem first_cell {A : Nat → Option Addr} {p : Nat → Nat} (h : RS w b c v Fs K A p) {r : Nat} (hr : r < 3) {k : ByteArray} {t : List ByteArray} (hK : K r = k :: t) :
    ∃ g o, A r = some ⟨g, o, none⟩ ∧ w.cell? ⟨g, o, none⟩ = some (.string k) := by
  obtain ⟨g, o, h1, h2⟩ := (h.sl r hr).cell (j := 0) (x := k) (by rw [hK]; rfl)
  exact ⟨g, o, h1, h2⟩
theorem rcut {A : Nat → Option Addr} {p : Nat → Nat} (hi : Inv c K) (h : RS w b c v Fs K A p) {r : Nat} (hr : r < 3) (key : ByteArray) :
    Calls Try.prog 66 #[.slice (A r) (K r).length (p r), .string key] w (CutPost (K r) key w) :=
  q_cut ((h.sl r hr).rstr (by have := lens hi r hr; omega)) (h.p_ r hr) (by have := lens hi r hr; omega) key
theorem RM.cells (h : RM w0 b c F v Fs K w) : w.cell? ⟨b, 0, none⟩ = some (v 0) ∧ w.cell? ⟨b, 1, none⟩ = some (v 1) ∧ w.cell? ⟨b, 2, none⟩ = some (v 2) ∧ w.cell? ⟨b, 3, none⟩ = some (.int .i64 (c : Int)) :=
  ⟨by rw [cell_of h.blk]; rfl, by rw [cell_of h.blk]; rfl, by rw [cell_of h.blk]; rfl, by rw [cell_of h.blk]; rfl⟩
theorem RM.wr (h : RM w0 b c F v Fs K w) : ∀ o, w.frozen? ⟨b, o, none⟩ = false := free_of h.blk

/-- A row was cut and stored. -/
theorem RM.cutted {n : Nat} {v' : Value} (h : RM w0 b c F v Fs K w) {r : Nat} (hr : r < 3) {key : ByteArray} (hb : Below w.heap.size w w') (ho : w'.ownsRow w.heap.size 9 1 v' n ((without (K r) key).map .string)) :
    RM w0 b c F (Rw.upd v r v') (Rw.upd Fs r (fun j => v'.ownBlock = some j)) (Rw.upd K r (without (K r) key)) (w'.setCell ⟨b, r, none⟩ v') :=
  h.store hr ((Upd.of_below (F := fun _ => False) hb (fun i h1 h2 => by omega)).mono (fun _ _ h => h.elim)) (Sl.of_own ho (fun _ h => h)) (fun j hj => .inr (ho.lt j hj).1) (fun j hj => (ho.lt j hj).2)

theorem upd_less (h : Sep K) {r : Nat} (hr : r < 3) {key : ByteArray} (hk : key ∈ K r) : ∀ q, q < 3 → upd K r (without (K r) key) q = less K key q := by
  intro q hq
  by_cases e : q = r
  · rw [e, upd_same]; rfl
  · rw [upd_other _ _ e, h.apart hr hk hq e]

set_option maxHeartbeats 800000 in
theorem revict_am (h : Ref w b F c K) {k : ByteArray} {t : List ByteArray} (h0 : (K 0).length ≤ kin c) (h2 : K 2 = k :: t) :
    Calls Try.prog 50 #[.pointer (some ⟨b, 0, none⟩)] w (Did (.tuple #[.string k, .bool true]) b F c (less K k) w) := by
  have L := Lib.hid (ref_len h)
  have hp : (0 : Int) < (len K : Int) := by unfold len; rw [h2]; simp; omega
  have HI := Lib.hid h.inv
  have hc2 := h.inv.c2
  have hk2 : 0 < (K 2).length := by rw [h2]; simp
  obtain ⟨v, Fs, hm, -⟩ := h
  have HM := Lib.hid hm
  have H2 := Lib.hid h2
  clear hm h2
  generalize len K = n at *
  go_enter Try.func50, Try.ntmps50
  go_wp2_with fail
  refine L.out.mono ?_
  rintro e w1 ⟨rfl, hb1⟩
  have HM1 := Lib.hid (HM.out.below hb1)
  clear hb1
  obtain ⟨A, p, hs⟩ := HM1.out.rs
  have c0 := hs.c0
  have c2 := hs.c2
  have c3 := hs.c3
  clear hs
  obtain ⟨x, hx⟩ : ∃ x, x = (K 0).length := ⟨_, rfl⟩
  obtain ⟨y, hy⟩ : ∃ y, y = (K 2).length := ⟨_, rfl⟩
  rw [← hx] at c0 h0
  rw [← hy] at c2 hk2
  clear hx hy
  go_wp2_with fail
  have hq := max4 hc2
  have dA : decide (kin c < x) = false := by simp; omega
  have dY : ((y : Int) == 0) = false := by simp; omega
  go_quiet (fail)
  have HM2 := Lib.hid (HM1.out.drewN nq)
  clear c0 c2 c3
  obtain ⟨A, p, hs⟩ := HM2.out.rs
  obtain ⟨g, o, hA, hcell⟩ := first_cell hs (r := 2) (by omega) H2.out
  have c2 := hs.c2
  have CT := rcut HI.out hs (r := 2) (by omega) k
  rw [hA] at c2 CT
  have CUT := Lib.hid CT
  clear hs hA CT
  generalize p 2 = p2 at *
  have z0 : (0 : Int) < ((K 2).length : Int) := by rw [H2.out]; simp
  generalize (K 2).length = y2 at *
  have z1 : 0 < y2 := by omega
  go_wp2_with fail
  refine CUT.out.mono ?_
  rintro e w3 ⟨v', rfl, ho, hb3, -⟩
  obtain ⟨A', c', rfl⟩ := own_form' ho
  have HM3 := Lib.hid (HM2.out.below hb3)
  have HE := Lib.hid (HM2.out.cutted (by omega) hb3 ho)
  have d2 := (HM3.out.cells).2.2.1
  have df := HM3.out.wr
  clear ho hb3
  go_wp2_with fail
  go_ret2
  have hi := HI.out
  exact ⟨rfl, _, (HE.out.same (upd_less hi.sep (by omega) (by rw [H2.out]; exact List.mem_cons_self ..))).done (hi.less k)⟩

/-- The loop behind Evict. -/
def RTrim (w0 : World) (b c : Nat) (F : Nat → Prop) (P : Ks) (kk : Nat) (w : World) : Prop :=
  ∃ v Fs Q, RM w0 b c F v Fs Q w ∧ ((kk = 1 ∧ Q = P ∧ kout c < (P 1).length) ∨ (kk = 0 ∧ Q = trim c P ∧ (trim c P 1).length ≤ kout c))
theorem rtrim_start {P : Ks} (h : RM w0 b c F v Fs P w) : ∃ kk, RTrim w0 b c F P kk w := by
  by_cases e : kout c < (P 1).length
  · exact ⟨1, v, Fs, P, h, .inl ⟨rfl, rfl, e⟩⟩
  · refine ⟨0, v, Fs, P, h, .inr ⟨rfl, ?_, ?_⟩⟩
    · unfold trim; rw [if_neg e]
    · unfold trim; rw [if_neg e]; omega

/-- A row got one more key and was stored. -/
theorem RM.pushed {v' : Value} (h : RM w0 b c F v Fs K w) {r : Nat} (hr : r < 3) {key : ByteArray} (hp : Pushed w (Fs r) (K r) key v' w') :
    RM w0 b c F (Rw.upd v r v') (Rw.upd Fs r (fun j => v'.ownBlock = some j)) (Rw.upd K r (K r ++ [key])) (w'.setCell ⟨b, r, none⟩ v') :=
  h.store hr hp.upd hp.sl hp.new hp.lt

set_option maxHeartbeats 1600000 in
theorem revict_in (h : Ref w b F c K) {k : ByteArray} {t : List ByteArray} (h0 : ¬ ((K 0).length ≤ kin c ∧ 0 < (K 2).length)) (h2 : K 0 = k :: t) :
    Calls Try.prog 50 #[.pointer (some ⟨b, 0, none⟩)] w (Did (.tuple #[.string k, .bool true]) b F c (trim c (push K 1 k)) w) := by
  have L := Lib.hid (ref_len h)
  have hp : (0 : Int) < (len K : Int) := by unfold len; rw [h2]; simp; omega
  have HI := Lib.hid h.inv
  have hc2 := h.inv.c2
  have IT0 : Hid (Inv c (trim c (push K 1 k))) := Lib.hid (inv_trim h.inv h0 h2)
  obtain ⟨v, Fs, hm, -⟩ := h
  have HM := Lib.hid hm
  have H2 := Lib.hid h2
  clear hm h2
  generalize len K = n at *
  go_enter Try.func50, Try.ntmps50
  go_wp2_with fail
  refine L.out.mono ?_
  rintro e w1 ⟨rfl, hb1⟩
  have HM1 := Lib.hid (HM.out.below hb1)
  clear hb1
  obtain ⟨A, p, hs⟩ := HM1.out.rs
  have c0 := hs.c0
  have c2 := hs.c2
  have c3 := hs.c3
  clear hs
  obtain ⟨x, hx⟩ : ∃ x, x = (K 0).length := ⟨_, rfl⟩
  obtain ⟨y, hy⟩ : ∃ y, y = (K 2).length := ⟨_, rfl⟩
  rw [← hx] at c0 h0
  rw [← hy] at c2 h0
  clear hx hy
  have hq := max4 hc2
  by_cases hA : kin c < x
  · have dA : decide (kin c < x) = true := by simp; omega
    go_wp2_with fail
    go_quiet (fail)
    have HM2 := Lib.hid (HM1.out.drewN nq)
    clear c0 c2 c3
    obtain ⟨A, p, hs⟩ := HM2.out.rs
    obtain ⟨g, o, hA, hcell⟩ := first_cell hs (r := 0) (by omega) H2.out
    have c0 := hs.c0
    have CT := rcut HI.out hs (r := 0) (by omega) k
    rw [hA] at c0 CT
    have CUT := Lib.hid CT
    clear hs hA CT
    generalize p 0 = p0 at *
    have z0 : (0 : Int) < ((K 0).length : Int) := by rw [H2.out]; simp
    generalize (K 0).length = y2 at *
    have z1 : 0 < y2 := by omega
    go_wp2_with fail
    refine CUT.out.mono ?_
    rintro e w3 ⟨v', rfl, ho, hb3, -⟩
    obtain ⟨A', c', rfl⟩ := own_form' ho
    have HM3 := Lib.hid (HM2.out.below hb3)
    have HE := Lib.hid (HM2.out.cutted (by omega) hb3 ho)
    obtain ⟨A, p, hs⟩ := HM3.out.rs
    have d0 := hs.c0
    have d1 := hs.c1
    have df := HM3.out.wr
    have HM4 := Lib.hid (HE.out.same (upd_less HI.out.sep (by omega) (by rw [H2.out]; exact List.mem_cons_self ..)))
    have sl := HM4.out.sl 1 (by omega)
    rw [upd_other _ _ (by omega), hs.v_ 1 (by omega)] at sl
    have SL := Lib.hid sl
    have LT := Lib.hid (HM4.out.lt 1 (by omega))
    have LN : Hid ((less K k 1).length ≤ 1000000) := Lib.hid (by have := lens (HI.out.less k) 1 (by omega); omega)
    clear ho hb3 hs sl
    generalize A 0 = A0 at *
    generalize A 1 = A1 at *
    generalize p 0 = p0' at *
    generalize p 1 = p1 at *
    generalize (K 1).length = n1 at *
    go_wp2_with (at_builtin; refine wpList_push rfl _ _ rfl SL.out LN.out LT.out k 1 w3.heap.size (by simp) rfl rfl ?_; intro v' w5 hp; obtain ⟨A'', c'', hv, -⟩ := hp.sl.form; subst hv; have HP := Lib.hid hp; have HB5 := Lib.hid (hp.upd.get HM4.out.blk (HM4.out.nb 1 (by omega))); have q1 := cell_of HB5.out 1; have qf := free_of HB5.out; clear hp)
    have HM6 := Lib.hid (HM4.out.pushed (by omega) HP.out)
    obtain ⟨kk, hkk⟩ := rtrim_start HM6.out
    have SP : Hid (Sep (push K 1 k)) := Lib.hid (HI.out.sep.push (HI.out.small 0 (by omega) k (by rw [H2.out]; exact List.mem_cons_self ..)))
    have HP1 : Hid ((push K 1 k 1).length ≤ kout c + 1) := Lib.hid (by rw [push_len]; have := Rw.less_length K k 1; have := HI.out.gh; omega)
    have hko : kout c ≤ 1024 := by unfold kout; omega
    have hq2 := Lib.hid (max2 hc2)
    go_loopg [] kk (fun kk wr => RTrim w b c F (push K 1 k) kk wr)
    case atStart =>
      rw [List.length_append, List.length_singleton] at hkk
      exact hkk
    case round =>
      obtain ⟨v, Fs, Q, hm, hr⟩ := hrel
      have HMQ := Lib.hid hm
      clear hm
      obtain ⟨A, p, hs⟩ := HMQ.out.rs
      have c1 := hs.c1
      have c3 := hs.c3
      have df := HMQ.out.wr
      have hq2 := hq2.out
      have hq2' := max2' c
      rcases hr with ⟨rfl, rfl, hlt⟩ | ⟨rfl, rfl, hle⟩
      · obtain ⟨x0, y0, t0, hP⟩ : ∃ x0 y0 t0, push K 1 k 1 = x0 :: y0 :: t0 := by
          have h1 := kout_pos c
          match hh : push K 1 k 1 with
          | [] => rw [hh] at hlt; simp at hlt
          | [_] => rw [hh] at hlt; simp at hlt; omega
          | x0 :: y0 :: t0 => exact ⟨x0, y0, t0, rfl⟩
        have sl := hs.sl 1 (by omega)
        have HTR : Hid (trim c (push K 1 k) 1 = y0 :: t0) := Lib.hid (by rw [trim_1 SP.out, if_pos hlt, hP]; rfl)
        have TLE : Hid ((trim c (push K 1 k) 1).length ≤ kout c) := Lib.hid (by rw [trim_1 SP.out, if_pos hlt, List.length_tail]; have := HP1.out; omega)
        have HTN : Hid (∀ q, q < 3 → q ≠ 1 → trim c (push K 1 k) q = push K 1 k q) := Lib.hid (fun q hq h => trim_02 SP.out c hq h)
        have HPL : Hid ((push K 1 k 1).length ≤ kout c + 1) := HP1
        have hlen : (push K 1 k 1).length = t0.length + 2 := by rw [hP]; rfl
        rw [hlen] at c1 sl hlt
        have hlen0 := hlen
        rw [hP] at sl
        obtain ⟨g1, o1, hA1, -, hp2, hp3, hp4, sl'⟩ := sl.drop
        have SL' := Lib.hid sl'
        rw [hA1] at c1
        clear hs sl sl' hA1 hP hlen
        generalize p 1 = p1 at *
        obtain ⟨m, hm⟩ : ∃ m, m = t0.length := ⟨_, rfl⟩
        rw [← hm] at c1 hlt hp3 SL'
        have HMM := Lib.hid hm
        rw [← hm] at hlen0
        clear hm
        unfold maxLen at hp4
        have i1 : (2 : Int) ≤ (p1 : Int) := by omega
        have i2 : ((m + 2 : Nat) : Int) ≤ (p1 : Int) := by omega
        have dL : decide ((kout c : Int) < (m : Int) + 2) = true := by simp; omega
        have hmm : m ≤ 2000 := by have := HP1.out; rw [hlen0] at this; omega
        clear hlen0
        go_wp2_with fail
        go_quiet (fail)
        go_wp2_with fail
        have HM7 := Lib.hid ((HMQ.out.drewN nq).store (r := 1) (by omega) (Upd.refl _ _) SL'.out (fun j hj => .inl hj) (fun j hj => HMQ.out.lt 1 (by omega) j hj))
        go_roundg 0
        case measure => omega
        case rel =>
          refine ⟨_, _, _, HM7.out.same ?_, .inr ⟨rfl, rfl, TLE.out⟩⟩
          intro q hq
          by_cases e : q = 1
          · subst e; rw [upd_same, HTR.out]
          · rw [upd_other _ _ e, HTN.out q hq e]
      · have IT : Hid (Inv c (trim c (push K 1 k))) := Lib.hid IT0.out
        clear hs
        generalize (trim c (push K 1 k) 1).length = L1 at *
        have dL : decide (kout c < L1) = false := by simp; omega
        go_wp2_with fail
        go_quiet (fail)
        go_wp2_with fail
        go_ret2
        exact ⟨rfl, _, (HMQ.out.drewN nq).done IT.out⟩
  · have dA : decide (kin c < x) = false := by simp; omega
    have hy : y = 0 := by omega
    subst hy
    go_wp2_with fail
    go_quiet (fail)
    have HM2 := Lib.hid (HM1.out.drewN nq)
    clear c0 c2 c3
    obtain ⟨A, p, hs⟩ := HM2.out.rs
    obtain ⟨g, o, hA, hcell⟩ := first_cell hs (r := 0) (by omega) H2.out
    have c0 := hs.c0
    have CT := rcut HI.out hs (r := 0) (by omega) k
    rw [hA] at c0 CT
    have CUT := Lib.hid CT
    clear hs hA CT
    generalize p 0 = p0 at *
    have z0 : (0 : Int) < ((K 0).length : Int) := by rw [H2.out]; simp
    generalize (K 0).length = y2 at *
    have z1 : 0 < y2 := by omega
    go_wp2_with fail
    refine CUT.out.mono ?_
    rintro e w3 ⟨v', rfl, ho, hb3, -⟩
    obtain ⟨A', c', rfl⟩ := own_form' ho
    have HM3 := Lib.hid (HM2.out.below hb3)
    have HE := Lib.hid (HM2.out.cutted (by omega) hb3 ho)
    obtain ⟨A, p, hs⟩ := HM3.out.rs
    have d0 := hs.c0
    have d1 := hs.c1
    have df := HM3.out.wr
    have HM4 := Lib.hid (HE.out.same (upd_less HI.out.sep (by omega) (by rw [H2.out]; exact List.mem_cons_self ..)))
    have sl := HM4.out.sl 1 (by omega)
    rw [upd_other _ _ (by omega), hs.v_ 1 (by omega)] at sl
    have SL := Lib.hid sl
    have LT := Lib.hid (HM4.out.lt 1 (by omega))
    have LN : Hid ((less K k 1).length ≤ 1000000) := Lib.hid (by have := lens (HI.out.less k) 1 (by omega); omega)
    clear ho hb3 hs sl
    generalize A 0 = A0 at *
    generalize A 1 = A1 at *
    generalize p 0 = p0' at *
    generalize p 1 = p1 at *
    generalize (K 1).length = n1 at *
    go_wp2_with (at_builtin; refine wpList_push rfl _ _ rfl SL.out LN.out LT.out k 1 w3.heap.size (by simp) rfl rfl ?_; intro v' w5 hp; obtain ⟨A'', c'', hv, -⟩ := hp.sl.form; subst hv; have HP := Lib.hid hp; have HB5 := Lib.hid (hp.upd.get HM4.out.blk (HM4.out.nb 1 (by omega))); have q1 := cell_of HB5.out 1; have qf := free_of HB5.out; clear hp)
    have HM6 := Lib.hid (HM4.out.pushed (by omega) HP.out)
    obtain ⟨kk, hkk⟩ := rtrim_start HM6.out
    have SP : Hid (Sep (push K 1 k)) := Lib.hid (HI.out.sep.push (HI.out.small 0 (by omega) k (by rw [H2.out]; exact List.mem_cons_self ..)))
    have HP1 : Hid ((push K 1 k 1).length ≤ kout c + 1) := Lib.hid (by rw [push_len]; have := Rw.less_length K k 1; have := HI.out.gh; omega)
    have hko : kout c ≤ 1024 := by unfold kout; omega
    have hq2 := Lib.hid (max2 hc2)
    go_loopg [] kk (fun kk wr => RTrim w b c F (push K 1 k) kk wr)
    case atStart =>
      rw [List.length_append, List.length_singleton] at hkk
      exact hkk
    case round =>
      obtain ⟨v, Fs, Q, hm, hr⟩ := hrel
      have HMQ := Lib.hid hm
      clear hm
      obtain ⟨A, p, hs⟩ := HMQ.out.rs
      have c1 := hs.c1
      have c3 := hs.c3
      have df := HMQ.out.wr
      have hq2 := hq2.out
      have hq2' := max2' c
      rcases hr with ⟨rfl, rfl, hlt⟩ | ⟨rfl, rfl, hle⟩
      · obtain ⟨x0, y0, t0, hP⟩ : ∃ x0 y0 t0, push K 1 k 1 = x0 :: y0 :: t0 := by
          have h1 := kout_pos c
          match hh : push K 1 k 1 with
          | [] => rw [hh] at hlt; simp at hlt
          | [_] => rw [hh] at hlt; simp at hlt; omega
          | x0 :: y0 :: t0 => exact ⟨x0, y0, t0, rfl⟩
        have sl := hs.sl 1 (by omega)
        have HTR : Hid (trim c (push K 1 k) 1 = y0 :: t0) := Lib.hid (by rw [trim_1 SP.out, if_pos hlt, hP]; rfl)
        have TLE : Hid ((trim c (push K 1 k) 1).length ≤ kout c) := Lib.hid (by rw [trim_1 SP.out, if_pos hlt, List.length_tail]; have := HP1.out; omega)
        have HTN : Hid (∀ q, q < 3 → q ≠ 1 → trim c (push K 1 k) q = push K 1 k q) := Lib.hid (fun q hq h => trim_02 SP.out c hq h)
        have HPL : Hid ((push K 1 k 1).length ≤ kout c + 1) := HP1
        have hlen : (push K 1 k 1).length = t0.length + 2 := by rw [hP]; rfl
        rw [hlen] at c1 sl hlt
        have hlen0 := hlen
        rw [hP] at sl
        obtain ⟨g1, o1, hA1, -, hp2, hp3, hp4, sl'⟩ := sl.drop
        have SL' := Lib.hid sl'
        rw [hA1] at c1
        clear hs sl sl' hA1 hP hlen
        generalize p 1 = p1 at *
        obtain ⟨m, hm⟩ : ∃ m, m = t0.length := ⟨_, rfl⟩
        rw [← hm] at c1 hlt hp3 SL'
        have HMM := Lib.hid hm
        rw [← hm] at hlen0
        clear hm
        unfold maxLen at hp4
        have i1 : (2 : Int) ≤ (p1 : Int) := by omega
        have i2 : ((m + 2 : Nat) : Int) ≤ (p1 : Int) := by omega
        have dL : decide ((kout c : Int) < (m : Int) + 2) = true := by simp; omega
        have hmm : m ≤ 2000 := by have := HP1.out; rw [hlen0] at this; omega
        clear hlen0
        go_wp2_with fail
        go_quiet (fail)
        go_wp2_with fail
        have HM7 := Lib.hid ((HMQ.out.drewN nq).store (r := 1) (by omega) (Upd.refl _ _) SL'.out (fun j hj => .inl hj) (fun j hj => HMQ.out.lt 1 (by omega) j hj))
        go_roundg 0
        case measure => omega
        case rel =>
          refine ⟨_, _, _, HM7.out.same ?_, .inr ⟨rfl, rfl, TLE.out⟩⟩
          intro q hq
          by_cases e : q = 1
          · subst e; rw [upd_same, HTR.out]
          · rw [upd_other _ _ e, HTN.out q hq e]
      · have IT : Hid (Inv c (trim c (push K 1 k))) := Lib.hid IT0.out
        clear hs
        generalize (trim c (push K 1 k) 1).length = L1 at *
        have dL : decide (kout c < L1) = false := by simp; omega
        go_wp2_with fail
        go_quiet (fail)
        go_wp2_with fail
        go_ret2
        exact ⟨rfl, _, (HMQ.out.drewN nq).done IT.out⟩

theorem Did.of_below {v : Value} {e : Ending} {w' : World} (h : Ref w b F c K) (he : e = .returned v) (hb : Below w.heap.size w w') : Did v b F c K w e w' :=
  ⟨he, F, h.below hb, Step.of_below hb⟩

theorem ref_evict (h : Ref w b F c K) :
    Calls Try.prog 50 #[.pointer (some ⟨b, 0, none⟩)] w (Did (.tuple #[.string (evict c K).1, .bool (evict c K).2.1]) b F c (evict c K).2.2 w) := by
  rcases evict_cases h.inv with ⟨h0, he⟩ | ⟨-, k, t, h1, h2, he, -⟩ | ⟨-, h1, k, t, h2, he, -⟩
  · rw [he]
    exact (revict_none h h0).mono fun _ _ ⟨h1, h2⟩ => Did.of_below h h1 h2
  · rw [he]
    exact revict_am h h1 h2
  · rw [he]
    exact revict_in h h1 h2
end

end Go.Proofs.Ytjpoeblhibgjbaa.Rf
