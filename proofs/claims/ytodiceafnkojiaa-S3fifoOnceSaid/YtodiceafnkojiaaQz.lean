/- S3-FIFO's reference in memory: fromM, Evict. -/
import Derived.Test.YtodiceafnkojiaaQt
import Derived.Deep.RegionLaw
namespace Go.Proofs.Ytodiceafnkojiaa.Rf
open Go Go.RowKit Go.Proofs.Ytodiceafnkojiaa.K Go.Proofs.Ytodiceafnkojiaa.Sl Go.Proofs.Ytodiceafnkojiaa.Eg
open Go.Proofs.Ytodiceafnkojiaa.Li (more more_lt own_form')
open Go.Proofs.Ytodiceafnkojiaa.Rw (upd upd_same upd_other less less_same less_not cell_below cell_upd)
open Go.Proofs.Ytodiceafnkojiaa.Sc (Cs fl RC)

section
variable {w0 w w' : World} {b c : Nat} {F : Nat → Prop} {v : Nat → Value} {Fs : Nat → Nat → Prop} {K : Ks} {X : X3}

/-- A row lost a cell and was stored. -/
theorem RM.cutted {n : Nat} {v' : Value} {cs : Cs} (h : RM w0 b c F v Fs X w) {r : Nat} (hr : r < 3) (hb : Below w.heap.size w w') (ho : w'.ownsRow w.heap.size 77 2 v' n (fl cs)) :
    RM w0 b c F (Rw.upd v r v') (Rw.upd Fs r (fun j => v'.ownBlock = some j)) (Rw.upd X r (.inl cs)) (w'.setCell ⟨b, r, none⟩ v') :=
  h.store hr (xs := .inl cs) ((Upd.of_below (F := fun _ => False) hb (fun i h1 h2 => by omega)).mono (fun _ _ h => h.elim)) (Sc.Sc.of_own ho (fun _ h => h)) (fun j hj => .inr (ho.lt j hj).1) (fun j hj => (ho.lt j hj).2)

/-- A row got one more cell and was stored. -/
theorem RM.pushed {v' : Value} {cs : Cs} {x : ByteArray × Nat} (h : RM w0 b c F v Fs X w) {r : Nat} (hr : r < 3) (hp : Sc.Pushed w (Fs r) cs x v' w') :
    RM w0 b c F (Rw.upd v r v') (Rw.upd Fs r (fun j => v'.ownBlock = some j)) (Rw.upd X r (.inl (cs ++ [x]))) (w'.setCell ⟨b, r, none⟩ v') :=
  h.store hr (xs := .inl (cs ++ [x])) hp.upd hp.sl hp.new hp.lt

/-- without, of the first cell. -/
theorem without_0 {A : Option Addr} {cap : Nat} {F1 : Nat → Prop} {xs : Cs} {n : Nat} (h : Sc.Sc w (.slice A n cap) F1 xs) (hn : n = xs.length) (h0 : 0 < xs.length) (hl : xs.length ≤ 100000) :
    Calls Try.prog 72 #[.slice A n cap, .int .i64 0] w (Sc.WPost xs 0 w) := by
  subst hn
  exact Sc.q_without (i := 0) h h0 hl

/-- Row m, as far as it was gone through: what comes out is r. -/
def FRel (w0 : World) (b c : Nat) (F : Nat → Prop) (r : ByteArray × Ks) (kk : Nat) (w : World) : Prop :=
  ∃ f Kj v Fs, kk = f ∧ RM w0 b c F v Fs (XK Kj) w ∧ Inv c Kj ∧ 0 < (Kj.r 1).length ∧ weight Kj ≤ f ∧ fromMain f Kj = r

set_option maxHeartbeats 1600000 in
theorem fromM_at (h : RM w0 b c F v Fs (XK K) w) (hi : Inv c K) (hp : 0 < (K.r 1).length) :
    Calls Try.prog 75 #[.pointer (some ⟨b, 0, none⟩)] w (GPost w0 b c F (XK (fromMain (weight K) K).2) (.string (fromMain (weight K) K).1)) := by
  have HR : Hid (FRel w0 b c F (fromMain (weight K) K) (weight K) w) := Lib.hid ⟨_, K, v, Fs, rfl, h, hi, hp, Nat.le_refl _, rfl⟩
  clear h hi hp
  generalize fromMain (weight K) K = r at *
  generalize weight K = f0 at *
  go_enter Try.func75, Try.ntmps75
  go_wp2_with fail
  go_loopg [] f0 (fun kk wr => FRel w0 b c F r kk wr)
  case atStart => exact HR.out
  case round =>
    clear HR
    obtain ⟨f, Kj, v, Fs, hgk, hm, hi, hp, hw, hr⟩ := hrel
    have HGK := Lib.hid hgk
    clear hgk
    obtain ⟨t, ht⟩ := oldest_cons (Kj.r 1) hp
    have hwk := weight_head ht
    have hks : (oldest (Kj.r 1)).size ≤ 40 := hi.head_small (by omega) ht
    have hn3 := hi.cnt (oldest (Kj.r 1))
    have HG := Lib.hid (fun h => fromMain_goes (f := f) (K := Kj) h)
    have HN := Lib.hid (fun f (h : Kj.n (oldest (Kj.r 1)) ≠ 0) => fromMain_next (f := f) h)
    have hl1 := lens hi 1 (by omega)
    generalize oldest (Kj.r 1) = k at *
    have HT := Lib.hid ht
    have HI := Lib.hid hi
    have HW := Lib.hid hw
    have HRR := Lib.hid hr
    have HM := Lib.hid hm
    have HX1 := Lib.hid (xk_goes1 hi ht)
    have HX2 := Lib.hid (fun m => xk_move11 hi ht m)
    obtain ⟨A, p, hs⟩ := hm.rs
    have c1 : wr.cell? ⟨b, 1, none⟩ = some (.slice (A 1) (cl Kj 1).length (p 1)) := hs.c1
    have s1 : Sc.Sc wr (.slice (A 1) (cl Kj 1).length (p 1)) (Fs 1) (cl Kj 1) := hs.sl 1 (by omega)
    obtain ⟨g, o, hA, k0, k1⟩ := s1.rc 0 (k, Kj.n k) (by rw [cl_cons ht]; rfl)
    rw [Nat.zero_mul, Nat.add_zero] at k0 k1
    dsimp only at k0 k1
    rw [hA] at c1 s1
    have hlen : (cl Kj 1).length = t.length + 1 := by rw [cl_cons ht]; simp
    have hl : (cl Kj 1).length ≤ 100000 := by rw [cl_length]; omega
    generalize p 1 = p1 at *
    obtain ⟨N, hN⟩ : ∃ N, N = (cl Kj 1).length := ⟨_, rfl⟩
    rw [← hN] at c1 s1
    have hN0 : 0 < N := by omega
    have HS1 := Lib.hid s1
    have HN1 := Lib.hid hN
    have HLL := Lib.hid hl
    have z0 : (0 : Int) < (N : Int) := by omega
    have HLE : Hid (((cl Kj 1).eraseIdx 0).length ≤ 1000000) := Lib.hid (by have := List.length_eraseIdx_le (cl Kj 1) 0; omega)
    have hbw := lt_of_block hm.blk
    clear hm hi hp hw ht hr hs hA s1 hlen hl hl1 hN
    generalize hn : Kj.n k = n at *
    have hb1 : Below wr.heap.size wr (wr.alloc (.cells #[.string k, .int .i64 (n : Int)] 77)) := (Below.refl _ _).alloc (Nat.le_refl _) _
    have HM1 := Lib.hid (HM.out.below hb1)
    have HA := Lib.hid (block_new wr (.cells #[.string k, .int .i64 (n : Int)] 77))
    have HW0 := Lib.hid (without_0 (HS1.out.below hb1) HN1.out (by rw [← HN1.out]; exact hN0) HLL.out)
    have d1 := cell_below hb1 c1
    clear hb1
    go_wp2_with fail
    refine HW0.out.mono ?_
    rintro e w2 ⟨v', rfl, ho, hb2⟩
    obtain ⟨A', c', rfl⟩ := own_form' ho
    have HM2 := Lib.hid (HM1.out.below hb2)
    have HM4 := Lib.hid (HM1.out.cutted (r := 1) (by omega) hb2 ho)
    have e1 := HM2.out.cells.2.1
    have ef := HM2.out.wr
    have ha2 := (hb2.block wr.heap.size (lt_of_block HA.out)).trans HA.out
    have ha4 := block_other (p := ⟨b, 1, none⟩) (v := .slice A' ((cl Kj 1).length - 1) c') (show wr.heap.size ≠ b by omega) ha2
    obtain ⟨a0, a1, -⟩ := In.two_cells ha4
    have hl2 : (cl Kj 1).length - 1 ≤ 100000 := by have := HLL.out; omega
    clear ho hb2 ha2
    generalize (cl Kj 1).length - 1 = n' at *
    cases n with
    | zero =>
      go_wp2_with fail
      go_ret
      rw [← HRR.out, HG.out (by first | rfl | trivial)]
      exact ⟨rfl, _, _, HM4.out.same HX1.out⟩
    | succ m =>
      obtain ⟨f', rfl⟩ : ∃ f', f = f' + 1 := ⟨f - 1, by have := HW.out; omega⟩
      obtain ⟨i1, i2, i3, i4, i5, i6, i7⟩ := inv_move11 HI.out HT.out hn
      have I1 := Lib.hid i1
      have I3 : Hid (0 < ((comes Kj 1 k m).r 1).length) := Lib.hid (by rw [i3]; simp)
      have I7 := Lib.hid i7
      have HN' : Hid (fromMain f' (comes Kj 1 k m) = r) := Lib.hid (by rw [← HRR.out, HN.out f' (by omega), Nat.add_sub_cancel])
      have e2 : ((m + 1 : Nat) : Int) - 1 = (m : Int) := by omega
      have q41 : (w2.setCell ⟨b, 1, none⟩ (.slice A' n' c')).cell? ⟨b, 1, none⟩ = some (.slice A' n' c') := (cell_of HM4.out.blk 1).trans (by rw [upd_same]; rfl)
      have q42 := fun ob => cell_below ((Below.refl _ _).alloc (Nat.le_refl _) ob) q41
      have a02 := fun ob => cell_below ((Below.refl _ _).alloc (Nat.le_refl _) ob) a0
      have a12 := fun ob => cell_below ((Below.refl _ _).alloc (Nat.le_refl _) ob) a1
      have e3 : IntKind.i64.wrap (m : Int) = (m : Int) := IntWalk.i64_in _ (by omega)
      have HP4 := Lib.hid (HM4.out.drewN 1)
      obtain ⟨A4, p4, hs4⟩ := HP4.out.rs
      have SL := Lib.hid (HP4.out.sl 1 (by omega))
      have LT := Lib.hid (HP4.out.lt 1 (by omega))
      have NB := Lib.hid (HP4.out.nb 1 (by omega))
      rw [upd_same, upd_same, upd_same] at SL
      rw [upd_same] at LT NB
      clear i1 i2 i3 i4 i5 i6 i7 hs4
      go_wp2_with fail
      go_region_law (refine Sc.step_push (by rfl) (.tmp 27) (.tmp 34) (by rfl) (xs := (cl Kj 1).eraseIdx 0) SL.out HLE.out LT.out k m (m : Int) rfl 1 w2.heap.size (by simp [World.setCell]) (by rfl) (by rfl) ?_; intro v'' w5 hp; obtain ⟨A'', c'', hv, -⟩ := hp.sl.form; generalize ((cl Kj 1).eraseIdx 0 ++ [(k, m)]).length = L5 at hv; subst hv; have HP := Lib.hid hp; have HB5 := Lib.hid (hp.upd.get HP4.out.blk NB.out); have q1 := cell_of HB5.out 1; have qf := free_of HB5.out; clear hp)
      all_goals
        go_wp2_with fail
        go_roundg f'
        case measure => rw [HGK.out]; omega
        case rel =>
          have hz := (HP4.out.pushed (r := 1) (by omega) HP.out).same (HX2.out m)
          exact ⟨f', _, _, _, rfl, hz, I1.out, I3.out, by have := HW.out; have := I7.out; omega, HN'.out⟩
end

end Go.Proofs.Ytodiceafnkojiaa.Rf
