/- The number of a text, and a place, in the words of the sketch's texts. -/
import Derived.Test.YtkeicfajlmhajaaGreatHb
namespace Go.Proofs.YtkeicfajlmhajaaGreat.Ha
open Go Go.RowKit Go.Proofs.YtkeicfajlmhajaaGreat.K

/-- The number of a text. -/
def HF (seed : Int) (s : ByteArray) : Int := Hb.HF seed s
/-- It is that number. -/
def Hs (seed : Int) (s : ByteArray) (h : Int) : Prop := Hb.HF seed s = h ∧ s.size ≤ 140737488351232

theorem HF_spec (s : ByteArray) (seed : Int) (hn : s.size ≤ 140737488351232) :
    Hs seed s (HF seed s) ∧ Hs seed s (HF seed s) ∧ 0 ≤ HF seed s ∧ HF seed s < 18446744073709551616 :=
  ⟨⟨rfl, hn⟩, ⟨rfl, hn⟩, (Hb.HF_range seed s).1, (Hb.HF_range seed s).2⟩

theorem hash_any {seed h : Int} {key : ByteArray} (hh : Hs seed key h) (w : World) :
    Calls Tryz.prog 113 #[.int .u64 seed, .string key] w fun e w' => e = .returned (.int .u64 h) ∧ ∃ m, w' = w.drewN m :=
  (Hb.hash_any seed key hh.2 w).mono fun _ _ ⟨he, hn⟩ => ⟨by rw [he, hh.1], 0, hn.symm⟩

/-- A place among n. -/
def pl (seed : Int) (s : ByteArray) (n : Nat) : Nat := (HF seed s).toNat % n

theorem place_any (h : Int) (n : Nat) (h0 : 0 ≤ h ∧ h < 18446744073709551616) (h1 : 1 ≤ n) (h2 : n ≤ 65536) (w : World) :
    Calls Tryz.prog 112 #[.int .u64 h, .int .i64 (n : Int)] w fun e w' => e = .returned (.int .i64 ((h.toNat % n : Nat) : Int)) ∧ ∃ m, w' = w.drewN m :=
  (Hb.place_any h n h0 h1 (by omega) w).mono fun _ _ ⟨he, hn⟩ => ⟨he, 0, hn.symm⟩

end Go.Proofs.YtkeicfajlmhajaaGreat.Ha
