/-
  What float.nearest's contract leans on. No conditions.
-/
import Derived.Test.YtmieegcnfnoiiaaDoorMagn
import Derived.Test.YtmieegcnfnoiiaaDoorBigRead
import Derived.Test.YtmieegcnfnoiiaaDoorShelf
namespace Go.Proofs.YtmieegcnfnoiiaaDoor
open Go.RowKit Gx
set_option maxRecDepth 100000

theorem divMod_two (ad bd : Option Addr) (ca cb : Nat) (xs ys : List Int) (w : World) (N M : Nat) (h : Rd .u32 w ad ca xs) (g : Rd .u32 w bd cb ys) (hx : bval xs = N) (hy : bval ys = M) (hl : xs.length ≤ 1000000) (hl2 : ys.length ≤ 1000000) (h0 : M ≠ 0) :
    Calls Tryd.prog 40 #[.slice ad xs.length ca, .slice bd ys.length cb] w (DivModPost (N / M) (N % M) w) := by
  subst hx; subst hy; exact divMod_any ad bd ca cb xs ys w h g hl hl2 h0
theorem fits_64 (c : Nat) (h : c < 18446744073709551616) : Fits c 2 := by
  have h1 : (4294967296 : Nat) ^ 2 = 18446744073709551616 := by decide
  unfold Fits; rw [h1]; exact h
theorem text_canon (ad : Option Addr) (ca c : Nat) (w : World) (h : Rd .u32 w ad ca (canon c)) (hl : (canon c).length ≤ 1048576) :
    Calls Tryd.prog 11 #[.slice ad (canon c).length ca] w (TextPost (decText c) w) := by
  by_cases h0 : c = 0
  · subst h0
    have h1 : canon 0 = [] := rfl
    rw [h1] at h ⊢
    exact bigText_nil ad ca w h
  · have h1 := bigText_pos ad ca (canon c) w h hl (by rw [bval_canon]; exact h0)
    rw [bval_canon] at h1
    exact h1
theorem dec_len (c : Nat) (h : c ≤ 1000000000000000000) : (decText c).length ≤ 30 :=
  decText_len c 30 (Nat.lt_of_le_of_lt h (by decide)) (by decide)
theorem trimRight_len (l : List UInt8) (b : UInt8) : (Lib.trimRightB l b).length ≤ l.length := by
  unfold Lib.trimRightB
  rw [List.length_reverse]
  have := (List.dropWhile_sublist (l := l.reverse) (p := (· == b))).length_le
  rw [List.length_reverse] at this
  exact this
theorem trim_string (l : List UInt8) (w : World) (hl : l.length ≤ 1000) :
    Calls Tryd.prog 43 #[.string ⟨l.toArray⟩, .string ⟨#[48]⟩] w fun e w' => e = .returned (.string ⟨(Lib.trimRightB l 48).toArray⟩) ∧ w' = w := by
  have h := Tryd.strings_TrimRight_one ⟨l.toArray⟩ 48 (by decide) w (by show l.toArray.size ≤ _; rw [List.size_toArray]; omega)
  exact h
theorem canon_len_zero (n : Nat) : (n = 0 → (canon n).length = 0) ∧ (n ≠ 0 → 0 < (canon n).length) := by
  refine ⟨fun h => by subst h; rfl, fun h => ?_⟩
  rw [canon_pos n h]; simp
end Go.Proofs.YtmieegcnfnoiiaaDoor
