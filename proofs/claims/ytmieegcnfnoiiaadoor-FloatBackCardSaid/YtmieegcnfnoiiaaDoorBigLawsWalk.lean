/-
  The walk of typecasekeep.BigLaws. No conditions.
-/
import Derived.Test.YtmieegcnfnoiiaaDoorBigSub2
import Derived.Test.YtmieegcnfnoiiaaDoorBigAdd2
namespace Go.Proofs.YtmieegcnfnoiiaaDoor
open Go.RowKit Gx
set_option maxRecDepth 100000

def Fits (n k : Nat) : Prop := n < 4294967296 ^ k
theorem Fits.len {n k : Nat} (h : Fits n k) : (canon n).length ≤ k := canon_len_le n k h
theorem Fits.add {n m k : Nat} (h : Fits n k) (g : Fits m k) : Fits (n + m) (k + 1) := by
  unfold Fits at *
  rw [Nat.pow_succ]; omega
theorem Fits.mono {n k l : Nat} (h : Fits n k) (hl : k ≤ l) : Fits n l := Nat.lt_of_lt_of_le h (Nat.pow_le_pow_right (by decide) hl)
theorem Fits.mul {n m k l : Nat} (h : Fits n k) (g : Fits m l) : Fits (n * m) (k + l) := by
  unfold Fits at *
  rw [Nat.pow_add]
  exact Nat.mul_lt_mul'' h g
theorem Fits.sub {n m k : Nat} (h : Fits n k) : Fits (n - m) k := Nat.lt_of_le_of_lt (Nat.sub_le _ _) h
theorem Fits.words {l : List Int} (h : Words l) : Fits (bval l) l.length := bval_lt l h

section
variable (ad bd : Option Addr) (ca cb : Nat) (xs ys : List Int) (w : World)
theorem add_two (N M : Nat) (h : Rd .u32 w ad ca xs) (g : Rd .u32 w bd cb ys) (hx : bval xs = N) (hy : bval ys = M) (lx : xs.length ≤ 1048576) (ly : ys.length ≤ 1048576) :
    Calls Tryd.prog 41 #[.slice ad xs.length ca, .slice bd ys.length cb] w (WordsPost (N + M) w) := by
  subst hx; subst hy; exact bigAdd_any ad bd ca cb xs ys w h g (by omega) (by omega)
theorem mul_two (N M : Nat) (h : Rd .u32 w ad ca xs) (g : Rd .u32 w bd cb ys) (hx : bval xs = N) (hy : bval ys = M) (lx : xs.length ≤ 1048576) (ly : ys.length ≤ 1048576) :
    Calls Tryd.prog 14 #[.slice ad xs.length ca, .slice bd ys.length cb] w (WordsPost (N * M) w) := by
  subst hx; subst hy; exact bigMul_any ad bd ca cb xs ys w h g lx ly
theorem sub_two (N M : Nat) (h : Rd .u32 w ad ca xs) (g : Rd .u32 w bd cb ys) (hx : bval xs = N) (hy : bval ys = M) (lx : xs.length ≤ 1048576) (ly : ys.length ≤ 1048576) (hle : M ≤ N) :
    Calls Tryd.prog 34 #[.slice ad xs.length ca, .slice bd ys.length cb] w (SubPost (N - M) w) := by
  subst hx; subst hy; exact bigSub_yes ad bd ca cb xs ys w h g lx ly hle
theorem trim_one (N : Nat) (h : Rd .u32 w ad ca xs) (hx : bval xs = N) (lx : xs.length ≤ 1048576) :
    Calls Tryd.prog 30 #[.slice ad xs.length ca] w (WordsPost N w) := by
  subst hx; exact bigTrim_any ad ca xs w h (by omega)
end
end Go.Proofs.YtmieegcnfnoiiaaDoor
