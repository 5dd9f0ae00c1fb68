/-
  The contracts of big.Sub, and of big.Text at nought. Condition: the slices have at most 2^20 words.
-/
import Derived.Test.YtmieegcnfnoiiaaDoorBigSub
namespace Go.Proofs.YtmieegcnfnoiiaaDoor
open Go.RowKit Gx
set_option maxRecDepth 100000

def SubPost (n : Nat) (w : World) (e : Ending) (w' : World) : Prop :=
  ∃ ad cap, e = .returned (.tuple #[.slice ad (canon n).length cap, .int .i64 0]) ∧ Rd .u32 w' ad cap (canon n) ∧ Below w.heap.size w w'

set_option maxHeartbeats 400000 in
theorem bigSub_yes (ad bd : Option Addr) (ca cb : Nat) (xs ys : List Int) (w : World) (h : Rd .u32 w ad ca xs) (g : Rd .u32 w bd cb ys) (hl : xs.length ≤ 1048576) (hl2 : ys.length ≤ 1048576) (hle : bval ys ≤ bval xs) :
    Calls Tryd.prog 34 #[.slice ad xs.length ca, .slice bd ys.length cb] w (SubPost (bval xs - bval ys) w) := by
  have HC := Lib.hid (bigCmp_any ad bd ca cb xs ys w h g (by omega) (by omega))
  have hlen : (canon (bval ys)).length ≤ xs.length := canon_len_le _ _ (Nat.lt_of_le_of_lt hle (bval_lt _ (words_of_rd h)))
  have hcp : 0 ≤ cmpOf (bval xs) (bval ys) := by unfold cmpOf; rw [if_neg (by omega)]; split <;> omega
  unfold CmpPost at HC
  generalize cmpOf (bval xs) (bval ys) = c at *
  have H := Lib.hid h
  have G := Lib.hid g
  have HLE := Lib.hid hle
  clear h g hle
  go_enter Tryd.func34, Tryd.ntmps34
  go_wp2_with fail
  refine HC.out.mono ?_
  rintro e w1 ⟨rfl, hb1⟩
  go_wp2_with fail
  refine (trimmed_any bd cb ys w1 (G.out.keep hb1) (by omega)).mono ?_
  rintro e w2 ⟨rfl, rfl⟩
  go_wp2_with fail
  refine (bigLess_any ad bd ca cb xs (canon (bval ys)) w1 (H.out.keep hb1) (G.out.keep hb1).trim hl hlen (by rw [bval_canon]; exact HLE.out)).mono ?_
  rintro e w3 ⟨ad', cap', rfl, hr, hb⟩
  rw [bval_canon] at hr
  have HR := Lib.hid hr
  have HB := Lib.hid (hb1.trans (hb.mono hb1.size))
  clear hr hb hb1
  have hv : bval (canon (bval ys)) = bval ys := bval_canon _
  rw [hv]
  clear hv
  go_wp2
  go_ret2
  exact ⟨ad', cap', rfl, HR.out, HB.out⟩

def TextPost (l : List UInt8) (w : World) (e : Ending) (w' : World) : Prop := e = .returned (.string ⟨l.toArray⟩) ∧ Below w.heap.size w w'

set_option maxHeartbeats 400000 in
theorem bigText_nil (ad : Option Addr) (cap : Nat) (w : World) (h : Rd .u32 w ad cap []) :
    Calls Tryd.prog 11 #[.slice ad 0 cap] w (TextPost [48] w) := by
  have H := Lib.hid (trimmed_any ad cap [] w h (by simp))
  clear h
  go_enter Tryd.func11, Tryd.ntmps11
  go_wp2_with fail
  refine H.out.mono ?_
  rintro e w2 ⟨rfl, rfl⟩
  have hz : (canon (bval [])).length = 0 := rfl
  rw [hz]
  clear hz
  go_wp2
  go_ret
  exact ⟨rfl, Below.refl _ _⟩

def TruePost (w : World) (e : Ending) (w' : World) : Prop := e = .returned (.bool true) ∧ Below w.heap.size w w'
end Go.Proofs.YtmieegcnfnoiiaaDoor
