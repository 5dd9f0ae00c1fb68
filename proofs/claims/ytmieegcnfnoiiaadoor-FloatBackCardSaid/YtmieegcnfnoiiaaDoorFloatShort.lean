/-
  The walk of typecasekeep.FloatShort. No conditions.
-/
import Derived.Test.YtmieegcnfnoiiaaDoorShortLen
import Derived.Test.YtmieegcnfnoiiaaDoorFloatNearEnd
namespace Go.Proofs.YtmieegcnfnoiiaaDoor
open Go.RowKit Gx
set_option maxRecDepth 100000

set_option maxHeartbeats 400000 in
theorem bigText_any' (ad : Option Addr) (cap : Nat) (xs : List Int) (w : World) (h : Rd .u32 w ad cap xs) (hl : xs.length ≤ 1048576) :
    Calls Tryd.prog 11 #[.slice ad xs.length cap] w (TextPost (decText (bval xs)) w) := by
  by_cases h0 : bval xs = 0
  · have H := Lib.hid (trimmed_any ad cap xs w h (by omega))
    rw [h0]
    unfold TrimmedPost at H
    rw [h0] at H
    clear h h0
    go_enter Tryd.func11, Tryd.ntmps11
    go_wp2_with fail
    refine H.out.mono ?_
    rintro e w2 ⟨rfl, rfl⟩
    have hz : (canon 0).length = 0 := rfl
    rw [hz]
    clear hz
    go_wp2
    go_ret
    exact ⟨rfl, Below.refl _ _⟩
  · exact bigText_pos ad cap xs w h hl h0
theorem text_two' (ad : Option Addr) (cap : Nat) (xs : List Int) (N : Nat) (w : World) (h : Rd .u32 w ad cap xs) (hx : bval xs = N) (hl : xs.length ≤ 1048576) :
    Calls Tryd.prog 11 #[.slice ad xs.length cap] w (TextPost (decText N) w) := by
  subst hx; exact bigText_any' ad cap xs w h hl

set_option maxHeartbeats 4000000 in
theorem floatShort_walk (b n : Nat) (k : Int) (w : World) (hb : b < 18446744073709551616) (hn : n < 18446744073709551616) :
    Calls Tryd.prog 3 #[.int .u64 b, .int .u64 n, .int .i64 k] w (TruePost2 w) := by
  have HF := Lib.hid (floats_any w)
  have ha := andnot_sign b hb
  have hS := short_any b w hb
  have hx := halves n hn
  have hp := fun w0 => pair_rd w0 ((n % 4294967296 : Nat) : Int) ((n / 4294967296 : Nat) : Int) (wf32 _ (by omega)) (wf32 _ (by omega))
  have fx : Fits n 2 := fits_64 n hn
  have hbl := blen_of_fits _ _ fx
  obtain ⟨B, hB⟩ : ∃ B, B = b % 9223372036854775808 := ⟨_, rfl⟩
  have hfin : b / 4503599627370496 % 2048 ≠ 2047 → B < 9218868437227405312 := by omega
  unfold ShortPost at hS
  rw [← hB] at ha hS
  have HP := Lib.hid hp
  have HX := Lib.hid hx
  have HBL := Lib.hid hbl
  have HS := Lib.hid hS
  have HFIN := Lib.hid hfin
  have eS1 : ((n : Int) % 4294967296) = ((n % 4294967296 : Nat) : Int) := by omega
  have eS2 : ((n : Int) / 4294967296) = ((n / 4294967296 : Nat) : Int) := by omega
  have ES1 := Lib.hid eS1
  have ES2 := Lib.hid eS2
  clear hp hx fx hbl hS hfin hB hb eS1 eS2
  go_enter Tryd.func3, Tryd.ntmps3
  go_wp2_with fail
  refine HF.out.mono ?_
  rintro e0 w1 ⟨rfl, rfl⟩
  go_wp2_with fail
  refine HS.out.mono ?_
  rintro e0 w1 (⟨-, rfl, hb1⟩ | ⟨h1, h2, c, kk, hc, rfl, hb1⟩)
  · have B1 := Lib.hid hb1
    clear hb1
    go_wp2
    go_ret
    exact ⟨rfl, B1.out.alloc B1.out.size _⟩
  · have HC := Lib.hid hc
    have HB9 := Lib.hid (HFIN.out h1)
    have ln := (shortIs_len hc).2
    have al := (Below.refl w1.heap.size w1).alloc (Nat.le_refl _) (.cells #[.int .u32 ((n % 4294967296 : Nat) : Int), .int .u32 ((n / 4294967296 : Nat) : Int)] 27)
    have B2 := Lib.hid (hb1.trans (al.mono hb1.size))
    have R2 := Lib.hid (HP.out w1)
    have HT := Lib.hid (text_two' _ _ _ n _ R2.out HX.out (by show 2 ≤ _; omega))
    have hsh : ∀ k, (decText n).length < (shortOf c).length → Hits n k B → False := fun k h g => shortest HC.out HB9.out h g
    have HSH := Lib.hid hsh
    have hdl : (decText n).length ≤ 64 := decText_len n 64 (Nat.lt_trans hn (by decide)) (by decide)
    clear h1 h2 hc hb1 al hsh HS
    generalize shortOf c = st at *
    go_wp2_with fail
    refine HT.out.mono ?_
    rintro e0 w2 ⟨rfl, hb⟩
    have R3 := Lib.hid (R2.out.keep hb)
    have B3 := Lib.hid (B2.out.trans (hb.mono B2.out.size))
    have HLT := Lib.hid (show (decText n).length < st.length → Hits n k B → False from HSH.out k)
    clear hb R2 B2 HT HSH
    generalize decText n = dt at *
    by_cases hlt : dt.length < st.length
    · have t1 : decide ((st.length : Int) ≤ (dt.length : Int)) = false := decide_eq_false (by omega)
      have t2 : ¬ st.length ≤ dt.length := by omega
      have HLT2 := Lib.hid (HLT.out hlt)
      by_cases hk : k < -1000 ∨ 1000 < k
      · have HNL := Lib.hid (near_large (some ⟨w1.heap.size, 0, none⟩) 2 [((n % 4294967296 : Nat) : Int), ((n / 4294967296 : Nat) : Int)] k w2 R3.out (by show 2 ≤ _; omega) (.inr hk))
        clear hk hlt HLT R3
        go_wp2_with fail
        refine HNL.out.mono ?_
        rintro e0 w3 ⟨rfl, rfl⟩
        go_wp2
        go_ret
        exact ⟨rfl, B3.out⟩
      · have HNN := Lib.hid (near_two' (some ⟨w1.heap.size, 0, none⟩) 2 [((n % 4294967296 : Nat) : Int), ((n / 4294967296 : Nat) : Int)] w2 n k R3.out HX.out (by show 2 ≤ _; omega) (by omega) (by omega) (by have := HBL.out; omega))
        unfold NearPost at HNN
        clear hk hlt HLT R3
        go_wp2_with fail
        refine HNN.out.mono ?_
        rintro e0 w3 ⟨b2, rfl, hr, hb⟩
        have B4 := Lib.hid (B3.out.trans (hb.mono B3.out.size))
        have hne : b2 ≠ B := by
          intro h
          subst h
          exact HLT2.out hr
        have t3 : ((b2 : Int) != (B : Int)) = true := by rw [bne_iff_ne]; omega
        have t4 : ((b2 : Int) == (B : Int)) = false := by rw [beq_eq_false_iff_ne]; omega
        have t5 : decide ((b2 : Int) = (B : Int)) = false := decide_eq_false (by omega)
        clear hr hb HNN HLT2 B3
        go_wp2
        go_ret
        exact ⟨rfl, B4.out⟩
    · have t1 : decide ((st.length : Int) ≤ (dt.length : Int)) = true := decide_eq_true (by omega)
      have t2 : st.length ≤ dt.length := by omega
      clear hlt HLT R3
      go_wp2
      go_ret
      exact ⟨rfl, B3.out⟩

theorem floatShort_all (b n k : Int) (w : World) (hb : (Lit.int .u64 b).wf = true) (hn : (Lit.int .u64 n).wf = true) :
    Calls Tryd.prog 3 #[.int .u64 b, .int .u64 n, .int .i64 k] w (TruePost2 w) := by
  obtain ⟨x, rfl, hx⟩ := nat_of_u64 b hb
  obtain ⟨y, rfl, hy⟩ := nat_of_u64 n hn
  exact floatShort_walk x y k w hx hy
end Go.Proofs.YtmieegcnfnoiiaaDoor
