/-
  The contracts of strconv.FormatInt at bases 2, 8, 10, 16, num.Text and num.Base. Condition: the library's tables lie in the world.
-/
import Derived.Test.YtpoagjiknmahiaaDoorNumBits
import Derived.Shelf.Unicode.PredsPay
namespace Go.Proofs.YtpoagjiknmahiaaDoor
open Go.RowKit Gx

def NTabs (w : World) : Prop := BTab w ∧ Lib.TabIs Tryd.prog w "internal/strconv.uint64pow10" .u64 Lib.pow10Tab
theorem NTabs.keep {w w' : World} (h : NTabs w) (hb : Below w.heap.size w w') : NTabs w' :=
  ⟨h.1.keep hb, TabIs_below (g := 1) (by kernel_rfl) h.2 hb⟩

def numText (n : Int) (b : Nat) : List UInt8 := (if decide (n < 0) then [45] else []) ++ digF (n.natAbs + 1) b n.natAbs
def StrPost (x : List UInt8) (w : World) (e : Ending) (w' : World) : Prop := e = .returned (.string ⟨x.toArray⟩) ∧ Below w.heap.size w w'

theorem below_grow (w : World) (k : Nat) (os : Array Obj) : Below w.heap.size w (Go.Sort.grow (w.drewN k) os) := by
  refine ⟨rfl, rfl, rfl, ?_, fun i hi => ?_⟩
  · show w.heap.size ≤ (w.heap ++ os).size
    simp
  · show (w.heap ++ os)[i]? = w.heap[i]?
    rw [Array.getElem?_append_left hi]

set_option maxHeartbeats 1000000 in
theorem intFormat_any (n : Int) (h0 : -9223372036854775808 ≤ n) (h1 : n ≤ 9223372036854775807) (b : Nat) (hb : b = 2 ∨ b = 8 ∨ b = 16) (w : World) (hT : BTab w) :
    Calls Tryd.prog 21 #[.int .i64 n, .int .i64 b] w (StrPost (numText n b) w) := by
  have k1 : decide (n < 0) = false → IntKind.u64.wrap n = (n.natAbs : Int) := by
    intro h
    have h2 : ¬ n < 0 := by simpa using h
    rw [IntKind.wrap_u64]; omega
  have k2 : decide (n < 0) = true → IntKind.u64.wrap (-IntKind.u64.wrap n) = (n.natAbs : Int) := by
    intro h
    have h2 : n < 0 := by simpa using h
    rw [IntKind.wrap_u64, IntKind.wrap_u64]; omega
  have hfb := formatBits_any b hb n.natAbs (by omega) (decide (n < 0)) (IntKind.u64.wrap n) k1 k2 w hT
  clear k1 k2
  unfold BitsPost at hfb
  have e : (if decide (n < 0) = true then ([45] : List UInt8) else []) ++ digF (n.natAbs + 1) b n.natAbs = numText n b := rfl
  rw [e] at hfb
  have HF := Lib.hid hfb
  have t1 : ((b : Int) == 10) = false := by rcases hb with rfl | rfl | rfl <;> rfl
  clear hfb e hb hT
  go_enter Tryd.func21, Tryd.ntmps21
  go_wp2_with fail
  refine HF.out.mono ?_
  rintro e w2 ⟨rfl, hb⟩
  go_wp2
  go_ret
  exact ⟨rfl, hb⟩

set_option maxHeartbeats 1000000 in
theorem format_any (n : Int) (h0 : -9223372036854775808 ≤ n) (h1 : n ≤ 9223372036854775807) (b : Nat) (hb : b = 2 ∨ b = 8 ∨ b = 10 ∨ b = 16) (w : World) (hT : NTabs w) :
    Calls Tryd.prog 18 #[.int .i64 n, .int .i64 b] w (StrPost (numText n b) w) := by
  by_cases h10 : b = 10
  · subst h10
    refine (Tryd.strconv_FormatInt_10 n h0 h1 w hT.2).mono ?_
    rintro e w2 ⟨rfl, k, os, rfl⟩
    refine ⟨?_, below_grow w k os⟩
    rw [itoa_told]
    rfl
  · have HF := Lib.hid (intFormat_any n h0 h1 b (by omega) w hT.1)
    clear hT hb h10
    go_enter Tryd.func18, Tryd.ntmps18
    go_wp2_with fail
    refine HF.out.mono ?_
    rintro e w2 ⟨rfl, hb⟩
    go_wp2
    go_ret
    exact ⟨rfl, hb⟩

theorem numText_10 (n : Int) : numText n 10 = Lib.itoa n := by rw [itoa_told]; rfl

set_option maxHeartbeats 400000 in
theorem numText_any (n : Int) (h0 : -9223372036854775808 ≤ n) (h1 : n ≤ 9223372036854775807) (w : World) (hT : NTabs w) :
    Calls Tryd.prog 10 #[.int .i64 n] w (StrPost (Lib.itoa n) w) := by
  have hf := format_any n h0 h1 10 (by omega) w hT
  rw [numText_10] at hf
  have HF := Lib.hid hf
  clear hf hT
  go_enter Tryd.func10, Tryd.ntmps10
  go_wp2_with fail
  refine HF.out.mono ?_
  rintro e w2 ⟨rfl, hb⟩
  go_wp2
  go_ret
  exact ⟨rfl, hb⟩

def BasePost2 (x : List UInt8) (c : Int) (w : World) (e : Ending) (w' : World) : Prop := e = .returned (.tuple #[.string ⟨x.toArray⟩, .int .i64 c]) ∧ Below w.heap.size w w'

theorem text_prefix (n : Int) (b : Nat) (hb : b = 2 ∨ b = 8 ∨ b = 10 ∨ b = 16) :
    Lib.hasPrefix (numText n b) [45] = decide (n < 0) ∧ Lib.trimPrefix (numText n b) [45] = digF (n.natAbs + 1) b n.natAbs := by
  have hd : ∃ c t, c ≠ 45 ∧ digF (n.natAbs + 1) b n.natAbs = c :: t := by
    by_cases hu : n.natAbs = 0
    · rw [hu, digF_zero b (by omega)]
      exact ⟨48, [], by decide, rfl⟩
    · obtain ⟨d, t, h3, h4, h5⟩ := digF_first b (by omega) (by omega) (n.natAbs + 1) n.natAbs (by omega) hu
      exact ⟨_, t, (digB_ne d (by omega)).1, h5⟩
  obtain ⟨c, t, hc, hct⟩ := hd
  have hp : Lib.hasPrefix (numText n b) [45] = decide (n < 0) := by
    unfold numText
    rw [hct]
    cases decide (n < 0) with
    | true => simp [Lib.hasPrefix, List.isPrefixOf]
    | false =>
      simp [Lib.hasPrefix, List.isPrefixOf]
      intro e; exact hc e.symm
  refine ⟨hp, ?_⟩
  unfold Lib.trimPrefix
  rw [hp]
  unfold numText
  cases decide (n < 0) <;> rfl

set_option maxRecDepth 4000 in
set_option maxHeartbeats 2000000 in
theorem baseYes_any (n : Int) (h0 : -9223372036854775808 ≤ n) (h1 : n ≤ 9223372036854775807) (b : Nat) (hb : b = 2 ∨ b = 8 ∨ b = 10 ∨ b = 16) (w : World) (hT : NTabs w) :
    Calls Tryd.prog 11 #[.int .i64 n, .int .i64 b] w (BasePost2 (toldOf (decide (n < 0)) b n.natAbs) 0 w) := by
  have hf := format_any n h0 h1 b hb w hT
  unfold StrPost at hf
  obtain ⟨p1, p2⟩ := text_prefix n b hb
  have hc := fun w => Tryd.strings_CutPrefix ⟨(numText n b).toArray⟩ ⟨#[45]⟩ w
  simp only [List.toList_toArray] at hc
  rw [p1, p2] at hc
  have htl : toldOf (decide (n < 0)) b n.natAbs = (if decide (n < 0) then [45] else []) ++ (frontOf b ++ digF (n.natAbs + 1) b n.natAbs) := rfl
  have hsl : (numText n b).length ≤ 65 := by
    unfold numText
    have hd : (digF (n.natAbs + 1) b n.natAbs).length ≤ 64 := by
      refine digF_len b 0 (by omega) (n.natAbs + 1) n.natAbs 64 (by omega) ?_ (by omega)
      have : 2 ^ 64 ≤ b ^ 64 := Nat.pow_le_pow_left (by omega) 64
      have h2 : (2 : Nat) ^ 64 = 18446744073709551616 := by decide
      omega
    rw [List.length_append]
    have : (if decide (n < 0) = true then ([45] : List UInt8) else []).length ≤ 1 := by split <;> decide
    omega
  have hcat : ∀ x y : List UInt8, (⟨x.toArray⟩ : ByteArray) ++ ⟨y.toArray⟩ = ⟨(x ++ y).toArray⟩ := by
    intro x y
    refine bytes_ext _ _ ?_
    rw [ByteArray.data_append, Array.toList_append]
  obtain ⟨D, hD⟩ : ∃ D, D = digF (n.natAbs + 1) b n.natAbs := ⟨_, rfl⟩
  rw [← hD] at htl
  simp only [← hD] at hc
  have hnt : numText n b = (if decide (n < 0) then [45] else []) ++ D := by rw [hD]; rfl
  have hDs : D.length ≤ 65 := by rw [hnt, List.length_append] at hsl; omega
  have hb2 : ∀ (x : List UInt8), (⟨x.toArray⟩ : ByteArray).size = x.length := fun x => by simp [ByteArray.size]
  have HF := Lib.hid hf
  have HC := Lib.hid hc
  have HTL := Lib.hid htl
  clear hf hc htl hD hT p1 p2
  cases hneg : decide (n < 0) with
  | true =>
    rw [hneg] at HC hnt HTL
    obtain ⟨S, hS⟩ : ∃ S : ByteArray, S = ⟨(numText n b).toArray⟩ := ⟨_, rfl⟩
    obtain ⟨DD, hDD⟩ : ∃ S : ByteArray, S = ⟨D.toArray⟩ := ⟨_, rfl⟩
    rw [← hS] at HF HC
    rw [← hDD] at HC
    have hDsz : DD.size ≤ 65 := by rw [hDD, hb2]; exact hDs
    have hfin : ∀ fr : List UInt8, frontOf b = fr → (⟨#[45]⟩ : ByteArray) ++ ⟨fr.toArray⟩ ++ DD = ⟨(toldOf true b n.natAbs).toArray⟩ := by
      intro fr hfr
      rw [HTL.out, hfr, hDD]
      show (⟨[45].toArray⟩ : ByteArray) ++ ⟨fr.toArray⟩ ++ ⟨D.toArray⟩ = _
      rw [hcat, hcat]
      simp
    have HFIN := Lib.hid hfin
    clear hS hDD hcat hb2 hfin hsl hDs hnt HTL
    rcases hb with rfl | rfl | rfl | rfl
    all_goals
      go_enter Tryd.func11, Tryd.ntmps11
      go_wp2_with fail
      refine HF.out.mono ?_
      rintro e w2 ⟨rfl, hbw⟩
      go_wp2_with fail
      refine (HC.out _).mono ?_
      rintro e w3 ⟨rfl, rfl⟩
      go_wp2_with fail
      go_ret2
      exact ⟨by rw [← HFIN.out _ rfl]; rfl, hbw⟩
  | false =>
    rw [hneg] at HC hnt HTL
    have hnt2 : numText n b = D := by rw [hnt]; rfl
    obtain ⟨S, hS⟩ : ∃ S : ByteArray, S = ⟨(numText n b).toArray⟩ := ⟨_, rfl⟩
    rw [← hS] at HF HC
    have hSsz : S.size ≤ 65 := by rw [hS, hb2]; exact hsl
    have hfin : ∀ fr : List UInt8, frontOf b = fr → (⟨fr.toArray⟩ : ByteArray) ++ S = ⟨(toldOf false b n.natAbs).toArray⟩ := by
      intro fr hfr
      rw [HTL.out, hfr, hS, hnt2, hcat]
      rfl
    have HFIN := Lib.hid hfin
    clear hS hcat hb2 hfin hsl hDs hnt hnt2 HTL
    rcases hb with rfl | rfl | rfl | rfl
    all_goals
      go_enter Tryd.func11, Tryd.ntmps11
      go_wp2_with fail
      refine HF.out.mono ?_
      rintro e w2 ⟨rfl, hbw⟩
      go_wp2_with fail
      refine (HC.out _).mono ?_
      rintro e w3 ⟨rfl, rfl⟩
      go_wp2_with fail
      go_ret2
      exact ⟨by rw [← HFIN.out _ rfl]; rfl, hbw⟩

set_option maxHeartbeats 400000 in
theorem baseNo_any (n base : Int) (hb : base ≠ 2 ∧ base ≠ 8 ∧ base ≠ 10 ∧ base ≠ 16) (w : World) :
    Calls Tryd.prog 11 #[.int .i64 n, .int .i64 base] w (BasePost2 [] 1 w) := by
  obtain ⟨h1, h2, h3, h4⟩ := hb
  have t1 : (base == 2) = false := by simpa using h1
  have t2 : (base == 8) = false := by simpa using h2
  have t3 : (base == 10) = false := by simpa using h3
  have t4 : (base == 16) = false := by simpa using h4
  clear h1 h2 h3 h4
  go_enter Tryd.func11, Tryd.ntmps11
  go_wp2
  go_ret2
  exact ⟨rfl, Below.refl _ _⟩
end Go.Proofs.YtpoagjiknmahiaaDoor
