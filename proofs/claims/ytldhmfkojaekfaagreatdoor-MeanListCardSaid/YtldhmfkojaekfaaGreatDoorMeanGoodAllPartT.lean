/-
  The contract of val.own: what can be said of a value without its parts. Conditions: Go's two tables of utf8 lie in the world.
  The contract of val.own: what can be said of a value without its parts. Conditions: Go's two tables of utf8 lie in the world.
  The contract of val.own: what can be said of a value without its parts. Conditions: Go's two tables of utf8 lie in the world.
  The contract of val.own: what can be said of a value without its parts. Conditions: Go's two tables of utf8 lie in the world.
  The contract of the iterator over a value's parts. Conditions: what a round writes is one block besides new ones.
  What lies in memory while val.check runs. No conditions.
  The contract of val.check. Conditions: Go's two tables of utf8 lie in the world.
-/
import Derived.WalkLawsBesides
import Derived.Deep.DeepFit
import Derived.Outline
import Derived.Deep.DeepCutAuto
import Derived.Deep.CutBlock
import Derived.Test.YtldhmfkojaekfaaGreatDoorMeanGoodAllPartS
set_option linter.unusedVariables false
namespace Go.Proofs.YtldhmfkojaekfaaGreatDoor
open Go.RowKit Gx
set_option maxRecDepth 100000
set_option maxHeartbeats 8000000 in
theorem own_0 (n f : Int) (s : ByteArray) (ad bd : Option Addr) (nl ne cl ce : Nat) (w : World) (a : Int) (h0 : 0 ≤ a) (h1 : a < 20) (hf0 : 0 ≤ f) (hf1 : f ≤ 18446744073709551615) (hl : nl ≤ 1000000000000000) (he : ne ≤ 1000000000000000) (hs : s.size ≤ 1000000000000000) (hT : Tabs w) :
  Calls Tryz.prog 50 #[.agg #[.int .i64 0, .int .i64 n, .int .u64 f, .string s, .slice ad nl cl, .slice bd ne ce], .int .i64 a] w (OwnPost (ownE 0 n f s nl ne) w) := by
  have t20 : decide (20 ≤ a) = false := decide_eq_false (by omega)
  by_cases hn : n = 0
  rotate_left
  · have u0 : (n != 0) = true := by simpa using hn
    clear hn
    have e : ownE 0 n f s nl ne = 10 := by simp [ownE, kindBad, u0]
    go_enter Tryz.func50, Tryz.ntmps50
    go_wp2_with fail
    go_quiet (fail)
    go_wp2_with fail
    try go_ret
    exact ⟨by rw [e]; rfl, ((Below.refl _ w).alloc (Nat.le_refl _) _).trans (Gx.drewN_below _ _ _)⟩
  subst hn
  by_cases hf : f = 0
  rotate_left
  · have u2 : (f != 0) = true := by simpa using hf
    clear hf
    have e : ownE 0 0 f s nl ne = 10 := by simp [ownE, kindBad, u2]
    go_enter Tryz.func50, Tryz.ntmps50
    go_wp2_with fail
    go_quiet (fail)
    go_wp2_with fail
    try go_ret
    exact ⟨by rw [e]; rfl, ((Below.refl _ w).alloc (Nat.le_refl _) _).trans (Gx.drewN_below _ _ _)⟩
  subst hf
  clear hf0 hf1
  by_cases hse : s.toList.isEmpty = true
  rotate_left
  · have v0 : s.toList.isEmpty = false := by simpa using hse
    have v1 : (!s.toList.isEmpty) = true := by rw [v0]; rfl
    clear hse
    have e : ownE 0 0 0 s nl ne = 10 := by simp [ownE, kindBad, nan0, v0]
    go_enter Tryz.func50, Tryz.ntmps50
    go_wp2_with fail
    go_quiet (fail)
    go_wp2_with fail
    try go_ret
    exact ⟨by rw [e]; rfl, ((Below.refl _ w).alloc (Nat.le_refl _) _).trans (Gx.drewN_below _ _ _)⟩
  obtain rfl := empty_of hse
  clear hse hs
  by_cases hnl : nl = 0
  rotate_left
  · have v2 : 0 < nl := by omega
    clear hnl
    have e : ownE 0 0 0 ⟨#[]⟩ nl ne = 10 := by simp [ownE, kindBad, nan0, empty_bad, empty_size, v2]
    go_enter Tryz.func50, Tryz.ntmps50
    go_wp2_with fail
    go_quiet (fail)
    go_wp2_with fail
    try go_ret
    exact ⟨by rw [e]; rfl, ((Below.refl _ w).alloc (Nat.le_refl _) _).trans (Gx.drewN_below _ _ _)⟩
  subst hnl
  clear hl
  by_cases hne : ne = 0
  rotate_left
  · have v3 : 0 < ne := by omega
    clear hne
    have e : ownE 0 0 0 ⟨#[]⟩ 0 ne = 10 := by simp [ownE, kindBad, nan0, empty_bad, empty_size, v3]
    go_enter Tryz.func50, Tryz.ntmps50
    go_wp2_with fail
    go_quiet (fail)
    go_wp2_with fail
    try go_ret
    exact ⟨by rw [e]; rfl, ((Below.refl _ w).alloc (Nat.le_refl _) _).trans (Gx.drewN_below _ _ _)⟩
  subst hne
  clear he
  have hTT : ∀ nq, Tabs ((w.alloc (.cells #[.int .i64 0, .int .i64 0, .int .u64 0, .string ⟨#[]⟩, .slice ad 0 cl, .slice bd 0 ce] 26)).drewN nq) := fun nq => hT.keep (((Below.refl _ w).alloc (Nat.le_refl _) _).trans (Gx.drewN_below _ nq _))
  have HTT := Lib.hid hTT
  clear hTT hT
  go_enter Tryz.func50, Tryz.ntmps50
  go_wp2_with fail
  go_quiet (fail)
  go_wp2_with fail
  refine (bad_any ⟨#[]⟩ _ (HTT.out nq) (by first | omega | decide)).mono ?_
  rintro e w2 ⟨b, rfl, hb, hbw⟩
  have HBW := Lib.hid (Below.trans (((Below.refl w.heap.size w).alloc (Nat.le_refl _) _).trans (Gx.drewN_below _ nq _)) (hbw.mono (by simp)))
  clear hbw
  by_cases hok : okText (ByteArray.mk #[]).data.toList
  · have hlt := hb.2 hok
    have e : ownE 0 0 0 ⟨#[]⟩ 0 0 = 0 := by simp [ownE, kindBad, hok, nan0, empty_bad, empty_size]
    have t1 : decide (0 ≤ b) = false := decide_eq_false (by omega)
    clear hb hok
    go_wp2_with fail
    try go_ret
    exact ⟨by rw [e]; rfl, HBW.out⟩
  · have hlt : 0 ≤ b := Int.not_lt.1 (fun h => hok (hb.1 h))
    have e : ownE 0 0 0 ⟨#[]⟩ 0 0 = 3 := by simp [ownE, kindBad, hok, nan0, empty_bad, empty_size]
    have t1 : decide (0 ≤ b) = true := decide_eq_true hlt
    clear hb hok
    go_wp2_with fail
    try go_ret
    exact ⟨by rw [e]; rfl, HBW.out⟩
set_option maxHeartbeats 8000000 in
theorem own_1 (n f : Int) (s : ByteArray) (ad bd : Option Addr) (nl ne cl ce : Nat) (w : World) (a : Int) (h0 : 0 ≤ a) (h1 : a < 20) (hf0 : 0 ≤ f) (hf1 : f ≤ 18446744073709551615) (hl : nl ≤ 1000000000000000) (he : ne ≤ 1000000000000000) (hs : s.size ≤ 1000000000000000) (hT : Tabs w) :
  Calls Tryz.prog 50 #[.agg #[.int .i64 1, .int .i64 n, .int .u64 f, .string s, .slice ad nl cl, .slice bd ne ce], .int .i64 a] w (OwnPost (ownE 1 n f s nl ne) w) := by
  have t20 : decide (20 ≤ a) = false := decide_eq_false (by omega)
  by_cases hn1 : n = 0 ∨ n = 1
  rotate_left
  · have u0 : (n != 0) = true := by simp; omega
    have u1 : (n != 1) = true := by simp; omega
    clear hn1
    have e : ownE 1 n f s nl ne = 10 := by simp [ownE, kindBad, u0, u1]
    go_enter Tryz.func50, Tryz.ntmps50
    go_wp2_with fail
    go_quiet (fail)
    go_wp2_with fail
    try go_ret
    exact ⟨by rw [e]; rfl, ((Below.refl _ w).alloc (Nat.le_refl _) _).trans (Gx.drewN_below _ _ _)⟩
  have hnn : ((n != 0) = true ∧ (n != 1) = false) ∨ (n != 0) = false := by rcases hn1 with rfl | rfl <;> simp
  clear hn1
  by_cases hf : f = 0
  rotate_left
  · rcases hnn with ⟨u0, u1⟩ | u0
    · have u2 : (f != 0) = true := by simpa using hf
      clear hf
      have e : ownE 1 n f s nl ne = 10 := by simp [ownE, kindBad, u0, u2, u1]
      go_enter Tryz.func50, Tryz.ntmps50
      go_wp2_with fail
      go_quiet (fail)
      go_wp2_with fail
      try go_ret
      exact ⟨by rw [e]; rfl, ((Below.refl _ w).alloc (Nat.le_refl _) _).trans (Gx.drewN_below _ _ _)⟩
    · have u2 : (f != 0) = true := by simpa using hf
      clear hf
      have e : ownE 1 n f s nl ne = 10 := by simp [ownE, kindBad, u0, u2]
      go_enter Tryz.func50, Tryz.ntmps50
      go_wp2_with fail
      go_quiet (fail)
      go_wp2_with fail
      try go_ret
      exact ⟨by rw [e]; rfl, ((Below.refl _ w).alloc (Nat.le_refl _) _).trans (Gx.drewN_below _ _ _)⟩
  subst hf
  clear hf0 hf1
  by_cases hse : s.toList.isEmpty = true
  rotate_left
  · have v0 : s.toList.isEmpty = false := by simpa using hse
    have v1 : (!s.toList.isEmpty) = true := by rw [v0]; rfl
    clear hse
    rcases hnn with ⟨u0, u1⟩ | u0
    · skip
      have e : ownE 1 n 0 s nl ne = 10 := by simp [ownE, kindBad, nan0, v0, u0, u1]
      go_enter Tryz.func50, Tryz.ntmps50
      go_wp2_with fail
      go_quiet (fail)
      go_wp2_with fail
      try go_ret
      exact ⟨by rw [e]; rfl, ((Below.refl _ w).alloc (Nat.le_refl _) _).trans (Gx.drewN_below _ _ _)⟩
    · skip
      have e : ownE 1 n 0 s nl ne = 10 := by simp [ownE, kindBad, nan0, v0, u0]
      go_enter Tryz.func50, Tryz.ntmps50
      go_wp2_with fail
      go_quiet (fail)
      go_wp2_with fail
      try go_ret
      exact ⟨by rw [e]; rfl, ((Below.refl _ w).alloc (Nat.le_refl _) _).trans (Gx.drewN_below _ _ _)⟩
  obtain rfl := empty_of hse
  clear hse hs
  by_cases hnl : nl = 0
  rotate_left
  · have v2 : 0 < nl := by omega
    clear hnl
    rcases hnn with ⟨u0, u1⟩ | u0
    · skip
      have e : ownE 1 n 0 ⟨#[]⟩ nl ne = 10 := by simp [ownE, kindBad, nan0, empty_bad, empty_size, v2, u0, u1]
      go_enter Tryz.func50, Tryz.ntmps50
      go_wp2_with fail
      go_quiet (fail)
      go_wp2_with fail
      try go_ret
      exact ⟨by rw [e]; rfl, ((Below.refl _ w).alloc (Nat.le_refl _) _).trans (Gx.drewN_below _ _ _)⟩
    · skip
      have e : ownE 1 n 0 ⟨#[]⟩ nl ne = 10 := by simp [ownE, kindBad, nan0, empty_bad, empty_size, v2, u0]
      go_enter Tryz.func50, Tryz.ntmps50
      go_wp2_with fail
      go_quiet (fail)
      go_wp2_with fail
      try go_ret
      exact ⟨by rw [e]; rfl, ((Below.refl _ w).alloc (Nat.le_refl _) _).trans (Gx.drewN_below _ _ _)⟩
  subst hnl
  clear hl
  by_cases hne : ne = 0
  rotate_left
  · have v3 : 0 < ne := by omega
    clear hne
    rcases hnn with ⟨u0, u1⟩ | u0
    · skip
      have e : ownE 1 n 0 ⟨#[]⟩ 0 ne = 10 := by simp [ownE, kindBad, nan0, empty_bad, empty_size, v3, u0, u1]
      go_enter Tryz.func50, Tryz.ntmps50
      go_wp2_with fail
      go_quiet (fail)
      go_wp2_with fail
      try go_ret
      exact ⟨by rw [e]; rfl, ((Below.refl _ w).alloc (Nat.le_refl _) _).trans (Gx.drewN_below _ _ _)⟩
    · skip
      have e : ownE 1 n 0 ⟨#[]⟩ 0 ne = 10 := by simp [ownE, kindBad, nan0, empty_bad, empty_size, v3, u0]
      go_enter Tryz.func50, Tryz.ntmps50
      go_wp2_with fail
      go_quiet (fail)
      go_wp2_with fail
      try go_ret
      exact ⟨by rw [e]; rfl, ((Below.refl _ w).alloc (Nat.le_refl _) _).trans (Gx.drewN_below _ _ _)⟩
  subst hne
  clear he
  rcases hnn with ⟨u0, u1⟩ | u0
  · skip
    have hTT : ∀ nq, Tabs ((w.alloc (.cells #[.int .i64 1, .int .i64 n, .int .u64 0, .string ⟨#[]⟩, .slice ad 0 cl, .slice bd 0 ce] 26)).drewN nq) := fun nq => hT.keep (((Below.refl _ w).alloc (Nat.le_refl _) _).trans (Gx.drewN_below _ nq _))
    have HTT := Lib.hid hTT
    clear hTT hT
    go_enter Tryz.func50, Tryz.ntmps50
    go_wp2_with fail
    go_quiet (fail)
    go_wp2_with fail
    refine (bad_any ⟨#[]⟩ _ (HTT.out nq) (by first | omega | decide)).mono ?_
    rintro e w2 ⟨b, rfl, hb, hbw⟩
    have HBW := Lib.hid (Below.trans (((Below.refl w.heap.size w).alloc (Nat.le_refl _) _).trans (Gx.drewN_below _ nq _)) (hbw.mono (by simp)))
    clear hbw
    by_cases hok : okText (ByteArray.mk #[]).data.toList
    · have hlt := hb.2 hok
      have e : ownE 1 n 0 ⟨#[]⟩ 0 0 = 0 := by simp [ownE, kindBad, hok, nan0, empty_bad, empty_size, u0, u1]
      have t1 : decide (0 ≤ b) = false := decide_eq_false (by omega)
      clear hb hok
      go_wp2_with fail
      try go_ret
      exact ⟨by rw [e]; rfl, HBW.out⟩
    · have hlt : 0 ≤ b := Int.not_lt.1 (fun h => hok (hb.1 h))
      have e : ownE 1 n 0 ⟨#[]⟩ 0 0 = 3 := by simp [ownE, kindBad, hok, nan0, empty_bad, empty_size, u0, u1]
      have t1 : decide (0 ≤ b) = true := decide_eq_true hlt
      clear hb hok
      go_wp2_with fail
      try go_ret
      exact ⟨by rw [e]; rfl, HBW.out⟩
  · skip
    have hTT : ∀ nq, Tabs ((w.alloc (.cells #[.int .i64 1, .int .i64 n, .int .u64 0, .string ⟨#[]⟩, .slice ad 0 cl, .slice bd 0 ce] 26)).drewN nq) := fun nq => hT.keep (((Below.refl _ w).alloc (Nat.le_refl _) _).trans (Gx.drewN_below _ nq _))
    have HTT := Lib.hid hTT
    clear hTT hT
    go_enter Tryz.func50, Tryz.ntmps50
    go_wp2_with fail
    go_quiet (fail)
    go_wp2_with fail
    refine (bad_any ⟨#[]⟩ _ (HTT.out nq) (by first | omega | decide)).mono ?_
    rintro e w2 ⟨b, rfl, hb, hbw⟩
    have HBW := Lib.hid (Below.trans (((Below.refl w.heap.size w).alloc (Nat.le_refl _) _).trans (Gx.drewN_below _ nq _)) (hbw.mono (by simp)))
    clear hbw
    by_cases hok : okText (ByteArray.mk #[]).data.toList
    · have hlt := hb.2 hok
      have e : ownE 1 n 0 ⟨#[]⟩ 0 0 = 0 := by simp [ownE, kindBad, hok, nan0, empty_bad, empty_size, u0]
      have t1 : decide (0 ≤ b) = false := decide_eq_false (by omega)
      clear hb hok
      go_wp2_with fail
      try go_ret
      exact ⟨by rw [e]; rfl, HBW.out⟩
    · have hlt : 0 ≤ b := Int.not_lt.1 (fun h => hok (hb.1 h))
      have e : ownE 1 n 0 ⟨#[]⟩ 0 0 = 3 := by simp [ownE, kindBad, hok, nan0, empty_bad, empty_size, u0]
      have t1 : decide (0 ≤ b) = true := decide_eq_true hlt
      clear hb hok
      go_wp2_with fail
      try go_ret
      exact ⟨by rw [e]; rfl, HBW.out⟩
set_option maxHeartbeats 8000000 in
theorem own_4 (n f : Int) (s : ByteArray) (ad bd : Option Addr) (nl ne cl ce : Nat) (w : World) (a : Int) (h0 : 0 ≤ a) (h1 : a < 20) (hf0 : 0 ≤ f) (hf1 : f ≤ 18446744073709551615) (hl : nl ≤ 1000000000000000) (he : ne ≤ 1000000000000000) (hs : s.size ≤ 1000000000000000) (hT : Tabs w) :
  Calls Tryz.prog 50 #[.agg #[.int .i64 4, .int .i64 n, .int .u64 f, .string s, .slice ad nl cl, .slice bd ne ce], .int .i64 a] w (OwnPost (ownE 4 n f s nl ne) w) := by
  have t20 : decide (20 ≤ a) = false := decide_eq_false (by omega)
  by_cases hn : n = 0
  rotate_left
  · have u0 : (n != 0) = true := by simpa using hn
    clear hn
    have e : ownE 4 n f s nl ne = 10 := by simp [ownE, kindBad, u0]
    go_enter Tryz.func50, Tryz.ntmps50
    go_wp2_with fail
    go_quiet (fail)
    go_wp2_with fail
    try go_ret
    exact ⟨by rw [e]; rfl, ((Below.refl _ w).alloc (Nat.le_refl _) _).trans (Gx.drewN_below _ _ _)⟩
  subst hn
  by_cases hf : f = 0
  rotate_left
  · have u2 : (f != 0) = true := by simpa using hf
    clear hf
    have e : ownE 4 0 f s nl ne = 10 := by simp [ownE, kindBad, u2]
    go_enter Tryz.func50, Tryz.ntmps50
    go_wp2_with fail
    go_quiet (fail)
    go_wp2_with fail
    try go_ret
    exact ⟨by rw [e]; rfl, ((Below.refl _ w).alloc (Nat.le_refl _) _).trans (Gx.drewN_below _ _ _)⟩
  subst hf
  clear hf0 hf1
  by_cases hnl : nl = 0
  rotate_left
  · have v2 : 0 < nl := by omega
    clear hnl
    have e : ownE 4 0 0 s nl ne = 10 := by simp [ownE, kindBad, nan0, v2]
    go_enter Tryz.func50, Tryz.ntmps50
    go_wp2_with fail
    go_quiet (fail)
    go_wp2_with fail
    try go_ret
    exact ⟨by rw [e]; rfl, ((Below.refl _ w).alloc (Nat.le_refl _) _).trans (Gx.drewN_below _ _ _)⟩
  subst hnl
  clear hl
  by_cases hne : ne = 0
  rotate_left
  · have v3 : 0 < ne := by omega
    clear hne
    have e : ownE 4 0 0 s 0 ne = 10 := by simp [ownE, kindBad, nan0, v3]
    go_enter Tryz.func50, Tryz.ntmps50
    go_wp2_with fail
    go_quiet (fail)
    go_wp2_with fail
    try go_ret
    exact ⟨by rw [e]; rfl, ((Below.refl _ w).alloc (Nat.le_refl _) _).trans (Gx.drewN_below _ _ _)⟩
  subst hne
  clear he
  by_cases hbig : 4000 < s.size
  · have v4 : decide ((4000 : Int) < (s.size : Int)) = true := decide_eq_true (by omega)
    have e : ownE 4 0 0 s 0 0 = 2 := by simp [ownE, kindBad, nan0, hbig]
    go_enter Tryz.func50, Tryz.ntmps50
    go_wp2_with fail
    go_quiet (fail)
    go_wp2_with fail
    try go_ret
    exact ⟨by rw [e]; rfl, ((Below.refl _ w).alloc (Nat.le_refl _) _).trans (Gx.drewN_below _ _ _)⟩
  have v4 : decide ((4000 : Int) < (s.size : Int)) = false := decide_eq_false (by omega)
  have hTT : ∀ nq, Tabs ((w.alloc (.cells #[.int .i64 4, .int .i64 0, .int .u64 0, .string s, .slice ad 0 cl, .slice bd 0 ce] 26)).drewN nq) := fun nq => hT.keep (((Below.refl _ w).alloc (Nat.le_refl _) _).trans (Gx.drewN_below _ nq _))
  have HTT := Lib.hid hTT
  clear hTT hT
  go_enter Tryz.func50, Tryz.ntmps50
  go_wp2_with fail
  go_quiet (fail)
  go_wp2_with fail
  refine (bad_any s _ (HTT.out nq) (by first | omega | decide)).mono ?_
  rintro e w2 ⟨b, rfl, hb, hbw⟩
  have HBW := Lib.hid (Below.trans (((Below.refl w.heap.size w).alloc (Nat.le_refl _) _).trans (Gx.drewN_below _ nq _)) (hbw.mono (by simp)))
  clear hbw
  by_cases hok : okText s.data.toList
  · have hlt := hb.2 hok
    have e : ownE 4 0 0 s 0 0 = 0 := by simp [ownE, kindBad, hok, nan0, hbig]
    have t1 : decide (0 ≤ b) = false := decide_eq_false (by omega)
    clear hb hok
    go_wp2_with fail
    try go_ret
    exact ⟨by rw [e]; rfl, HBW.out⟩
  · have hlt : 0 ≤ b := Int.not_lt.1 (fun h => hok (hb.1 h))
    have e : ownE 4 0 0 s 0 0 = 3 := by simp [ownE, kindBad, hok, nan0, hbig]
    have t1 : decide (0 ≤ b) = true := decide_eq_true hlt
    clear hb hok
    go_wp2_with fail
    try go_ret
    exact ⟨by rw [e]; rfl, HBW.out⟩
end Go.Proofs.YtldhmfkojaekfaaGreatDoor
namespace Go.Proofs.YtldhmfkojaekfaaGreatDoor
open Go.RowKit Gx
set_option maxRecDepth 100000
set_option maxHeartbeats 8000000 in
theorem own_3 (n f : Int) (s : ByteArray) (ad bd : Option Addr) (nl ne cl ce : Nat) (w : World) (a : Int) (h0 : 0 ≤ a) (h1 : a < 20) (hf0 : 0 ≤ f) (hf1 : f ≤ 18446744073709551615) (hl : nl ≤ 1000000000000000) (he : ne ≤ 1000000000000000) (hs : s.size ≤ 1000000000000000) (hT : Tabs w) :
  Calls Tryz.prog 50 #[.agg #[.int .i64 3, .int .i64 n, .int .u64 f, .string s, .slice ad nl cl, .slice bd ne ce], .int .i64 a] w (OwnPost (ownE 3 n f s nl ne) w) := by
  have t20 : decide (20 ≤ a) = false := decide_eq_false (by omega)
  by_cases hn : n = 0
  rotate_left
  · have u0 : (n != 0) = true := by simpa using hn
    clear hn
    have e : ownE 3 n f s nl ne = 10 := by simp [ownE, kindBad, u0]
    go_enter Tryz.func50, Tryz.ntmps50
    go_wp2_with fail
    go_quiet (fail)
    go_wp2_with fail
    try go_ret
    exact ⟨by rw [e]; rfl, ((Below.refl _ w).alloc (Nat.le_refl _) _).trans (Gx.drewN_below _ _ _)⟩
  subst hn
  obtain ⟨E, hE⟩ : ∃ E, bits .and .u64 (f / 4503599627370496) 2047 = E := ⟨_, rfl⟩
  obtain ⟨G, hG⟩ : ∃ G, bits .and .u64 f 4503599627370495 = G := ⟨_, rfl⟩
  have hnan := nan_of hE hG
  by_cases hnb : nanBad f = true
  · have hq : (E == 2047) = true ∧ (G != 0) = true ∧ (f != 9221120237041090561) = true := by rw [hnan] at hnb; simpa [and_assoc] using hnb
    obtain ⟨u1, u2, u3⟩ := hq
    clear hnan
    have e : ownE 3 0 f s nl ne = 10 := by simp [ownE, kindBad, hnb]
    clear hnb
    go_enter Tryz.func50, Tryz.ntmps50
    go_wp2_with fail
    go_quiet (fail)
    go_wp2_with fail
    try go_ret
    exact ⟨by rw [e]; rfl, ((Below.refl _ w).alloc (Nat.le_refl _) _).trans (Gx.drewN_below _ _ _)⟩
  have hnf : nanBad f = false := by simpa using hnb
  have hq : (E == 2047) = false ∨ ((E == 2047) = true ∧ (G != 0) = false) ∨ ((E == 2047) = true ∧ (G != 0) = true ∧ (f != 9221120237041090561) = false) := by
    rw [hnan] at hnf
    revert hnf
    generalize (E == 2047) = x1
    generalize (G != 0) = x2
    generalize (f != 9221120237041090561) = x3
    revert x1 x2 x3; decide
  have HNF := Lib.hid hnf
  clear hnb hnan hnf
  by_cases hse : s.toList.isEmpty = true
  rotate_left
  · have v0 : s.toList.isEmpty = false := by simpa using hse
    have v1 : (!s.toList.isEmpty) = true := by rw [v0]; rfl
    clear hse
    rcases hq with u1 | ⟨u1, u2⟩ | ⟨u1, u2, u3⟩
    · skip
      have e : ownE 3 0 f s nl ne = 10 := by simp [ownE, kindBad, HNF.out, v0]
      go_enter Tryz.func50, Tryz.ntmps50
      go_wp2_with fail
      go_quiet (fail)
      go_wp2_with fail
      try go_ret
      exact ⟨by rw [e]; rfl, ((Below.refl _ w).alloc (Nat.le_refl _) _).trans (Gx.drewN_below _ _ _)⟩
    · skip
      have e : ownE 3 0 f s nl ne = 10 := by simp [ownE, kindBad, HNF.out, v0]
      go_enter Tryz.func50, Tryz.ntmps50
      go_wp2_with fail
      go_quiet (fail)
      go_wp2_with fail
      try go_ret
      exact ⟨by rw [e]; rfl, ((Below.refl _ w).alloc (Nat.le_refl _) _).trans (Gx.drewN_below _ _ _)⟩
    · skip
      have e : ownE 3 0 f s nl ne = 10 := by simp [ownE, kindBad, HNF.out, v0]
      go_enter Tryz.func50, Tryz.ntmps50
      go_wp2_with fail
      go_quiet (fail)
      go_wp2_with fail
      try go_ret
      exact ⟨by rw [e]; rfl, ((Below.refl _ w).alloc (Nat.le_refl _) _).trans (Gx.drewN_below _ _ _)⟩
  obtain rfl := empty_of hse
  clear hse hs
  by_cases hnl : nl = 0
  rotate_left
  · have v2 : 0 < nl := by omega
    clear hnl
    rcases hq with u1 | ⟨u1, u2⟩ | ⟨u1, u2, u3⟩
    · skip
      have e : ownE 3 0 f ⟨#[]⟩ nl ne = 10 := by simp [ownE, kindBad, HNF.out, empty_bad, empty_size, v2]
      go_enter Tryz.func50, Tryz.ntmps50
      go_wp2_with fail
      go_quiet (fail)
      go_wp2_with fail
      try go_ret
      exact ⟨by rw [e]; rfl, ((Below.refl _ w).alloc (Nat.le_refl _) _).trans (Gx.drewN_below _ _ _)⟩
    · skip
      have e : ownE 3 0 f ⟨#[]⟩ nl ne = 10 := by simp [ownE, kindBad, HNF.out, empty_bad, empty_size, v2]
      go_enter Tryz.func50, Tryz.ntmps50
      go_wp2_with fail
      go_quiet (fail)
      go_wp2_with fail
      try go_ret
      exact ⟨by rw [e]; rfl, ((Below.refl _ w).alloc (Nat.le_refl _) _).trans (Gx.drewN_below _ _ _)⟩
    · skip
      have e : ownE 3 0 f ⟨#[]⟩ nl ne = 10 := by simp [ownE, kindBad, HNF.out, empty_bad, empty_size, v2]
      go_enter Tryz.func50, Tryz.ntmps50
      go_wp2_with fail
      go_quiet (fail)
      go_wp2_with fail
      try go_ret
      exact ⟨by rw [e]; rfl, ((Below.refl _ w).alloc (Nat.le_refl _) _).trans (Gx.drewN_below _ _ _)⟩
  subst hnl
  clear hl
  by_cases hne : ne = 0
  rotate_left
  · have v3 : 0 < ne := by omega
    clear hne
    rcases hq with u1 | ⟨u1, u2⟩ | ⟨u1, u2, u3⟩
    · skip
      have e : ownE 3 0 f ⟨#[]⟩ 0 ne = 10 := by simp [ownE, kindBad, HNF.out, empty_bad, empty_size, v3]
      go_enter Tryz.func50, Tryz.ntmps50
      go_wp2_with fail
      go_quiet (fail)
      go_wp2_with fail
      try go_ret
      exact ⟨by rw [e]; rfl, ((Below.refl _ w).alloc (Nat.le_refl _) _).trans (Gx.drewN_below _ _ _)⟩
    · skip
      have e : ownE 3 0 f ⟨#[]⟩ 0 ne = 10 := by simp [ownE, kindBad, HNF.out, empty_bad, empty_size, v3]
      go_enter Tryz.func50, Tryz.ntmps50
      go_wp2_with fail
      go_quiet (fail)
      go_wp2_with fail
      try go_ret
      exact ⟨by rw [e]; rfl, ((Below.refl _ w).alloc (Nat.le_refl _) _).trans (Gx.drewN_below _ _ _)⟩
    · skip
      have e : ownE 3 0 f ⟨#[]⟩ 0 ne = 10 := by simp [ownE, kindBad, HNF.out, empty_bad, empty_size, v3]
      go_enter Tryz.func50, Tryz.ntmps50
      go_wp2_with fail
      go_quiet (fail)
      go_wp2_with fail
      try go_ret
      exact ⟨by rw [e]; rfl, ((Below.refl _ w).alloc (Nat.le_refl _) _).trans (Gx.drewN_below _ _ _)⟩
  subst hne
  clear he
  rcases hq with u1 | ⟨u1, u2⟩ | ⟨u1, u2, u3⟩
  · skip
    have hTT : ∀ nq, Tabs ((w.alloc (.cells #[.int .i64 3, .int .i64 0, .int .u64 f, .string ⟨#[]⟩, .slice ad 0 cl, .slice bd 0 ce] 26)).drewN nq) := fun nq => hT.keep (((Below.refl _ w).alloc (Nat.le_refl _) _).trans (Gx.drewN_below _ nq _))
    have HTT := Lib.hid hTT
    clear hTT hT
    go_enter Tryz.func50, Tryz.ntmps50
    go_wp2_with fail
    go_quiet (fail)
    go_wp2_with fail
    refine (bad_any ⟨#[]⟩ _ (HTT.out nq) (by first | omega | decide)).mono ?_
    rintro e w2 ⟨b, rfl, hb, hbw⟩
    have HBW := Lib.hid (Below.trans (((Below.refl w.heap.size w).alloc (Nat.le_refl _) _).trans (Gx.drewN_below _ nq _)) (hbw.mono (by simp)))
    clear hbw
    by_cases hok : okText (ByteArray.mk #[]).data.toList
    · have hlt := hb.2 hok
      have e : ownE 3 0 f ⟨#[]⟩ 0 0 = 0 := by simp [ownE, kindBad, hok, HNF.out, empty_bad, empty_size]
      have t1 : decide (0 ≤ b) = false := decide_eq_false (by omega)
      clear hb hok
      go_wp2_with fail
      try go_ret
      exact ⟨by rw [e]; rfl, HBW.out⟩
    · have hlt : 0 ≤ b := Int.not_lt.1 (fun h => hok (hb.1 h))
      have e : ownE 3 0 f ⟨#[]⟩ 0 0 = 3 := by simp [ownE, kindBad, hok, HNF.out, empty_bad, empty_size]
      have t1 : decide (0 ≤ b) = true := decide_eq_true hlt
      clear hb hok
      go_wp2_with fail
      try go_ret
      exact ⟨by rw [e]; rfl, HBW.out⟩
  · skip
    have hTT : ∀ nq, Tabs ((w.alloc (.cells #[.int .i64 3, .int .i64 0, .int .u64 f, .string ⟨#[]⟩, .slice ad 0 cl, .slice bd 0 ce] 26)).drewN nq) := fun nq => hT.keep (((Below.refl _ w).alloc (Nat.le_refl _) _).trans (Gx.drewN_below _ nq _))
    have HTT := Lib.hid hTT
    clear hTT hT
    go_enter Tryz.func50, Tryz.ntmps50
    go_wp2_with fail
    go_quiet (fail)
    go_wp2_with fail
    refine (bad_any ⟨#[]⟩ _ (HTT.out nq) (by first | omega | decide)).mono ?_
    rintro e w2 ⟨b, rfl, hb, hbw⟩
    have HBW := Lib.hid (Below.trans (((Below.refl w.heap.size w).alloc (Nat.le_refl _) _).trans (Gx.drewN_below _ nq _)) (hbw.mono (by simp)))
    clear hbw
    by_cases hok : okText (ByteArray.mk #[]).data.toList
    · have hlt := hb.2 hok
      have e : ownE 3 0 f ⟨#[]⟩ 0 0 = 0 := by simp [ownE, kindBad, hok, HNF.out, empty_bad, empty_size]
      have t1 : decide (0 ≤ b) = false := decide_eq_false (by omega)
      clear hb hok
      go_wp2_with fail
      try go_ret
      exact ⟨by rw [e]; rfl, HBW.out⟩
    · have hlt : 0 ≤ b := Int.not_lt.1 (fun h => hok (hb.1 h))
      have e : ownE 3 0 f ⟨#[]⟩ 0 0 = 3 := by simp [ownE, kindBad, hok, HNF.out, empty_bad, empty_size]
      have t1 : decide (0 ≤ b) = true := decide_eq_true hlt
      clear hb hok
      go_wp2_with fail
      try go_ret
      exact ⟨by rw [e]; rfl, HBW.out⟩
  · skip
    have hTT : ∀ nq, Tabs ((w.alloc (.cells #[.int .i64 3, .int .i64 0, .int .u64 f, .string ⟨#[]⟩, .slice ad 0 cl, .slice bd 0 ce] 26)).drewN nq) := fun nq => hT.keep (((Below.refl _ w).alloc (Nat.le_refl _) _).trans (Gx.drewN_below _ nq _))
    have HTT := Lib.hid hTT
    clear hTT hT
    go_enter Tryz.func50, Tryz.ntmps50
    go_wp2_with fail
    go_quiet (fail)
    go_wp2_with fail
    refine (bad_any ⟨#[]⟩ _ (HTT.out nq) (by first | omega | decide)).mono ?_
    rintro e w2 ⟨b, rfl, hb, hbw⟩
    have HBW := Lib.hid (Below.trans (((Below.refl w.heap.size w).alloc (Nat.le_refl _) _).trans (Gx.drewN_below _ nq _)) (hbw.mono (by simp)))
    clear hbw
    by_cases hok : okText (ByteArray.mk #[]).data.toList
    · have hlt := hb.2 hok
      have e : ownE 3 0 f ⟨#[]⟩ 0 0 = 0 := by simp [ownE, kindBad, hok, HNF.out, empty_bad, empty_size]
      have t1 : decide (0 ≤ b) = false := decide_eq_false (by omega)
      clear hb hok
      go_wp2_with fail
      try go_ret
      exact ⟨by rw [e]; rfl, HBW.out⟩
    · have hlt : 0 ≤ b := Int.not_lt.1 (fun h => hok (hb.1 h))
      have e : ownE 3 0 f ⟨#[]⟩ 0 0 = 3 := by simp [ownE, kindBad, hok, HNF.out, empty_bad, empty_size]
      have t1 : decide (0 ≤ b) = true := decide_eq_true hlt
      clear hb hok
      go_wp2_with fail
      try go_ret
      exact ⟨by rw [e]; rfl, HBW.out⟩
end Go.Proofs.YtldhmfkojaekfaaGreatDoor
namespace Go.Proofs.YtldhmfkojaekfaaGreatDoor
open Go.RowKit Gx
set_option maxRecDepth 100000
set_option maxHeartbeats 8000000 in
theorem own_2 (n f : Int) (s : ByteArray) (ad bd : Option Addr) (nl ne cl ce : Nat) (w : World) (a : Int) (h0 : 0 ≤ a) (h1 : a < 20) (hf0 : 0 ≤ f) (hf1 : f ≤ 18446744073709551615) (hl : nl ≤ 1000000000000000) (he : ne ≤ 1000000000000000) (hs : s.size ≤ 1000000000000000) (hT : Tabs w) :
  Calls Tryz.prog 50 #[.agg #[.int .i64 2, .int .i64 n, .int .u64 f, .string s, .slice ad nl cl, .slice bd ne ce], .int .i64 a] w (OwnPost (ownE 2 n f s nl ne) w) := by
  have t20 : decide (20 ≤ a) = false := decide_eq_false (by omega)
  by_cases hf : f = 0
  rotate_left
  · have u2 : (f != 0) = true := by simpa using hf
    clear hf
    have e : ownE 2 n f s nl ne = 10 := by simp [ownE, kindBad, u2]
    go_enter Tryz.func50, Tryz.ntmps50
    go_wp2_with fail
    go_quiet (fail)
    go_wp2_with fail
    try go_ret
    exact ⟨by rw [e]; rfl, ((Below.refl _ w).alloc (Nat.le_refl _) _).trans (Gx.drewN_below _ _ _)⟩
  subst hf
  clear hf0 hf1
  by_cases hse : s.toList.isEmpty = true
  rotate_left
  · have v0 : s.toList.isEmpty = false := by simpa using hse
    have v1 : (!s.toList.isEmpty) = true := by rw [v0]; rfl
    clear hse
    have e : ownE 2 n 0 s nl ne = 10 := by simp [ownE, kindBad, nan0, v0]
    go_enter Tryz.func50, Tryz.ntmps50
    go_wp2_with fail
    go_quiet (fail)
    go_wp2_with fail
    try go_ret
    exact ⟨by rw [e]; rfl, ((Below.refl _ w).alloc (Nat.le_refl _) _).trans (Gx.drewN_below _ _ _)⟩
  obtain rfl := empty_of hse
  clear hse hs
  by_cases hnl : nl = 0
  rotate_left
  · have v2 : 0 < nl := by omega
    clear hnl
    have e : ownE 2 n 0 ⟨#[]⟩ nl ne = 10 := by simp [ownE, kindBad, nan0, empty_bad, empty_size, v2]
    go_enter Tryz.func50, Tryz.ntmps50
    go_wp2_with fail
    go_quiet (fail)
    go_wp2_with fail
    try go_ret
    exact ⟨by rw [e]; rfl, ((Below.refl _ w).alloc (Nat.le_refl _) _).trans (Gx.drewN_below _ _ _)⟩
  subst hnl
  clear hl
  by_cases hne : ne = 0
  rotate_left
  · have v3 : 0 < ne := by omega
    clear hne
    have e : ownE 2 n 0 ⟨#[]⟩ 0 ne = 10 := by simp [ownE, kindBad, nan0, empty_bad, empty_size, v3]
    go_enter Tryz.func50, Tryz.ntmps50
    go_wp2_with fail
    go_quiet (fail)
    go_wp2_with fail
    try go_ret
    exact ⟨by rw [e]; rfl, ((Below.refl _ w).alloc (Nat.le_refl _) _).trans (Gx.drewN_below _ _ _)⟩
  subst hne
  clear he
  have hTT : ∀ nq, Tabs ((w.alloc (.cells #[.int .i64 2, .int .i64 n, .int .u64 0, .string ⟨#[]⟩, .slice ad 0 cl, .slice bd 0 ce] 26)).drewN nq) := fun nq => hT.keep (((Below.refl _ w).alloc (Nat.le_refl _) _).trans (Gx.drewN_below _ nq _))
  have HTT := Lib.hid hTT
  clear hTT hT
  go_enter Tryz.func50, Tryz.ntmps50
  go_wp2_with fail
  go_quiet (fail)
  go_wp2_with fail
  refine (bad_any ⟨#[]⟩ _ (HTT.out nq) (by first | omega | decide)).mono ?_
  rintro e w2 ⟨b, rfl, hb, hbw⟩
  have HBW := Lib.hid (Below.trans (((Below.refl w.heap.size w).alloc (Nat.le_refl _) _).trans (Gx.drewN_below _ nq _)) (hbw.mono (by simp)))
  clear hbw
  by_cases hok : okText (ByteArray.mk #[]).data.toList
  · have hlt := hb.2 hok
    have e : ownE 2 n 0 ⟨#[]⟩ 0 0 = 0 := by simp [ownE, kindBad, hok, nan0, empty_bad, empty_size]
    have t1 : decide (0 ≤ b) = false := decide_eq_false (by omega)
    clear hb hok
    go_wp2_with fail
    try go_ret
    exact ⟨by rw [e]; rfl, HBW.out⟩
  · have hlt : 0 ≤ b := Int.not_lt.1 (fun h => hok (hb.1 h))
    have e : ownE 2 n 0 ⟨#[]⟩ 0 0 = 3 := by simp [ownE, kindBad, hok, nan0, empty_bad, empty_size]
    have t1 : decide (0 ≤ b) = true := decide_eq_true hlt
    clear hb hok
    go_wp2_with fail
    try go_ret
    exact ⟨by rw [e]; rfl, HBW.out⟩
set_option maxHeartbeats 8000000 in
theorem own_5 (n f : Int) (s : ByteArray) (ad bd : Option Addr) (nl ne cl ce : Nat) (w : World) (a : Int) (h0 : 0 ≤ a) (h1 : a < 20) (hf0 : 0 ≤ f) (hf1 : f ≤ 18446744073709551615) (hl : nl ≤ 1000000000000000) (he : ne ≤ 1000000000000000) (hs : s.size ≤ 1000000000000000) (hT : Tabs w) :
  Calls Tryz.prog 50 #[.agg #[.int .i64 5, .int .i64 n, .int .u64 f, .string s, .slice ad nl cl, .slice bd ne ce], .int .i64 a] w (OwnPost (ownE 5 n f s nl ne) w) := by
  have t20 : decide (20 ≤ a) = false := decide_eq_false (by omega)
  by_cases hn : n = 0
  rotate_left
  · have u0 : (n != 0) = true := by simpa using hn
    clear hn
    have e : ownE 5 n f s nl ne = 10 := by simp [ownE, kindBad, u0]
    go_enter Tryz.func50, Tryz.ntmps50
    go_wp2_with fail
    go_quiet (fail)
    go_wp2_with fail
    try go_ret
    exact ⟨by rw [e]; rfl, ((Below.refl _ w).alloc (Nat.le_refl _) _).trans (Gx.drewN_below _ _ _)⟩
  subst hn
  by_cases hf : f = 0
  rotate_left
  · have u2 : (f != 0) = true := by simpa using hf
    clear hf
    have e : ownE 5 0 f s nl ne = 10 := by simp [ownE, kindBad, u2]
    go_enter Tryz.func50, Tryz.ntmps50
    go_wp2_with fail
    go_quiet (fail)
    go_wp2_with fail
    try go_ret
    exact ⟨by rw [e]; rfl, ((Below.refl _ w).alloc (Nat.le_refl _) _).trans (Gx.drewN_below _ _ _)⟩
  subst hf
  clear hf0 hf1
  by_cases hse : s.toList.isEmpty = true
  rotate_left
  · have v0 : s.toList.isEmpty = false := by simpa using hse
    have v1 : (!s.toList.isEmpty) = true := by rw [v0]; rfl
    clear hse
    have e : ownE 5 0 0 s nl ne = 10 := by simp [ownE, kindBad, nan0, v0]
    go_enter Tryz.func50, Tryz.ntmps50
    go_wp2_with fail
    go_quiet (fail)
    go_wp2_with fail
    try go_ret
    exact ⟨by rw [e]; rfl, ((Below.refl _ w).alloc (Nat.le_refl _) _).trans (Gx.drewN_below _ _ _)⟩
  obtain rfl := empty_of hse
  clear hse hs
  by_cases hne : ne = 0
  rotate_left
  · have v3 : 0 < ne := by omega
    clear hne
    have e : ownE 5 0 0 ⟨#[]⟩ nl ne = 10 := by simp [ownE, kindBad, nan0, empty_bad, empty_size, v3]
    go_enter Tryz.func50, Tryz.ntmps50
    go_wp2_with fail
    go_quiet (fail)
    go_wp2_with fail
    try go_ret
    exact ⟨by rw [e]; rfl, ((Below.refl _ w).alloc (Nat.le_refl _) _).trans (Gx.drewN_below _ _ _)⟩
  subst hne
  clear he
  by_cases hbig : 200 < nl
  · have v4 : decide ((200 : Int) < (nl : Int)) = true := decide_eq_true (by omega)
    have e : ownE 5 0 0 ⟨#[]⟩ nl 0 = 2 := by simp [ownE, kindBad, nan0, empty_bad, empty_size, hbig]
    go_enter Tryz.func50, Tryz.ntmps50
    go_wp2_with fail
    go_quiet (fail)
    go_wp2_with fail
    try go_ret
    exact ⟨by rw [e]; rfl, ((Below.refl _ w).alloc (Nat.le_refl _) _).trans (Gx.drewN_below _ _ _)⟩
  have v4 : decide ((200 : Int) < (nl : Int)) = false := decide_eq_false (by omega)
  have hTT : ∀ nq, Tabs ((w.alloc (.cells #[.int .i64 5, .int .i64 0, .int .u64 0, .string ⟨#[]⟩, .slice ad nl cl, .slice bd 0 ce] 26)).drewN nq) := fun nq => hT.keep (((Below.refl _ w).alloc (Nat.le_refl _) _).trans (Gx.drewN_below _ nq _))
  have HTT := Lib.hid hTT
  clear hTT hT
  go_enter Tryz.func50, Tryz.ntmps50
  go_wp2_with fail
  go_quiet (fail)
  go_wp2_with fail
  refine (bad_any ⟨#[]⟩ _ (HTT.out nq) (by first | omega | decide)).mono ?_
  rintro e w2 ⟨b, rfl, hb, hbw⟩
  have HBW := Lib.hid (Below.trans (((Below.refl w.heap.size w).alloc (Nat.le_refl _) _).trans (Gx.drewN_below _ nq _)) (hbw.mono (by simp)))
  clear hbw
  by_cases hok : okText (ByteArray.mk #[]).data.toList
  · have hlt := hb.2 hok
    have e : ownE 5 0 0 ⟨#[]⟩ nl 0 = 0 := by simp [ownE, kindBad, hok, nan0, empty_bad, empty_size, hbig]
    have t1 : decide (0 ≤ b) = false := decide_eq_false (by omega)
    clear hb hok
    go_wp2_with fail
    try go_ret
    exact ⟨by rw [e]; rfl, HBW.out⟩
  · have hlt : 0 ≤ b := Int.not_lt.1 (fun h => hok (hb.1 h))
    have e : ownE 5 0 0 ⟨#[]⟩ nl 0 = 3 := by simp [ownE, kindBad, hok, nan0, empty_bad, empty_size, hbig]
    have t1 : decide (0 ≤ b) = true := decide_eq_true hlt
    clear hb hok
    go_wp2_with fail
    try go_ret
    exact ⟨by rw [e]; rfl, HBW.out⟩
set_option maxHeartbeats 8000000 in
theorem own_6 (n f : Int) (s : ByteArray) (ad bd : Option Addr) (nl ne cl ce : Nat) (w : World) (a : Int) (h0 : 0 ≤ a) (h1 : a < 20) (hf0 : 0 ≤ f) (hf1 : f ≤ 18446744073709551615) (hl : nl ≤ 1000000000000000) (he : ne ≤ 1000000000000000) (hs : s.size ≤ 1000000000000000) (hT : Tabs w) :
  Calls Tryz.prog 50 #[.agg #[.int .i64 6, .int .i64 n, .int .u64 f, .string s, .slice ad nl cl, .slice bd ne ce], .int .i64 a] w (OwnPost (ownE 6 n f s nl ne) w) := by
  have t20 : decide (20 ≤ a) = false := decide_eq_false (by omega)
  by_cases hn : n = 0
  rotate_left
  · have u0 : (n != 0) = true := by simpa using hn
    clear hn
    have e : ownE 6 n f s nl ne = 10 := by simp [ownE, kindBad, u0]
    go_enter Tryz.func50, Tryz.ntmps50
    go_wp2_with fail
    go_quiet (fail)
    go_wp2_with fail
    try go_ret
    exact ⟨by rw [e]; rfl, ((Below.refl _ w).alloc (Nat.le_refl _) _).trans (Gx.drewN_below _ _ _)⟩
  subst hn
  by_cases hf : f = 0
  rotate_left
  · have u2 : (f != 0) = true := by simpa using hf
    clear hf
    have e : ownE 6 0 f s nl ne = 10 := by simp [ownE, kindBad, u2]
    go_enter Tryz.func50, Tryz.ntmps50
    go_wp2_with fail
    go_quiet (fail)
    go_wp2_with fail
    try go_ret
    exact ⟨by rw [e]; rfl, ((Below.refl _ w).alloc (Nat.le_refl _) _).trans (Gx.drewN_below _ _ _)⟩
  subst hf
  clear hf0 hf1
  by_cases hse : s.toList.isEmpty = true
  rotate_left
  · have v0 : s.toList.isEmpty = false := by simpa using hse
    have v1 : (!s.toList.isEmpty) = true := by rw [v0]; rfl
    clear hse
    have e : ownE 6 0 0 s nl ne = 10 := by simp [ownE, kindBad, nan0, v0]
    go_enter Tryz.func50, Tryz.ntmps50
    go_wp2_with fail
    go_quiet (fail)
    go_wp2_with fail
    try go_ret
    exact ⟨by rw [e]; rfl, ((Below.refl _ w).alloc (Nat.le_refl _) _).trans (Gx.drewN_below _ _ _)⟩
  obtain rfl := empty_of hse
  clear hse hs
  by_cases hnl : nl = 0
  rotate_left
  · have v2 : 0 < nl := by omega
    clear hnl
    have e : ownE 6 0 0 ⟨#[]⟩ nl ne = 10 := by simp [ownE, kindBad, nan0, empty_bad, empty_size, v2]
    go_enter Tryz.func50, Tryz.ntmps50
    go_wp2_with fail
    go_quiet (fail)
    go_wp2_with fail
    try go_ret
    exact ⟨by rw [e]; rfl, ((Below.refl _ w).alloc (Nat.le_refl _) _).trans (Gx.drewN_below _ _ _)⟩
  subst hnl
  clear hl
  by_cases hbig : 200 < ne
  · have v4 : decide ((200 : Int) < (ne : Int)) = true := decide_eq_true (by omega)
    have e : ownE 6 0 0 ⟨#[]⟩ 0 ne = 2 := by simp [ownE, kindBad, nan0, empty_bad, empty_size, hbig]
    go_enter Tryz.func50, Tryz.ntmps50
    go_wp2_with fail
    go_quiet (fail)
    go_wp2_with fail
    try go_ret
    exact ⟨by rw [e]; rfl, ((Below.refl _ w).alloc (Nat.le_refl _) _).trans (Gx.drewN_below _ _ _)⟩
  have v4 : decide ((200 : Int) < (ne : Int)) = false := decide_eq_false (by omega)
  have hTT : ∀ nq, Tabs ((w.alloc (.cells #[.int .i64 6, .int .i64 0, .int .u64 0, .string ⟨#[]⟩, .slice ad 0 cl, .slice bd ne ce] 26)).drewN nq) := fun nq => hT.keep (((Below.refl _ w).alloc (Nat.le_refl _) _).trans (Gx.drewN_below _ nq _))
  have HTT := Lib.hid hTT
  clear hTT hT
  go_enter Tryz.func50, Tryz.ntmps50
  go_wp2_with fail
  go_quiet (fail)
  go_wp2_with fail
  refine (bad_any ⟨#[]⟩ _ (HTT.out nq) (by first | omega | decide)).mono ?_
  rintro e w2 ⟨b, rfl, hb, hbw⟩
  have HBW := Lib.hid (Below.trans (((Below.refl w.heap.size w).alloc (Nat.le_refl _) _).trans (Gx.drewN_below _ nq _)) (hbw.mono (by simp)))
  clear hbw
  by_cases hok : okText (ByteArray.mk #[]).data.toList
  · have hlt := hb.2 hok
    have e : ownE 6 0 0 ⟨#[]⟩ 0 ne = 0 := by simp [ownE, kindBad, hok, nan0, empty_bad, empty_size, hbig]
    have t1 : decide (0 ≤ b) = false := decide_eq_false (by omega)
    clear hb hok
    go_wp2_with fail
    try go_ret
    exact ⟨by rw [e]; rfl, HBW.out⟩
  · have hlt : 0 ≤ b := Int.not_lt.1 (fun h => hok (hb.1 h))
    have e : ownE 6 0 0 ⟨#[]⟩ 0 ne = 3 := by simp [ownE, kindBad, hok, nan0, empty_bad, empty_size, hbig]
    have t1 : decide (0 ≤ b) = true := decide_eq_true hlt
    clear hb hok
    go_wp2_with fail
    try go_ret
    exact ⟨by rw [e]; rfl, HBW.out⟩
end Go.Proofs.YtldhmfkojaekfaaGreatDoor
namespace Go.Proofs.YtldhmfkojaekfaaGreatDoor
open Go.RowKit Gx
set_option maxRecDepth 100000
set_option maxHeartbeats 2000000 in
theorem own_deep (k n f : Int) (s : ByteArray) (ad bd : Option Addr) (nl ne cl ce : Nat) (w : World) (a : Int) (h1 : 20 ≤ a) :
    Calls Tryz.prog 50 #[.agg #[.int .i64 k, .int .i64 n, .int .u64 f, .string s, .slice ad nl cl, .slice bd ne ce], .int .i64 a] w (OwnPost 5 w) := by
  have t20 : decide (20 ≤ a) = true := decide_eq_true h1
  go_enter Tryz.func50, Tryz.ntmps50
  go_wp2_with fail
  try go_ret
  exact ⟨rfl, (Below.refl _ w).alloc (Nat.le_refl _) _⟩
set_option maxHeartbeats 2000000 in
theorem own_out (k n f : Int) (s : ByteArray) (ad bd : Option Addr) (nl ne cl ce : Nat) (w : World) (a : Int) (h0 : 0 ≤ a) (h1 : a < 20) (hf0 : 0 ≤ f) (hf1 : f ≤ 18446744073709551615) (hk : k < 0 ∨ 6 < k) :
    Calls Tryz.prog 50 #[.agg #[.int .i64 k, .int .i64 n, .int .u64 f, .string s, .slice ad nl cl, .slice bd ne ce], .int .i64 a] w (OwnPost (ownE k n f s nl ne) w) := by
  have t20 : decide (20 ≤ a) = false := decide_eq_false (by omega)
  have k1 : (k == 1) = false := by simp; omega
  have k2 : (k == 2) = false := by simp; omega
  rcases hk with hk | hk
  · have u0 : decide (k < 0) = true := decide_eq_true hk
    have e : ownE k n f s nl ne = 10 := by simp [ownE, kindBad, u0, hk]
    go_enter Tryz.func50, Tryz.ntmps50
    go_wp2_with fail
    go_quiet (fail)
    go_wp2_with fail
    try go_ret
    exact ⟨by rw [e]; rfl, ((Below.refl _ w).alloc (Nat.le_refl _) _).trans (Gx.drewN_below _ _ _)⟩
  · have u0 : decide (k < 0) = false := decide_eq_false (by omega)
    have u1 : decide (6 < k) = true := decide_eq_true hk
    have e : ownE k n f s nl ne = 10 := by simp [ownE, kindBad, u0, hk]
    go_enter Tryz.func50, Tryz.ntmps50
    go_wp2_with fail
    go_quiet (fail)
    go_wp2_with fail
    try go_ret
    exact ⟨by rw [e]; rfl, ((Below.refl _ w).alloc (Nat.le_refl _) _).trans (Gx.drewN_below _ _ _)⟩
/-- whatever the kind -/
theorem own_all (k n f : Int) (s : ByteArray) (ad bd : Option Addr) (nl ne cl ce : Nat) (w : World) (a : Int) (h0 : 0 ≤ a) (h1 : a < 20) (hf0 : 0 ≤ f) (hf1 : f ≤ 18446744073709551615) (hl : nl ≤ 1000000000000000) (he : ne ≤ 1000000000000000) (hs : s.size ≤ 1000000000000000) (hT : Tabs w) :
    Calls Tryz.prog 50 #[.agg #[.int .i64 k, .int .i64 n, .int .u64 f, .string s, .slice ad nl cl, .slice bd ne ce], .int .i64 a] w (OwnPost (ownE k n f s nl ne) w) := by
  by_cases hk : k < 0 ∨ 6 < k
  · exact own_out k n f s ad bd nl ne cl ce w a h0 h1 hf0 hf1 hk
  have : k = 0 ∨ k = 1 ∨ k = 2 ∨ k = 3 ∨ k = 4 ∨ k = 5 ∨ k = 6 := by omega
  rcases this with rfl | rfl | rfl | rfl | rfl | rfl | rfl
  · exact own_0 n f s ad bd nl ne cl ce w a h0 h1 hf0 hf1 hl he hs hT
  · exact own_1 n f s ad bd nl ne cl ce w a h0 h1 hf0 hf1 hl he hs hT
  · exact own_2 n f s ad bd nl ne cl ce w a h0 h1 hf0 hf1 hl he hs hT
  · exact own_3 n f s ad bd nl ne cl ce w a h0 h1 hf0 hf1 hl he hs hT
  · exact own_4 n f s ad bd nl ne cl ce w a h0 h1 hf0 hf1 hl he hs hT
  · exact own_5 n f s ad bd nl ne cl ce w a h0 h1 hf0 hf1 hl he hs hT
  · exact own_6 n f s ad bd nl ne cl ce w a h0 h1 hf0 hf1 hl he hs hT
end Go.Proofs.YtldhmfkojaekfaaGreatDoor
namespace Go.Proofs.YtldhmfkojaekfaaGreatDoor
open Go.RowKit Go.Shelf Gx
attribute [local go_sem] Oper.semAt_some
set_option maxRecDepth 100000
theorem take_succ' {α : Type} {l : List α} {k : Nat} {x : α} (h : l[k]? = some x) : l.take (k + 1) = l.take k ++ [x] := by
  obtain ⟨hl, rfl⟩ := List.getElem?_eq_some_iff.1 h
  exact List.take_succ_eq_append_getElem hl
def ItPost {α : Type} (xs : List α) (J Jx : List α → World → Prop) (e : Ending) (w' : World) : Prop :=
  (∃ v, e = .returned v) ∧ ((∃ ys, ys = xs ∧ J ys w') ∨ (∃ pre, pre <+: xs ∧ Jx pre w'))

set_option maxHeartbeats 4000000 in
theorem parts1_in (n : Nat) (hn : 1 ≤ n) (l Bn n₀ M : Nat) (w0 : World) (q : Loc) (ls es : List (LocAt w0 n₀ M)) (hBn : Bw n₀ M Bn)
    (hls : LsAt w0 n₀ M q ls) (hes : EsAt w0 n₀ M q es) (hlb : ls.length ≤ 1000000000000000) (heb : es.length ≤ 1000000000000000)
    (J Jx : List (LocAt w0 n₀ M) → World → Prop) (W : World) (hW : KeM n₀ M w0 W) (hJ : AbidesFrom W.heap.size J)
    (hY : ∀ pre x W, J pre W → pre.length < ls.length + es.length → YieldAt Fence.wide (n - 1) Tryz.prog l #[x.1.val] W fun e W' =>
      (e = .returned (.bool true) ∧ J (pre ++ [x]) W' ∧ KeM n₀ M W W') ∨ (e = .returned (.bool false) ∧ Jx (pre ++ [x]) W'))
    (hb : W.heap[Bn]? = some (.cells #[.int .i64 q.v.k, .int .i64 q.v.n, .int .u64 q.v.f, .string q.v.s, .slice q.ad q.v.l.length q.cap, .slice q.bd q.v.e.length q.dap] 26)) (h0 : J [] W) :
    CallsIn Fence.wide n Tryz.prog 55 #[.func (.yield l) #[] #[], .pointer (some ⟨Bn, 0, none⟩)] W (ItPost (ls ++ es) J Jx) := by
  unfold Loc.val at hY
  have hBl : Bn < W.heap.size := (Array.getElem?_eq_some_iff.1 hb).1
  have c4 : W.cell? ⟨Bn, 4, none⟩ = some (.slice q.ad ls.length q.cap) := by rw [hls.len]; simp [World.cell?, hb]
  have c5 : ∀ w, KeM n₀ M W w → w.cell? ⟨Bn, 5, none⟩ = some (.slice q.bd es.length q.dap) := fun w hk => (hk.cell hBn hBl).trans (by rw [hes.len]; simp [World.cell?, hb])
  have hls := hls.2
  have hes := hes.2
  obtain ⟨v, ad, cap, bd, dap⟩ := q
  simp only at c4 c5 hls hes
  have C5 := Lib.hid c5
  have HJ := Lib.hid hJ
  have HY := Lib.hid hY
  have HLS := Lib.hid hls
  have HES := Lib.hid hes
  have HW := Lib.hid hW
  have H0 := Lib.hid h0
  obtain ⟨nl, hnl⟩ : ∃ nl, ls.length = nl := ⟨_, rfl⟩
  obtain ⟨ne, hne⟩ : ∃ ne, es.length = ne := ⟨_, rfl⟩
  rw [hnl] at c4 hlb
  rw [hne] at C5 heb
  have HNL := Lib.hid hnl
  have HNE := Lib.hid hne
  clear hb c5 hJ hY hls hes hW h0 hnl hne
  refine callsIn_of_wp Tryz.func55 rfl trivial ?_ rfl
  simp only [Tryz.ntmps55, List.size_toArray, List.length_cons, List.length_nil, Nat.reduceAdd, Nat.reduceSub, Array.replicate_succ, Array.replicate_zero, List.push_toArray, List.append_toArray, List.nil_append, List.cons_append]
  gi_wp2
  gi_loopw [10] (fun i wr => ∃ k : Nat, k ≤ nl ∧ i = .int .i64 k ∧ Hid (J (ls.take k) wr) ∧ Hid (KeM n₀ M W wr))
    (fun i _ => nl - (intOf i).toNat)
  case atStart => exact ⟨0, Nat.zero_le _, rfl, H0, Lib.hid (KeM.refl _ _ _)⟩
  case round =>
    obtain ⟨k, hk, rfl, hJs, hke⟩ := hrel
    by_cases hlt : k < nl
    · obtain ⟨x, hx⟩ : ∃ x, ls[k]? = some x := ⟨_, List.getElem?_eq_getElem (by rw [HNL.out]; exact hlt)⟩
      obtain ⟨b, off, rfl, hbb, hbl, g0, g1, g2, g3, g4, g5⟩ := HLS.out k x hx
      have hkk := HW.out.trans hke.out
      have q0 := (hkk.cell hbb hbl).trans g0
      have q1 := (hkk.cell hbb hbl).trans g1
      have q2 := (hkk.cell hbb hbl).trans g2
      have q3 := (hkk.cell hbb hbl).trans g3
      have q4 := (hkk.cell hbb hbl).trans g4
      have q5 := (hkk.cell hbb hbl).trans g5
      clear g0 g1 g2 g3 g4 g5 hkk
      have hJ2 : J (ls.take k) (wr.alloc (.cells #[.int .i64 x.1.v.k, .int .i64 x.1.v.n, .int .u64 x.1.v.f, .string x.1.v.s, .slice x.1.ad x.1.v.l.length x.1.cap, .slice x.1.bd x.1.v.e.length x.1.dap] 26)) := HJ.out _ _ _ none hJs.out (World.grownBy_alloc _ _ none) (fun r e => by cases e)
      have HX := Lib.hid hx
      obtain ⟨fn, tmps, assign, body, hy, hR⟩ := HY.out _ x _ hJ2 (by rw [List.length_take, HNL.out]; omega)
      have HR := Lib.hid hR
      clear hx hJ2 hR
      gi_wp2
      refine HR.out.mono ?_
      rintro e W3 (⟨rfl, hJ3, hk3⟩ | ⟨rfl, hJx3⟩)
      · have hke3 := (hke.out.trans (KeM.alloc n₀ M wr _)).trans hk3
        have HJ3 := Lib.hid hJ3
        have HKE3 := Lib.hid hke3
        clear hJ3 hke3 hk3
        gi_wp2
        go_roundw
        case rel => exact ⟨k + 1, by omega, by go_num, by rw [take_succ' HX.out]; exact HJ3, HKE3⟩
        case measure => simp [intOf]; omega
      · have HJX := Lib.hid hJx3
        clear hJx3
        gi_wp2
        refine bodyPost_ret (results_none rfl _ _ _) rfl ?_
        exact ⟨⟨_, rfl⟩, .inr ⟨_, (by rw [← take_succ' HX.out]; exact (List.take_prefix _ _).trans (List.prefix_append _ _)), HJX.out⟩⟩
    · obtain rfl : k = nl := by omega
      have hJ1 : J ls wr := by have := hJs.out; rwa [List.take_of_length_le (by rw [HNL.out]; exact Nat.le_refl _)] at this
      have HJ1 := Lib.hid hJ1
      have c5 := C5.out wr hke.out
      clear hJ1 hJs hk hlt
      obtain ⟨wo, hwo⟩ : ∃ wo : World, wo = wr := ⟨_, rfl⟩
      rw [← hwo] at hke HJ1 c5 ⊢
      clear hwo wr
      gi_wp2
      gi_loopw [22] (fun i wr => ∃ j : Nat, j ≤ ne ∧ i = .int .i64 j ∧ Hid (J (ls ++ es.take j) wr) ∧ Hid (KeM n₀ M wo wr))
        (fun i _ => ne - (intOf i).toNat)
      case atStart => exact ⟨0, Nat.zero_le _, rfl, (by rw [List.take_zero, List.append_nil]; exact HJ1), Lib.hid (KeM.refl _ _ _)⟩
      case round =>
        obtain ⟨j, hj, rfl, hJs, hke2⟩ := hrel
        by_cases hlt : j < ne
        · obtain ⟨x, hx⟩ : ∃ x, es[j]? = some x := ⟨_, List.getElem?_eq_getElem (by rw [HNE.out]; exact hlt)⟩
          obtain ⟨b, off, key, rfl, hbb, hbl, gk, gs⟩ := HES.out j x hx
          obtain ⟨g0, g1, g2, g3, g4, g5⟩ := gs.seven
          have hkk := (HW.out.trans hke.out).trans hke2.out
          have qk := (hkk.cell hbb hbl).trans gk
          have q0 := (hkk.cell hbb hbl).trans g0
          have q1 := (hkk.cell hbb hbl).trans g1
          have q2 := (hkk.cell hbb hbl).trans g2
          have q3 := (hkk.cell hbb hbl).trans g3
          have q4 := (hkk.cell hbb hbl).trans g4
          have q5 := (hkk.cell hbb hbl).trans g5
          clear gk gs g0 g1 g2 g3 g4 g5 hkk c5
          have hJ2 : J (ls ++ es.take j) (wr.alloc (.cells #[.string key, .int .i64 x.1.v.k, .int .i64 x.1.v.n, .int .u64 x.1.v.f, .string x.1.v.s, .slice x.1.ad x.1.v.l.length x.1.cap, .slice x.1.bd x.1.v.e.length x.1.dap] 44)) := HJ.out _ _ _ none hJs.out (World.grownBy_alloc _ _ none) (fun r e => by cases e)
          have HX := Lib.hid hx
          obtain ⟨fn, tmps, assign, body, hy, hR⟩ := HY.out _ x _ hJ2 (by rw [List.length_append, List.length_take, HNL.out, HNE.out]; omega)
          have HR := Lib.hid hR
          clear hx hJ2 hR
          gi_wp2
          refine HR.out.mono ?_
          rintro e W3 (⟨rfl, hJ3, hk3⟩ | ⟨rfl, hJx3⟩)
          · have hke3 := (hke2.out.trans (KeM.alloc n₀ M wr _)).trans hk3
            have HJ3 := Lib.hid hJ3
            have HKE3 := Lib.hid hke3
            clear hJ3 hke3 hk3
            gi_wp2
            go_roundw
            case rel => exact ⟨j + 1, by omega, by go_num, by rw [take_succ' HX.out, ← List.append_assoc]; exact HJ3, HKE3⟩
            case measure => simp [intOf]; omega
          · have HJX := Lib.hid hJx3
            clear hJx3
            gi_wp2
            refine bodyPost_ret (results_none rfl _ _ _) rfl ?_
            exact ⟨⟨_, rfl⟩, .inr ⟨_, (by rw [List.append_assoc, ← take_succ' HX.out]; exact List.prefix_append_right_inj _ |>.2 (List.take_prefix _ _)), HJX.out⟩⟩
        · obtain rfl : j = ne := by omega
          have hJ4 : J (ls ++ es) wr := by have := hJs.out; rwa [List.take_of_length_le (by rw [HNE.out]; exact Nat.le_refl _)] at this
          have HJ4 := Lib.hid hJ4
          clear hJ4 hJs c5
          gi_wp2
          go_end0
          exact ⟨⟨_, rfl⟩, .inl ⟨_, rfl, HJ4.out⟩⟩
end Go.Proofs.YtldhmfkojaekfaaGreatDoor
namespace Go.Proofs.YtldhmfkojaekfaaGreatDoor
open Go.RowKit Go.Shelf Gx
set_option maxRecDepth 100000
def ChkPost (r : Nat × Nat) (M : Nat) (w : World) (e : Ending) (w' : World) : Prop :=
  e = .returned (.int .i64 r.1) ∧ Boxed w' M 3 (.int .i64 r.2) ∧ w.grownBy w' (some M)

structure CE (w : World) (q : Loc) (a : Int) (M m : Nat) (r : Int) (W : World) : Prop where
  v : W.heap[w.heap.size]? = some (.cells q.cs.toArray 26)
  a : W.heap[w.heap.size + 1]? = some (.cells #[.int .i64 a] 3)
  p : W.heap[w.heap.size + 2]? = some (.cells #[.pointer (some ⟨M, 0, none⟩)] 64)
  r : Boxed W (w.heap.size + 3) 28 (.int .i64 r)
  m : Boxed W M 3 (.int .i64 m)
  g : w.grownBy W (some M)
  hM : M < w.heap.size
theorem grownBy_old {w : World} {W W' : World} {M k : Nat} (h : w.grownBy W (some M)) (g : W.grownBy W' (some k)) (hk : k = M ∨ w.heap.size ≤ k) : w.grownBy W' (some M) :=
  ⟨g.os.trans h.os, g.tape.trans h.tape, g.output.trans h.output, Nat.le_trans h.size g.size, fun i hi hne => by
    refine (g.block i (Nat.lt_of_lt_of_le hi h.size) (fun e => ?_)).trans (h.block i hi hne)
    have : i = k := Option.some.inj e
    rcases hk with rfl | hk
    · exact hne e
    · omega⟩
/-- the tables lie as they lay where a box was written -/
theorem Tabs.but {w w' : World} {M : Nat} {ty : TypeId} {m : Int} (h : Tabs w) (hM : Boxed w M ty (.int .i64 m)) (hg : w.grownBy w' (some M)) : Tabs w' := by
  have hc := hM.cell
  have lt : ∀ {b o : Nat} {v : Value}, w.cell? ⟨b, o, none⟩ = some v → b < w.heap.size := fun {b o v} hc => World.block_lt_of_cell? w ⟨b, o, none⟩ hc
  have h0 := h.1 0 (by decide)
  have h1 := (h.2 0 (by decide)).1
  have n0 : some 1 ≠ some M := fun e => by
    obtain rfl := Option.some.inj e
    rw [h0] at hc; simp at hc
  have n1 : some 2 ≠ some M := fun e => by
    obtain rfl := Option.some.inj e
    rw [show 2 * 0 = 0 from rfl, hc] at h1; simp at h1
  exact ⟨fun c hc => (World.cell?_of_block (hg.block _ (lt h0) n0)).trans (h.1 c hc),
    fun i hi => ⟨(World.cell?_of_block (hg.block _ (lt h1) n1)).trans (h.2 i hi).1, (World.cell?_of_block (hg.block _ (lt h1) n1)).trans (h.2 i hi).2⟩⟩
variable {w : World} {q : Loc} {a : Int} {M m : Nat} {r : Int} {W W' : World}
theorem CE.start (hM : Boxed w M 3 (.int .i64 m)) (q : Loc) (a : Int) : CE w q a M m 0 ((((w.alloc (.cells #[.int .i64 q.v.k, .int .i64 q.v.n, .int .u64 q.v.f, .string q.v.s, .slice q.ad q.v.l.length q.cap, .slice q.bd q.v.e.length q.dap] 26)).alloc
    (.cells #[.int .i64 a] 3)).alloc (.cells #[.pointer (some ⟨M, 0, none⟩)] 64)).alloc (.cells #[.int .i64 0] 28)) := by
  have hl := hM.lt
  refine ⟨?_, ?_, ?_, ?_, ((((hM.alloc _).alloc _).alloc _).alloc _), ?_, hl⟩
  · rw [Below.heap_alloc _ _ _ (by simp <;> omega), Below.heap_alloc _ _ _ (by simp <;> omega), Below.heap_alloc _ _ _ (by simp)]
    exact World.alloc_heap_new w _
  · rw [Below.heap_alloc _ _ _ (by simp <;> omega), Below.heap_alloc _ _ _ (by simp)]
    have := World.alloc_heap_new (w.alloc (.cells #[.int .i64 q.v.k, .int .i64 q.v.n, .int .u64 q.v.f, .string q.v.s, .slice q.ad q.v.l.length q.cap, .slice q.bd q.v.e.length q.dap] 26)) (.cells #[.int .i64 a] 3)
    rwa [World.size_alloc] at this
  · rw [Below.heap_alloc _ _ _ (by simp)]
    have := World.alloc_heap_new ((w.alloc (.cells #[.int .i64 q.v.k, .int .i64 q.v.n, .int .u64 q.v.f, .string q.v.s, .slice q.ad q.v.l.length q.cap, .slice q.bd q.v.e.length q.dap] 26)).alloc (.cells #[.int .i64 a] 3)) (.cells #[.pointer (some ⟨M, 0, none⟩)] 64)
    rwa [World.size_alloc, World.size_alloc] at this
  · have := World.alloc_heap_new (((w.alloc (.cells #[.int .i64 q.v.k, .int .i64 q.v.n, .int .u64 q.v.f, .string q.v.s, .slice q.ad q.v.l.length q.cap, .slice q.bd q.v.e.length q.dap] 26)).alloc (.cells #[.int .i64 a] 3)).alloc (.cells #[.pointer (some ⟨M, 0, none⟩)] 64)) (.cells #[.int .i64 0] 28)
    rwa [World.size_alloc, World.size_alloc, World.size_alloc] at this
  · have hb : Below w.heap.size w ((((w.alloc (.cells #[.int .i64 q.v.k, .int .i64 q.v.n, .int .u64 q.v.f, .string q.v.s, .slice q.ad q.v.l.length q.cap, .slice q.bd q.v.e.length q.dap] 26)).alloc
    (.cells #[.int .i64 a] 3)).alloc (.cells #[.pointer (some ⟨M, 0, none⟩)] 64)).alloc (.cells #[.int .i64 0] 28)) :=
      ((((Below.refl _ w).alloc (Nat.le_refl _) _).alloc (by simp) _).alloc (by simp <;> omega) _).alloc (by simp <;> omega) _
    exact ⟨hb.os, hb.tape, hb.output, hb.size, fun k hk _ => hb.block k hk⟩
theorem CE.size (h : CE w q a M m r W) : w.heap.size + 4 ≤ W.heap.size := by have := h.r.lt; omega
theorem CE.below (h : CE w q a M m r W) (hb : Below W.heap.size W W') : CE w q a M m r W' := by
  have hs := h.size
  have hM := h.hM
  exact ⟨(hb.block _ (by omega)).trans h.v, (hb.block _ (by omega)).trans h.a, (hb.block _ (by omega)).trans h.p, (hb.block _ (by omega)).trans h.r, (hb.block _ (by omega)).trans h.m,
    ⟨hb.os.trans h.g.os, hb.tape.trans h.g.tape, hb.output.trans h.g.output, Nat.le_trans h.g.size hb.size, fun k hk hne => (hb.block k (Nat.lt_of_lt_of_le hk h.g.size)).trans (h.g.block k hk hne)⟩, hM⟩
/-- M is written -/
theorem CE.turn (h : CE w q a M m r W) {m' : Nat} (hg : W.grownBy W' (some M)) (hm : Boxed W' M 3 (.int .i64 m')) : CE w q a M m' r W' := by
  have hs := h.size
  have hM := h.hM
  have hk : ∀ k, w.heap.size ≤ k → k < W.heap.size → W'.heap[k]? = W.heap[k]? := fun k h1 h2 => hg.block k h2 (fun e => by cases e; omega)
  exact ⟨(hk _ (by omega) (by omega)).trans h.v, (hk _ (by omega) (by omega)).trans h.a, (hk _ (by omega) (by omega)).trans h.p, (hk _ (by omega) (by omega)).trans h.r, hm, grownBy_old h.g hg (.inl rfl), hM⟩
/-- the result is written -/
theorem CE.res (h : CE w q a M m r W) (r' : Int) : CE w q a M m r' (W.setCell ⟨w.heap.size + 3, 0, none⟩ (.int .i64 r')) := by
  have hs := h.size
  have hM := h.hM
  have hg := grownBy_setCell' W (w.heap.size + 3) (.int .i64 r')
  have hk : ∀ k, k ≠ w.heap.size + 3 → k < W.heap.size → (W.setCell ⟨w.heap.size + 3, 0, none⟩ (.int .i64 r')).heap[k]? = W.heap[k]? := fun k h1 h2 => hg.block k h2 (fun e => h1 (Option.some.inj e))
  exact ⟨(hk _ (by omega) (by omega)).trans h.v, (hk _ (by omega) (by omega)).trans h.a, (hk _ (by omega) (by omega)).trans h.p, h.r.set _, (hk _ (by omega) (by omega)).trans h.m, grownBy_old h.g hg (.inr (by omega)), hM⟩
/-- many is counted up -/
theorem CE.up (h : CE w q a M m r W) : CE w q a M (m + 1) r (W.setCell ⟨M, 0, none⟩ (.int .i64 ((m : Int) + 1))) := by
  refine h.turn (grownBy_setCell' W M _) ?_
  have := h.m.set (.int .i64 ((m : Int) + 1))
  rwa [show ((m : Int) + 1) = ((m + 1 : Nat) : Int) by omega] at this ⊢
theorem CE.cells (h : CE w q a M m r W) : W.cell? ⟨w.heap.size + 1, 0, none⟩ = some (.int .i64 a) ∧ W.cell? ⟨w.heap.size + 1 + 1, 0, none⟩ = some (.pointer (some ⟨M, 0, none⟩)) ∧ W.cell? ⟨w.heap.size + 1 + 1 + 1, 0, none⟩ = some (.int .i64 r) ∧
    W.cell? ⟨M, 0, none⟩ = some (.int .i64 m) ∧ W.frozen? ⟨M, 0, none⟩ = false ∧ W.frozen? ⟨w.heap.size + 1 + 1 + 1, 0, none⟩ = false ∧ M < W.heap.size ∧ w.heap.size + 1 + 1 + 1 < W.heap.size :=
  ⟨by simp [World.cell?, h.a], by simp [World.cell?, h.p], h.r.cell, h.m.cell, h.m.frozen, h.r.frozen, h.m.lt, h.r.lt⟩
/-- it abides what the loop's own book-keeping does -/
theorem CE.own (h : CE w q a M m r W) {row : Option Nat} (hg : W.grownBy W' row) (hr : ∀ k, row = some k → w.heap.size ≤ k ∧ ∃ o : Obj, W.heap[k]? = some o ∧ o.isCells = false) : CE w q a M m r W' := by
  have hs := h.size
  have hM := h.hM
  have hk : ∀ (k : Nat) (cs : Array Value) (ty : TypeId) (fz : Nat × Nat), W.heap[k]? = some (Obj.cells cs ty fz) → W'.heap[k]? = W.heap[k]? := fun k cs ty fz hc => hg.block k (Array.getElem?_eq_some_iff.1 hc).1 (fun e => by
    obtain ⟨-, o, ho, hc2⟩ := hr k e.symm
    rw [hc] at ho; cases ho; cases hc2)
  refine ⟨(hk _ _ _ _ h.v).trans h.v, (hk _ _ _ _ h.a).trans h.a, (hk _ _ _ _ h.p).trans h.p, (hk _ _ _ _ h.r).trans h.r, (hk _ _ _ _ h.m).trans h.m,
    ⟨hg.os.trans h.g.os, hg.tape.trans h.g.tape, hg.output.trans h.g.output, Nat.le_trans h.g.size hg.size, fun k hk' hne => ?_⟩, hM⟩
  refine (hg.block k (Nat.lt_of_lt_of_le hk' h.g.size) (fun e => ?_)).trans (h.g.block k hk' hne)
  have := (hr k e.symm).1
  omega
theorem CE.vc (h : CE w q a M m r W) : CellsAt W w.heap.size 0 q := CellsAt.box h.v
end Go.Proofs.YtldhmfkojaekfaaGreatDoor
namespace Go.Proofs.YtldhmfkojaekfaaGreatDoor
open Go.RowKit Go.Shelf Gx
attribute [local go_sem] Oper.semAt_some
set_option maxRecDepth 100000
set_option maxHeartbeats 4000000 in
/-- too deep, or too many -/
theorem check_zero (q : Loc) (a : Int) (m m1 M : Nat) (w : World) (hM : Boxed w M 3 (.int .i64 m)) (hm : m ≤ 2000) (hm1 : m + 1 = m1) (r : Nat) (hd : (2000 < m1 ∧ r = 2) ∨ (m1 ≤ 2000 ∧ a = 20 ∧ r = 5)) :
    Calls Tryz.prog 27 #[q.val, .int .i64 a, .pointer (some ⟨M, 0, none⟩)] w (ChkPost (r, m1) M w) := by
  have HE := Lib.hid (CE.start hM q a)
  unfold Loc.val
  refine callsIn_wide.1 (callsIn_of_wp_marks (n := 9) Tryz.func27 rfl trivial ?_)
  simp only [Tryz.ntmps27, List.size_toArray, List.length_cons, List.length_nil, Nat.reduceAdd, Nat.reduceSub, Array.replicate_succ, Array.replicate_zero, List.push_toArray, List.append_toArray, List.nil_append, List.cons_append]
  refine wpIn_wide.2 ?_
  clear hM
  have HM1 := Lib.hid hm1
  clear hm1
  go_upto_region 1 with fail
  generalize hw4 : World.alloc _ _ = w4 at HE ⊢
  clear hw4
  obtain ⟨ca, cp, cr, cm, fm, fr, lm, lr⟩ := HE.out.cells
  go_upto_region 2 with fail
  have HE5 := Lib.hid HE.out.up
  generalize hw5 : World.setCell _ _ _ = w5 at HE5 ⊢
  clear hw5 HE ca cp cr cm fm fr lm lr
  rw [HM1.out] at HE5
  obtain ⟨ca, cp, cr, cm, fm, fr, lm, lr⟩ := HE5.out.cells
  obtain ⟨c0, c1, c2, c3, c4, c5⟩ := HE5.out.vc
  have hm2 : m1 ≤ 2001 := by have := HM1.out; omega
  clear hm
  rcases hd with ⟨hlg, rfl⟩ | ⟨hlg, rfl, rfl⟩
  · have t1 : decide ((2000 : Int) < (m1 : Int)) = true := decide_eq_true (by omega)
    clear hlg c0 c1 c2 c3 c4 c5
    go_wp2_with fail
    exact ⟨_, by simp [results, Tryz.results27, go_sem, (HE5.out.res 2).cells.2.2.1], rfl, (HE5.out.res 2).m, (HE5.out.res 2).g⟩
  · have t1 : decide ((2000 : Int) < (m1 : Int)) = false := decide_eq_false (by omega)
    clear hlg
    go_wp2_with fail
    refine (own_deep q.v.k q.v.n q.v.f q.v.s q.ad q.bd q.v.l.length q.v.e.length q.cap q.dap _ 20 (by decide)).mono ?_
    rintro e w6 ⟨rfl, hb6⟩
    have HE6 := Lib.hid (HE5.out.below hb6)
    clear HE5 hb6 ca cp cr cm fm fr lm lr c0 c1 c2 c3 c4 c5
    obtain ⟨ca, cp, cr, cm, fm, fr, lm, lr⟩ := HE6.out.cells
    rw [show ((5 : Nat) : Int) = 5 from rfl]
    go_wp2_with fail
    exact ⟨_, by simp [results, Tryz.results27, go_sem, (HE6.out.res 5).cells.2.2.1], rfl, (HE6.out.res 5).m, (HE6.out.res 5).g⟩
end Go.Proofs.YtldhmfkojaekfaaGreatDoor
