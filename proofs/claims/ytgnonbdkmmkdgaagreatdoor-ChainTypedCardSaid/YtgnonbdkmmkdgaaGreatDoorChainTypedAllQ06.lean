/-
  Lemmas for the statement: plain laws, and what functions answer; the conditions stand in each.
-/
import Derived.Test.YtgnonbdkmmkdgaaGreatDoorChainTypedAllE0
set_option linter.unusedVariables false
set_option linter.unusedSimpArgs false
set_option maxHeartbeats 16000000
set_option maxRecDepth 100000
open Go.Lib (hid)
namespace Go.Proofs.YtgnonbdkmmkdgaaGreatDoor
open Go.RowKit Gx
theorem own_0 (n f:Int) (s:ByteArray) (ad bd:Option Addr) (nl ne cl ce:Nat) (w:World) (a:Int) (h0:0<=a) (h1:a<20) (hf0:0<=f) (hf1:f<=18446744073709551615) (hl:nl<=1000000000000000) (he:ne<=1000000000000000) (hs:s.size<=1000000000000000) (hT:Tabs w) :
 Calls Tryz.prog 58 #[.agg #[.int .i64 0,.int .i64 n,.int .u64 f,.string s,.slice ad nl cl,.slice bd ne ce],.int .i64 a] w (OwnPost (ownE 0 n f s nl ne) w):=by
 have t20:decide (20<=a)=false:=decide_eq_false (by omega)
 by_cases hn:n=0
 rotate_left
 ·have u0:(n != 0)=true:=by simpa using hn
  clear hn
  have e:ownE 0 n f s nl ne=10:=by simp [ownE,kindBad,u0]
  go_enter Tryz.func58,Tryz.ntmps58
  go_wp2_with fail
  go_quiet (fail)
  go_wp2_with fail
  try go_ret
  exact ⟨by rw [e];rfl,((Below.refl _ w).alloc (Nat.le_refl _) _).trans (Gx.drewN_below _ _ _)⟩
 subst hn
 by_cases hf:f=0
 rotate_left
 ·have u2:(f != 0)=true:=by simpa using hf
  clear hf
  have e:ownE 0 0 f s nl ne=10:=by simp [ownE,kindBad,u2]
  go_enter Tryz.func58,Tryz.ntmps58
  go_wp2_with fail
  go_quiet (fail)
  go_wp2_with fail
  try go_ret
  exact ⟨by rw [e];rfl,((Below.refl _ w).alloc (Nat.le_refl _) _).trans (Gx.drewN_below _ _ _)⟩
 subst hf
 clear hf0 hf1
 by_cases hse:s.toList.isEmpty=true
 rotate_left
 ·have v0:s.toList.isEmpty=false:=by simpa using hse
  have v1:(!s.toList.isEmpty)=true:=by rw [v0];rfl
  clear hse
  have e:ownE 0 0 0 s nl ne=10:=by simp [ownE,kindBad,nan0,v0]
  go_enter Tryz.func58,Tryz.ntmps58
  go_wp2_with fail
  go_quiet (fail)
  go_wp2_with fail
  try go_ret
  exact ⟨by rw [e];rfl,((Below.refl _ w).alloc (Nat.le_refl _) _).trans (Gx.drewN_below _ _ _)⟩
 obtain rfl:=empty_of hse
 clear hse hs
 by_cases hnl:nl=0
 rotate_left
 ·have v2:0<nl:=by omega
  clear hnl
  have e:ownE 0 0 0 ⟨#[]⟩ nl ne=10:=by simp [ownE,kindBad,nan0,empty_bad,empty_size,v2]
  go_enter Tryz.func58,Tryz.ntmps58
  go_wp2_with fail
  go_quiet (fail)
  go_wp2_with fail
  try go_ret
  exact ⟨by rw [e];rfl,((Below.refl _ w).alloc (Nat.le_refl _) _).trans (Gx.drewN_below _ _ _)⟩
 subst hnl
 clear hl
 by_cases hne:ne=0
 rotate_left
 ·have v3:0<ne:=by omega
  clear hne
  have e:ownE 0 0 0 ⟨#[]⟩ 0 ne=10:=by simp [ownE,kindBad,nan0,empty_bad,empty_size,v3]
  go_enter Tryz.func58,Tryz.ntmps58
  go_wp2_with fail
  go_quiet (fail)
  go_wp2_with fail
  try go_ret
  exact ⟨by rw [e];rfl,((Below.refl _ w).alloc (Nat.le_refl _) _).trans (Gx.drewN_below _ _ _)⟩
 subst hne
 clear he
 have hTT:∀ nq,Tabs ((w.alloc (.cells #[.int .i64 0,.int .i64 0,.int .u64 0,.string ⟨#[]⟩,.slice ad 0 cl,.slice bd 0 ce] 32)).drewN nq):=fun nq=>hT.keep (((Below.refl _ w).alloc (Nat.le_refl _) _).trans (Gx.drewN_below _ nq _))
 have HTT:=hid hTT
 clear hTT hT
 go_enter Tryz.func58,Tryz.ntmps58
 go_wp2_with fail
 go_quiet (fail)
 go_wp2_with fail
 refine (bad_any ⟨#[]⟩ _ (HTT.out nq) (by first|omega|decide)).mono ?_
 rintro e w2 ⟨b,rfl,hb,hbw⟩
 have HBW:=hid (Below.trans (((Below.refl w.heap.size w).alloc (Nat.le_refl _) _).trans (Gx.drewN_below _ nq _)) (hbw.mono (by simp)))
 clear hbw
 by_cases hok:okText (ByteArray.mk #[]).data.toList
 ·have hlt:=hb.2 hok
  have e:ownE 0 0 0 ⟨#[]⟩ 0 0=0:=by simp [ownE,kindBad,hok,nan0,empty_bad,empty_size]
  have t1:decide (0<=b)=false:=decide_eq_false (by omega)
  clear hb hok
  go_wp2_with fail
  try go_ret
  exact ⟨by rw [e];rfl,HBW.out⟩
 ·have hlt:0<=b:=Int.not_lt.1 (fun h=>hok (hb.1 h))
  have e:ownE 0 0 0 ⟨#[]⟩ 0 0=3:=by simp [ownE,kindBad,hok,nan0,empty_bad,empty_size]
  have t1:decide (0<=b)=true:=decide_eq_true hlt
  clear hb hok
  go_wp2_with fail
  try go_ret
  exact ⟨by rw [e];rfl,HBW.out⟩
theorem own_1 (n f:Int) (s:ByteArray) (ad bd:Option Addr) (nl ne cl ce:Nat) (w:World) (a:Int) (h0:0<=a) (h1:a<20) (hf0:0<=f) (hf1:f<=18446744073709551615) (hl:nl<=1000000000000000) (he:ne<=1000000000000000) (hs:s.size<=1000000000000000) (hT:Tabs w) :
 Calls Tryz.prog 58 #[.agg #[.int .i64 1,.int .i64 n,.int .u64 f,.string s,.slice ad nl cl,.slice bd ne ce],.int .i64 a] w (OwnPost (ownE 1 n f s nl ne) w):=by
 have t20:decide (20<=a)=false:=decide_eq_false (by omega)
 by_cases hn1:n=0\/n=1
 rotate_left
 ·have u0:(n != 0)=true:=by simp;omega
  have u1:(n != 1)=true:=by simp;omega
  clear hn1
  have e:ownE 1 n f s nl ne=10:=by simp [ownE,kindBad,u0,u1]
  go_enter Tryz.func58,Tryz.ntmps58
  go_wp2_with fail
  go_quiet (fail)
  go_wp2_with fail
  try go_ret
  exact ⟨by rw [e];rfl,((Below.refl _ w).alloc (Nat.le_refl _) _).trans (Gx.drewN_below _ _ _)⟩
 have hnn:((n != 0)=true/\(n != 1)=false)\/(n != 0)=false:=by rcases hn1 with rfl|rfl<;>simp
 clear hn1
 by_cases hf:f=0
 rotate_left
 ·rcases hnn with ⟨u0,u1⟩|u0
  ·have u2:(f != 0)=true:=by simpa using hf
   clear hf
   have e:ownE 1 n f s nl ne=10:=by simp [ownE,kindBad,u0,u2,u1]
   go_enter Tryz.func58,Tryz.ntmps58
   go_wp2_with fail
   go_quiet (fail)
   go_wp2_with fail
   try go_ret
   exact ⟨by rw [e];rfl,((Below.refl _ w).alloc (Nat.le_refl _) _).trans (Gx.drewN_below _ _ _)⟩
  ·have u2:(f != 0)=true:=by simpa using hf
   clear hf
   have e:ownE 1 n f s nl ne=10:=by simp [ownE,kindBad,u0,u2]
   go_enter Tryz.func58,Tryz.ntmps58
   go_wp2_with fail
   go_quiet (fail)
   go_wp2_with fail
   try go_ret
   exact ⟨by rw [e];rfl,((Below.refl _ w).alloc (Nat.le_refl _) _).trans (Gx.drewN_below _ _ _)⟩
 subst hf
 clear hf0 hf1
 by_cases hse:s.toList.isEmpty=true
 rotate_left
 ·have v0:s.toList.isEmpty=false:=by simpa using hse
  have v1:(!s.toList.isEmpty)=true:=by rw [v0];rfl
  clear hse
  rcases hnn with ⟨u0,u1⟩|u0
  ·skip
   have e:ownE 1 n 0 s nl ne=10:=by simp [ownE,kindBad,nan0,v0,u0,u1]
   go_enter Tryz.func58,Tryz.ntmps58
   go_wp2_with fail
   go_quiet (fail)
   go_wp2_with fail
   try go_ret
   exact ⟨by rw [e];rfl,((Below.refl _ w).alloc (Nat.le_refl _) _).trans (Gx.drewN_below _ _ _)⟩
  ·skip
   have e:ownE 1 n 0 s nl ne=10:=by simp [ownE,kindBad,nan0,v0,u0]
   go_enter Tryz.func58,Tryz.ntmps58
   go_wp2_with fail
   go_quiet (fail)
   go_wp2_with fail
   try go_ret
   exact ⟨by rw [e];rfl,((Below.refl _ w).alloc (Nat.le_refl _) _).trans (Gx.drewN_below _ _ _)⟩
 obtain rfl:=empty_of hse
 clear hse hs
 by_cases hnl:nl=0
 rotate_left
 ·have v2:0<nl:=by omega
  clear hnl
  rcases hnn with ⟨u0,u1⟩|u0
  ·skip
   have e:ownE 1 n 0 ⟨#[]⟩ nl ne=10:=by simp [ownE,kindBad,nan0,empty_bad,empty_size,v2,u0,u1]
   go_enter Tryz.func58,Tryz.ntmps58
   go_wp2_with fail
   go_quiet (fail)
   go_wp2_with fail
   try go_ret
   exact ⟨by rw [e];rfl,((Below.refl _ w).alloc (Nat.le_refl _) _).trans (Gx.drewN_below _ _ _)⟩
  ·skip
   have e:ownE 1 n 0 ⟨#[]⟩ nl ne=10:=by simp [ownE,kindBad,nan0,empty_bad,empty_size,v2,u0]
   go_enter Tryz.func58,Tryz.ntmps58
   go_wp2_with fail
   go_quiet (fail)
   go_wp2_with fail
   try go_ret
   exact ⟨by rw [e];rfl,((Below.refl _ w).alloc (Nat.le_refl _) _).trans (Gx.drewN_below _ _ _)⟩
 subst hnl
 clear hl
 by_cases hne:ne=0
 rotate_left
 ·have v3:0<ne:=by omega
  clear hne
  rcases hnn with ⟨u0,u1⟩|u0
  ·skip
   have e:ownE 1 n 0 ⟨#[]⟩ 0 ne=10:=by simp [ownE,kindBad,nan0,empty_bad,empty_size,v3,u0,u1]
   go_enter Tryz.func58,Tryz.ntmps58
   go_wp2_with fail
   go_quiet (fail)
   go_wp2_with fail
   try go_ret
   exact ⟨by rw [e];rfl,((Below.refl _ w).alloc (Nat.le_refl _) _).trans (Gx.drewN_below _ _ _)⟩
  ·skip
   have e:ownE 1 n 0 ⟨#[]⟩ 0 ne=10:=by simp [ownE,kindBad,nan0,empty_bad,empty_size,v3,u0]
   go_enter Tryz.func58,Tryz.ntmps58
   go_wp2_with fail
   go_quiet (fail)
   go_wp2_with fail
   try go_ret
   exact ⟨by rw [e];rfl,((Below.refl _ w).alloc (Nat.le_refl _) _).trans (Gx.drewN_below _ _ _)⟩
 subst hne
 clear he
 rcases hnn with ⟨u0,u1⟩|u0
 ·skip
  have hTT:∀ nq,Tabs ((w.alloc (.cells #[.int .i64 1,.int .i64 n,.int .u64 0,.string ⟨#[]⟩,.slice ad 0 cl,.slice bd 0 ce] 32)).drewN nq):=fun nq=>hT.keep (((Below.refl _ w).alloc (Nat.le_refl _) _).trans (Gx.drewN_below _ nq _))
  have HTT:=hid hTT
  clear hTT hT
  go_enter Tryz.func58,Tryz.ntmps58
  go_wp2_with fail
  go_quiet (fail)
  go_wp2_with fail
  refine (bad_any ⟨#[]⟩ _ (HTT.out nq) (by first|omega|decide)).mono ?_
  rintro e w2 ⟨b,rfl,hb,hbw⟩
  have HBW:=hid (Below.trans (((Below.refl w.heap.size w).alloc (Nat.le_refl _) _).trans (Gx.drewN_below _ nq _)) (hbw.mono (by simp)))
  clear hbw
  by_cases hok:okText (ByteArray.mk #[]).data.toList
  ·have hlt:=hb.2 hok
   have e:ownE 1 n 0 ⟨#[]⟩ 0 0=0:=by simp [ownE,kindBad,hok,nan0,empty_bad,empty_size,u0,u1]
   have t1:decide (0<=b)=false:=decide_eq_false (by omega)
   clear hb hok
   go_wp2_with fail
   try go_ret
   exact ⟨by rw [e];rfl,HBW.out⟩
  ·have hlt:0<=b:=Int.not_lt.1 (fun h=>hok (hb.1 h))
   have e:ownE 1 n 0 ⟨#[]⟩ 0 0=3:=by simp [ownE,kindBad,hok,nan0,empty_bad,empty_size,u0,u1]
   have t1:decide (0<=b)=true:=decide_eq_true hlt
   clear hb hok
   go_wp2_with fail
   try go_ret
   exact ⟨by rw [e];rfl,HBW.out⟩
 ·skip
  have hTT:∀ nq,Tabs ((w.alloc (.cells #[.int .i64 1,.int .i64 n,.int .u64 0,.string ⟨#[]⟩,.slice ad 0 cl,.slice bd 0 ce] 32)).drewN nq):=fun nq=>hT.keep (((Below.refl _ w).alloc (Nat.le_refl _) _).trans (Gx.drewN_below _ nq _))
  have HTT:=hid hTT
  clear hTT hT
  go_enter Tryz.func58,Tryz.ntmps58
  go_wp2_with fail
  go_quiet (fail)
  go_wp2_with fail
  refine (bad_any ⟨#[]⟩ _ (HTT.out nq) (by first|omega|decide)).mono ?_
  rintro e w2 ⟨b,rfl,hb,hbw⟩
  have HBW:=hid (Below.trans (((Below.refl w.heap.size w).alloc (Nat.le_refl _) _).trans (Gx.drewN_below _ nq _)) (hbw.mono (by simp)))
  clear hbw
  by_cases hok:okText (ByteArray.mk #[]).data.toList
  ·have hlt:=hb.2 hok
   have e:ownE 1 n 0 ⟨#[]⟩ 0 0=0:=by simp [ownE,kindBad,hok,nan0,empty_bad,empty_size,u0]
   have t1:decide (0<=b)=false:=decide_eq_false (by omega)
   clear hb hok
   go_wp2_with fail
   try go_ret
   exact ⟨by rw [e];rfl,HBW.out⟩
  ·have hlt:0<=b:=Int.not_lt.1 (fun h=>hok (hb.1 h))
   have e:ownE 1 n 0 ⟨#[]⟩ 0 0=3:=by simp [ownE,kindBad,hok,nan0,empty_bad,empty_size,u0]
   have t1:decide (0<=b)=true:=decide_eq_true hlt
   clear hb hok
   go_wp2_with fail
   try go_ret
   exact ⟨by rw [e];rfl,HBW.out⟩
theorem own_4 (n f:Int) (s:ByteArray) (ad bd:Option Addr) (nl ne cl ce:Nat) (w:World) (a:Int) (h0:0<=a) (h1:a<20) (hf0:0<=f) (hf1:f<=18446744073709551615) (hl:nl<=1000000000000000) (he:ne<=1000000000000000) (hs:s.size<=1000000000000000) (hT:Tabs w) :
 Calls Tryz.prog 58 #[.agg #[.int .i64 4,.int .i64 n,.int .u64 f,.string s,.slice ad nl cl,.slice bd ne ce],.int .i64 a] w (OwnPost (ownE 4 n f s nl ne) w):=by
 have t20:decide (20<=a)=false:=decide_eq_false (by omega)
 by_cases hn:n=0
 rotate_left
 ·have u0:(n != 0)=true:=by simpa using hn
  clear hn
  have e:ownE 4 n f s nl ne=10:=by simp [ownE,kindBad,u0]
  go_enter Tryz.func58,Tryz.ntmps58
  go_wp2_with fail
  go_quiet (fail)
  go_wp2_with fail
  try go_ret
  exact ⟨by rw [e];rfl,((Below.refl _ w).alloc (Nat.le_refl _) _).trans (Gx.drewN_below _ _ _)⟩
 subst hn
 by_cases hf:f=0
 rotate_left
 ·have u2:(f != 0)=true:=by simpa using hf
  clear hf
  have e:ownE 4 0 f s nl ne=10:=by simp [ownE,kindBad,u2]
  go_enter Tryz.func58,Tryz.ntmps58
  go_wp2_with fail
  go_quiet (fail)
  go_wp2_with fail
  try go_ret
  exact ⟨by rw [e];rfl,((Below.refl _ w).alloc (Nat.le_refl _) _).trans (Gx.drewN_below _ _ _)⟩
 subst hf
 clear hf0 hf1
 by_cases hnl:nl=0
 rotate_left
 ·have v2:0<nl:=by omega
  clear hnl
  have e:ownE 4 0 0 s nl ne=10:=by simp [ownE,kindBad,nan0,v2]
  go_enter Tryz.func58,Tryz.ntmps58
  go_wp2_with fail
  go_quiet (fail)
  go_wp2_with fail
  try go_ret
  exact ⟨by rw [e];rfl,((Below.refl _ w).alloc (Nat.le_refl _) _).trans (Gx.drewN_below _ _ _)⟩
 subst hnl
 clear hl
 by_cases hne:ne=0
 rotate_left
 ·have v3:0<ne:=by omega
  clear hne
  have e:ownE 4 0 0 s 0 ne=10:=by simp [ownE,kindBad,nan0,v3]
  go_enter Tryz.func58,Tryz.ntmps58
  go_wp2_with fail
  go_quiet (fail)
  go_wp2_with fail
  try go_ret
  exact ⟨by rw [e];rfl,((Below.refl _ w).alloc (Nat.le_refl _) _).trans (Gx.drewN_below _ _ _)⟩
 subst hne
 clear he
 by_cases hbig:4000<s.size
 ·have v4:decide ((4000:Int)<(s.size:Int))=true:=decide_eq_true (by omega)
  have e:ownE 4 0 0 s 0 0=2:=by simp [ownE,kindBad,nan0,hbig]
  go_enter Tryz.func58,Tryz.ntmps58
  go_wp2_with fail
  go_quiet (fail)
  go_wp2_with fail
  try go_ret
  exact ⟨by rw [e];rfl,((Below.refl _ w).alloc (Nat.le_refl _) _).trans (Gx.drewN_below _ _ _)⟩
 have v4:decide ((4000:Int)<(s.size:Int))=false:=decide_eq_false (by omega)
 have hTT:∀ nq,Tabs ((w.alloc (.cells #[.int .i64 4,.int .i64 0,.int .u64 0,.string s,.slice ad 0 cl,.slice bd 0 ce] 32)).drewN nq):=fun nq=>hT.keep (((Below.refl _ w).alloc (Nat.le_refl _) _).trans (Gx.drewN_below _ nq _))
 have HTT:=hid hTT
 clear hTT hT
 go_enter Tryz.func58,Tryz.ntmps58
 go_wp2_with fail
 go_quiet (fail)
 go_wp2_with fail
 refine (bad_any s _ (HTT.out nq) (by first|omega|decide)).mono ?_
 rintro e w2 ⟨b,rfl,hb,hbw⟩
 have HBW:=hid (Below.trans (((Below.refl w.heap.size w).alloc (Nat.le_refl _) _).trans (Gx.drewN_below _ nq _)) (hbw.mono (by simp)))
 clear hbw
 by_cases hok:okText s.data.toList
 ·have hlt:=hb.2 hok
  have e:ownE 4 0 0 s 0 0=0:=by simp [ownE,kindBad,hok,nan0,hbig]
  have t1:decide (0<=b)=false:=decide_eq_false (by omega)
  clear hb hok
  go_wp2_with fail
  try go_ret
  exact ⟨by rw [e];rfl,HBW.out⟩
 ·have hlt:0<=b:=Int.not_lt.1 (fun h=>hok (hb.1 h))
  have e:ownE 4 0 0 s 0 0=3:=by simp [ownE,kindBad,hok,nan0,hbig]
  have t1:decide (0<=b)=true:=decide_eq_true hlt
  clear hb hok
  go_wp2_with fail
  try go_ret
  exact ⟨by rw [e];rfl,HBW.out⟩
end Go.Proofs.YtgnonbdkmmkdgaaGreatDoor
