/-
  Lemmas for the statement: plain laws, and what functions answer; the conditions stand in each.
-/
import Derived.Test.YtgnonbdkmmkdgaaGreatDoorChainTypedAllE0
set_option linter.unusedVariables false
set_option linter.unusedSimpArgs false
set_option maxHeartbeats 16000000
set_option maxRecDepth 100000
open Go.Lib (hid)
namespace Go.Proofs.YtgnonbdkmmkdgaaGreatDoor
open Go.RowKit Gx
theorem own_3 (n f:Int) (s:ByteArray) (ad bd:Option Addr) (nl ne cl ce:Nat) (w:World) (a:Int) (h0:0<=a) (h1:a<20) (hf0:0<=f) (hf1:f<=18446744073709551615) (hl:nl<=1000000000000000) (he:ne<=1000000000000000) (hs:s.size<=1000000000000000) (hT:Tabs w) :
 Calls Tryz.prog 58 #[.agg #[.int .i64 3,.int .i64 n,.int .u64 f,.string s,.slice ad nl cl,.slice bd ne ce],.int .i64 a] w (OwnPost (ownE 3 n f s nl ne) w):=by
 have t20:decide (20<=a)=false:=decide_eq_false (by omega)
 by_cases hn:n=0
 rotate_left
 ·have u0:(n != 0)=true:=by simpa using hn
  clear hn
  have e:ownE 3 n f s nl ne=10:=by simp [ownE,kindBad,u0]
  go_enter Tryz.func58,Tryz.ntmps58
  go_wp2_with fail
  go_quiet (fail)
  go_wp2_with fail
  try go_ret
  exact ⟨by rw [e];rfl,((Below.refl _ w).alloc (Nat.le_refl _) _).trans (Gx.drewN_below _ _ _)⟩
 subst hn
 obtain ⟨E,hE⟩:∃ E,bits .and .u64 (f / 4503599627370496) 2047=E:=⟨_,rfl⟩
 obtain ⟨G,hG⟩:∃ G,bits .and .u64 f 4503599627370495=G:=⟨_,rfl⟩
 have hnan:=nan_of hE hG
 by_cases hnb:nanBad f=true
 ·have hq:(E==2047)=true/\(G != 0)=true/\(f != 9221120237041090561)=true:=by rw [hnan] at hnb;simpa [and_assoc] using hnb
  obtain ⟨u1,u2,u3⟩:=hq
  clear hnan
  have e:ownE 3 0 f s nl ne=10:=by simp [ownE,kindBad,hnb]
  clear hnb
  go_enter Tryz.func58,Tryz.ntmps58
  go_wp2_with fail
  go_quiet (fail)
  go_wp2_with fail
  try go_ret
  exact ⟨by rw [e];rfl,((Below.refl _ w).alloc (Nat.le_refl _) _).trans (Gx.drewN_below _ _ _)⟩
 have hnf:nanBad f=false:=by simpa using hnb
 have hq:(E==2047)=false\/((E==2047)=true/\(G != 0)=false)\/((E==2047)=true/\(G != 0)=true/\(f != 9221120237041090561)=false):=by
  rw [hnan] at hnf
  revert hnf
  generalize (E==2047)=x1
  generalize (G != 0)=x2
  generalize (f != 9221120237041090561)=x3
  revert x1 x2 x3;decide
 have HNF:=hid hnf
 clear hnb hnan hnf
 by_cases hse:s.toList.isEmpty=true
 rotate_left
 ·have v0:s.toList.isEmpty=false:=by simpa using hse
  have v1:(!s.toList.isEmpty)=true:=by rw [v0];rfl
  clear hse
  rcases hq with u1|⟨u1,u2⟩|⟨u1,u2,u3⟩
  ·skip
   have e:ownE 3 0 f s nl ne=10:=by simp [ownE,kindBad,HNF.out,v0]
   go_enter Tryz.func58,Tryz.ntmps58
   go_wp2_with fail
   go_quiet (fail)
   go_wp2_with fail
   try go_ret
   exact ⟨by rw [e];rfl,((Below.refl _ w).alloc (Nat.le_refl _) _).trans (Gx.drewN_below _ _ _)⟩
  ·skip
   have e:ownE 3 0 f s nl ne=10:=by simp [ownE,kindBad,HNF.out,v0]
   go_enter Tryz.func58,Tryz.ntmps58
   go_wp2_with fail
   go_quiet (fail)
   go_wp2_with fail
   try go_ret
   exact ⟨by rw [e];rfl,((Below.refl _ w).alloc (Nat.le_refl _) _).trans (Gx.drewN_below _ _ _)⟩
  ·skip
   have e:ownE 3 0 f s nl ne=10:=by simp [ownE,kindBad,HNF.out,v0]
   go_enter Tryz.func58,Tryz.ntmps58
   go_wp2_with fail
   go_quiet (fail)
   go_wp2_with fail
   try go_ret
   exact ⟨by rw [e];rfl,((Below.refl _ w).alloc (Nat.le_refl _) _).trans (Gx.drewN_below _ _ _)⟩
 obtain rfl:=empty_of hse
 clear hse hs
 by_cases hnl:nl=0
 rotate_left
 ·have v2:0<nl:=by omega
  clear hnl
  rcases hq with u1|⟨u1,u2⟩|⟨u1,u2,u3⟩
  ·skip
   have e:ownE 3 0 f ⟨#[]⟩ nl ne=10:=by simp [ownE,kindBad,HNF.out,empty_bad,empty_size,v2]
   go_enter Tryz.func58,Tryz.ntmps58
   go_wp2_with fail
   go_quiet (fail)
   go_wp2_with fail
   try go_ret
   exact ⟨by rw [e];rfl,((Below.refl _ w).alloc (Nat.le_refl _) _).trans (Gx.drewN_below _ _ _)⟩
  ·skip
   have e:ownE 3 0 f ⟨#[]⟩ nl ne=10:=by simp [ownE,kindBad,HNF.out,empty_bad,empty_size,v2]
   go_enter Tryz.func58,Tryz.ntmps58
   go_wp2_with fail
   go_quiet (fail)
   go_wp2_with fail
   try go_ret
   exact ⟨by rw [e];rfl,((Below.refl _ w).alloc (Nat.le_refl _) _).trans (Gx.drewN_below _ _ _)⟩
  ·skip
   have e:ownE 3 0 f ⟨#[]⟩ nl ne=10:=by simp [ownE,kindBad,HNF.out,empty_bad,empty_size,v2]
   go_enter Tryz.func58,Tryz.ntmps58
   go_wp2_with fail
   go_quiet (fail)
   go_wp2_with fail
   try go_ret
   exact ⟨by rw [e];rfl,((Below.refl _ w).alloc (Nat.le_refl _) _).trans (Gx.drewN_below _ _ _)⟩
 subst hnl
 clear hl
 by_cases hne:ne=0
 rotate_left
 ·have v3:0<ne:=by omega
  clear hne
  rcases hq with u1|⟨u1,u2⟩|⟨u1,u2,u3⟩
  ·skip
   have e:ownE 3 0 f ⟨#[]⟩ 0 ne=10:=by simp [ownE,kindBad,HNF.out,empty_bad,empty_size,v3]
   go_enter Tryz.func58,Tryz.ntmps58
   go_wp2_with fail
   go_quiet (fail)
   go_wp2_with fail
   try go_ret
   exact ⟨by rw [e];rfl,((Below.refl _ w).alloc (Nat.le_refl _) _).trans (Gx.drewN_below _ _ _)⟩
  ·skip
   have e:ownE 3 0 f ⟨#[]⟩ 0 ne=10:=by simp [ownE,kindBad,HNF.out,empty_bad,empty_size,v3]
   go_enter Tryz.func58,Tryz.ntmps58
   go_wp2_with fail
   go_quiet (fail)
   go_wp2_with fail
   try go_ret
   exact ⟨by rw [e];rfl,((Below.refl _ w).alloc (Nat.le_refl _) _).trans (Gx.drewN_below _ _ _)⟩
  ·skip
   have e:ownE 3 0 f ⟨#[]⟩ 0 ne=10:=by simp [ownE,kindBad,HNF.out,empty_bad,empty_size,v3]
   go_enter Tryz.func58,Tryz.ntmps58
   go_wp2_with fail
   go_quiet (fail)
   go_wp2_with fail
   try go_ret
   exact ⟨by rw [e];rfl,((Below.refl _ w).alloc (Nat.le_refl _) _).trans (Gx.drewN_below _ _ _)⟩
 subst hne
 clear he
 rcases hq with u1|⟨u1,u2⟩|⟨u1,u2,u3⟩
 ·skip
  have hTT:∀ nq,Tabs ((w.alloc (.cells #[.int .i64 3,.int .i64 0,.int .u64 f,.string ⟨#[]⟩,.slice ad 0 cl,.slice bd 0 ce] 32)).drewN nq):=fun nq=>hT.keep (((Below.refl _ w).alloc (Nat.le_refl _) _).trans (Gx.drewN_below _ nq _))
  have HTT:=hid hTT
  clear hTT hT
  go_enter Tryz.func58,Tryz.ntmps58
  go_wp2_with fail
  go_quiet (fail)
  go_wp2_with fail
  refine (bad_any ⟨#[]⟩ _ (HTT.out nq) (by first|omega|decide)).mono ?_
  rintro e w2 ⟨b,rfl,hb,hbw⟩
  have HBW:=hid (Below.trans (((Below.refl w.heap.size w).alloc (Nat.le_refl _) _).trans (Gx.drewN_below _ nq _)) (hbw.mono (by simp)))
  clear hbw
  by_cases hok:okText (ByteArray.mk #[]).data.toList
  ·have hlt:=hb.2 hok
   have e:ownE 3 0 f ⟨#[]⟩ 0 0=0:=by simp [ownE,kindBad,hok,HNF.out,empty_bad,empty_size]
   have t1:decide (0<=b)=false:=decide_eq_false (by omega)
   clear hb hok
   go_wp2_with fail
   try go_ret
   exact ⟨by rw [e];rfl,HBW.out⟩
  ·have hlt:0<=b:=Int.not_lt.1 (fun h=>hok (hb.1 h))
   have e:ownE 3 0 f ⟨#[]⟩ 0 0=3:=by simp [ownE,kindBad,hok,HNF.out,empty_bad,empty_size]
   have t1:decide (0<=b)=true:=decide_eq_true hlt
   clear hb hok
   go_wp2_with fail
   try go_ret
   exact ⟨by rw [e];rfl,HBW.out⟩
 ·skip
  have hTT:∀ nq,Tabs ((w.alloc (.cells #[.int .i64 3,.int .i64 0,.int .u64 f,.string ⟨#[]⟩,.slice ad 0 cl,.slice bd 0 ce] 32)).drewN nq):=fun nq=>hT.keep (((Below.refl _ w).alloc (Nat.le_refl _) _).trans (Gx.drewN_below _ nq _))
  have HTT:=hid hTT
  clear hTT hT
  go_enter Tryz.func58,Tryz.ntmps58
  go_wp2_with fail
  go_quiet (fail)
  go_wp2_with fail
  refine (bad_any ⟨#[]⟩ _ (HTT.out nq) (by first|omega|decide)).mono ?_
  rintro e w2 ⟨b,rfl,hb,hbw⟩
  have HBW:=hid (Below.trans (((Below.refl w.heap.size w).alloc (Nat.le_refl _) _).trans (Gx.drewN_below _ nq _)) (hbw.mono (by simp)))
  clear hbw
  by_cases hok:okText (ByteArray.mk #[]).data.toList
  ·have hlt:=hb.2 hok
   have e:ownE 3 0 f ⟨#[]⟩ 0 0=0:=by simp [ownE,kindBad,hok,HNF.out,empty_bad,empty_size]
   have t1:decide (0<=b)=false:=decide_eq_false (by omega)
   clear hb hok
   go_wp2_with fail
   try go_ret
   exact ⟨by rw [e];rfl,HBW.out⟩
  ·have hlt:0<=b:=Int.not_lt.1 (fun h=>hok (hb.1 h))
   have e:ownE 3 0 f ⟨#[]⟩ 0 0=3:=by simp [ownE,kindBad,hok,HNF.out,empty_bad,empty_size]
   have t1:decide (0<=b)=true:=decide_eq_true hlt
   clear hb hok
   go_wp2_with fail
   try go_ret
   exact ⟨by rw [e];rfl,HBW.out⟩
 ·skip
  have hTT:∀ nq,Tabs ((w.alloc (.cells #[.int .i64 3,.int .i64 0,.int .u64 f,.string ⟨#[]⟩,.slice ad 0 cl,.slice bd 0 ce] 32)).drewN nq):=fun nq=>hT.keep (((Below.refl _ w).alloc (Nat.le_refl _) _).trans (Gx.drewN_below _ nq _))
  have HTT:=hid hTT
  clear hTT hT
  go_enter Tryz.func58,Tryz.ntmps58
  go_wp2_with fail
  go_quiet (fail)
  go_wp2_with fail
  refine (bad_any ⟨#[]⟩ _ (HTT.out nq) (by first|omega|decide)).mono ?_
  rintro e w2 ⟨b,rfl,hb,hbw⟩
  have HBW:=hid (Below.trans (((Below.refl w.heap.size w).alloc (Nat.le_refl _) _).trans (Gx.drewN_below _ nq _)) (hbw.mono (by simp)))
  clear hbw
  by_cases hok:okText (ByteArray.mk #[]).data.toList
  ·have hlt:=hb.2 hok
   have e:ownE 3 0 f ⟨#[]⟩ 0 0=0:=by simp [ownE,kindBad,hok,HNF.out,empty_bad,empty_size]
   have t1:decide (0<=b)=false:=decide_eq_false (by omega)
   clear hb hok
   go_wp2_with fail
   try go_ret
   exact ⟨by rw [e];rfl,HBW.out⟩
  ·have hlt:0<=b:=Int.not_lt.1 (fun h=>hok (hb.1 h))
   have e:ownE 3 0 f ⟨#[]⟩ 0 0=3:=by simp [ownE,kindBad,hok,HNF.out,empty_bad,empty_size]
   have t1:decide (0<=b)=true:=decide_eq_true hlt
   clear hb hok
   go_wp2_with fail
   try go_ret
   exact ⟨by rw [e];rfl,HBW.out⟩
end Go.Proofs.YtgnonbdkmmkdgaaGreatDoor
