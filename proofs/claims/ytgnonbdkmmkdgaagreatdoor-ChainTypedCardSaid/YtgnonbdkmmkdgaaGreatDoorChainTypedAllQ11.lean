/-
  Lemmas for the statement: plain laws, and what functions answer; the conditions stand in each.
-/
import Derived.Test.YtgnonbdkmmkdgaaGreatDoorChainTypedAllQ10
set_option linter.unusedVariables false
set_option linter.unusedSimpArgs false
set_option maxHeartbeats 16000000
set_option maxRecDepth 100000
open Go.Lib (hid)
namespace Go.Proofs.YtgnonbdkmmkdgaaGreatDoor
open Go.RowKit Gx
theorem kind_all (k:Int):k<1\/12<k\/k=1\/k=2\/k=3\/k=4\/k=5\/k=6\/k=7\/k=8\/k=9\/k=10\/k=11\/k=12:=by omega
theorem empty_any (q:Lt) (w:World) (hq:q.v.wf):Calls Tryz.prog 64 #[q.val] w (BoolB (emptyB q.v) w):=by
 have hb:=(Below.refl w.heap.size w).alloc (Nat.le_refl _) (.cells #[.int .i64 q.v.k,.int .i64 q.v.lo,.int .i64 q.v.hi,.slice q.xd q.v.x.length q.xc,.slice q.td q.v.t.length q.tc,.slice q.fd q.v.f.length q.fc,.string q.v.n] 27)
 have hc:=heap_alloc_new w (.cells #[.int .i64 q.v.k,.int .i64 q.v.lo,.int .i64 q.v.hi,.slice q.xd q.v.x.length q.xc,.slice q.td q.v.t.length q.tc,.slice q.fd q.v.f.length q.fc,.string q.v.n] 27)
 have HB:=hid hb
 obtain ⟨bb,hbb⟩:∃ bb,emptyB q.v=bb:=⟨_,rfl⟩
 have HBB:=hid hbb
 rw [hbb]
 unfold Lt.val
 clear hb hbb hq
 generalize hk:q.v.k=k at *
 generalize hlo:q.v.lo=lo at *
 generalize hhi:q.v.hi=hi at *
 generalize hxl:q.v.x.length=xl at *
 generalize htl:q.v.t.length=tl at *
 generalize hfl:q.v.f.length=fl at *
 generalize hn:q.v.n=nm at *
 have HBC:Hid ((decide (1<=k) && decide (k<=12) && (k==4 || k==6 || k==8 || (lo==0 && hi==0)) && (k==7 || xl==0) && (if k==8 || k==9 then tl==1 else k==11 || tl==0) && (k==10 || fl==0) && (k==12 || nm.toList==[]))=bb):=hid (by
  rw [<-HBB.out,<-hk,<-hlo,<-hhi,<-hxl,<-htl,<-hfl,<-hn];rfl)
 clear hk hlo hhi hxl htl hfl hn HBB
 go_enter Tryz.func64,Tryz.ntmps64
 go_upto_region 1 with fail
 generalize World.alloc w _=w1 at hc HB ⊢
 obtain ⟨c0,c1,c2,c3,c4,c5,c6,-⟩:=ty_cells hc
 clear hc
 rcases kind_all k with h|h|h|h|h|h|h|h|h|h|h|h|h|h
 ·skip
  go_wp2_with fail
  all_goals
   try go_ret
   refine ⟨?_,HB.out⟩
   rw [<-HBC.out]
   congr 2
   try simp_all
   try (intros;omega)
 ·skip
  go_wp2_with fail
  all_goals
   try go_ret
   refine ⟨?_,HB.out⟩
   rw [<-HBC.out]
   congr 2
   try simp_all
   try (intros;omega)
 ·subst h
  go_wp2_with fail
  all_goals
   try go_ret
   refine ⟨?_,HB.out⟩
   rw [<-HBC.out]
   congr 2
   try simp_all
   try (intros;omega)
 ·subst h
  go_wp2_with fail
  all_goals
   try go_ret
   refine ⟨?_,HB.out⟩
   rw [<-HBC.out]
   congr 2
   try simp_all
   try (intros;omega)
 ·subst h
  go_wp2_with fail
  all_goals
   try go_ret
   refine ⟨?_,HB.out⟩
   rw [<-HBC.out]
   congr 2
   try simp_all
   try (intros;omega)
 ·subst h
  go_wp2_with fail
  all_goals
   try go_ret
   refine ⟨?_,HB.out⟩
   rw [<-HBC.out]
   congr 2
   try simp_all
   try (intros;omega)
 ·subst h
  go_wp2_with fail
  all_goals
   try go_ret
   refine ⟨?_,HB.out⟩
   rw [<-HBC.out]
   congr 2
   try simp_all
   try (intros;omega)
 ·subst h
  go_wp2_with fail
  all_goals
   try go_ret
   refine ⟨?_,HB.out⟩
   rw [<-HBC.out]
   congr 2
   try simp_all
   try (intros;omega)
 ·subst h
  go_wp2_with fail
  all_goals
   try go_ret
   refine ⟨?_,HB.out⟩
   rw [<-HBC.out]
   congr 2
   try simp_all
   try (intros;omega)
 ·subst h
  go_wp2_with fail
  all_goals
   try go_ret
   refine ⟨?_,HB.out⟩
   rw [<-HBC.out]
   congr 2
   try simp_all
   try (intros;omega)
 ·subst h
  go_wp2_with fail
  all_goals
   try go_ret
   refine ⟨?_,HB.out⟩
   rw [<-HBC.out]
   congr 2
   try simp_all
   try (intros;omega)
 ·subst h
  go_wp2_with fail
  all_goals
   try go_ret
   refine ⟨?_,HB.out⟩
   rw [<-HBC.out]
   congr 2
   try simp_all
   try (intros;omega)
 ·subst h
  go_wp2_with fail
  all_goals
   try go_ret
   refine ⟨?_,HB.out⟩
   rw [<-HBC.out]
   congr 2
   try simp_all
   try (intros;omega)
 ·subst h
  go_wp2_with fail
  all_goals
   try go_ret
   refine ⟨?_,HB.out⟩
   rw [<-HBC.out]
   congr 2
   try simp_all
   try (intros;omega)
end Go.Proofs.YtgnonbdkmmkdgaaGreatDoor
