/-
  Lemmas for the statement: plain laws, and what functions answer; the conditions stand in each.
-/
import Derived.ArgAppend
import Derived.Deep.AppendLies
import Derived.Maps.OwnSet
import Derived.Test.YtgnonbdkmmkdgaaGreatDoorChainTypedAllPartH
set_option linter.unusedVariables false
set_option linter.unusedSimpArgs false
set_option maxHeartbeats 16000000
set_option maxRecDepth 100000
open Go.Lib (hid)
namespace Go.Proofs.YtgnonbdkmmkdgaaGreatDoor
open Go.RowKit Gx
theorem becomes_4 (q:Lt)  (C:Nat->Prop) (w:World) (hq:TyAt w C q) (hC:∀ b,w.heap.size<=b->C b) (h8:q.v.k=8->q.v.t.length=1):Calls Tryz.prog 76 #[q.val,.int .i64 4] w (BecPost q.v 4 C w):=by
 have hos:=OTS.start w q
 unfold Lt.val
 have HQ:=hid hq
 have HCC:=hid hC
 have H8:=hid h8
 have hxb:=hq.x.bound
 obtain ⟨nx,hnx⟩:∃ nx,q.v.x.length=nx:=⟨_,rfl⟩
 obtain ⟨nt,hnt⟩:∃ nt,q.v.t.length=nt:=⟨_,rfl⟩
 obtain ⟨nf,hnf⟩:∃ nf,q.v.f.length=nf:=⟨_,rfl⟩
 rw [hnx,hnt,hnf] at hos ⊢
 rw [hnx] at hxb
 have HNX:=hid hnx
 have HNT:=hid hnt
 have HNF:=hid hnf
 clear hq hC h8 hnx hnt hnf
 go_enter Tryz.func76,Tryz.ntmps76
 go_upto_region 1 with fail
 generalize World.alloc (World.alloc w _) _=w2 at hos ⊢
 have HO:=hid hos
 clear hos
 go_upto_region 3 with fail
 obtain ⟨a0,-⟩:=ty_cells HO.out.box
 clear a0
 cases hk:(q.v.k==4)
 ·have hk':Hid (¬ q.v.k=4):=hid (beq_eq_false_iff_ne.1 hk)
  clear hk
  obtain ⟨a0,a1,a2,a3,a4,a5,a6,-⟩:=ty_cells HO.out.box
  obtain ⟨p0,p1,p2,p3,p4,p5,p6,pf⟩:=ty_cells HO.out.res
  have pf0:=pf 0
  have pf1:=pf 1
  have pf2:=pf 2
  have pf3:=pf 3
  have pf4:=pf 4
  have pf5:=pf 5
  have pf6:=pf 6
  obtain ⟨W9,hW9,hr9,hg9⟩:=seven_all HO.out.res (.int .i64 6) (.int .i64 1) (.int .i64 20) (.slice none 0 0) (.slice none 0 0) (.slice none 0 0) (.string ⟨#[]⟩)
  obtain ⟨q0,q1,q2,q3,q4,q5,q6,-⟩:=ty_cells hr9
  have HW9:=hid hW9
  have HPOST:Hid (BecPost q.v 4 C w (.returned (.tuple #[.agg #[.int .i64 6,.int .i64 1,.int .i64 20,.slice none 0 0,.slice none 0 0,.slice none 0 0,.string ⟨#[]⟩],.bool false])) W9.drew):=hid ⟨⟨.mk 6 1 20 [] [] [] ⟨#[]⟩,none,0,none,0,none,0⟩,false,by rfl,(fun h=>by cases h),(HO.out.g.grown hg9 (by have:=HO.out.vlt;omega) (fun b e=>by have:=Option.some.inj e;omega)).trans (Gx.drewN_below W9 1 _)⟩
  clear hW9 hr9 hg9 pf
  go_region_law (fail)
  all_goals
   go_wp2_with fail
   rw [<-HW9.out]
   exact bodyPost_ret (v:=.tuple #[.agg #[.int .i64 6,.int .i64 1,.int .i64 20,.slice none 0 0,.slice none 0 0,.slice none 0 0,.string ⟨#[]⟩],.bool false]) (by simp [results,Tryz.results76,go_sem,q0,q1,q2,q3,q4,q5,q6,hk'.out]) rfl HPOST.out
 ·have hk':Hid (q.v.k=4):=hid (beq_iff_eq.1 hk)
  clear hk
  obtain ⟨a0,a1,a2,a3,a4,a5,a6,-⟩:=ty_cells HO.out.box
  obtain ⟨p0,p1,p2,p3,p4,p5,p6,pf⟩:=ty_cells HO.out.res
  have pf0:=pf 0
  have pf1:=pf 1
  have pf2:=pf 2
  have pf3:=pf 3
  have pf4:=pf 4
  have pf5:=pf 5
  have pf6:=pf 6
  obtain ⟨W9,hW9,hr9,hg9⟩:=seven_all HO.out.res (.int .i64 6) (.int .i64 1) (.int .i64 20) (.slice none 0 0) (.slice none 0 0) (.slice none 0 0) (.string ⟨#[]⟩)
  obtain ⟨q0,q1,q2,q3,q4,q5,q6,-⟩:=ty_cells hr9
  have HW9:=hid hW9
  have HPOST:Hid (BecPost q.v 4 C w (.returned (.tuple #[.agg #[.int .i64 6,.int .i64 1,.int .i64 20,.slice none 0 0,.slice none 0 0,.slice none 0 0,.string ⟨#[]⟩],.bool true])) W9.drew):=hid ⟨⟨.mk 6 1 20 [] [] [] ⟨#[]⟩,none,0,none,0,none,0⟩,true,by rfl,(fun _=>⟨.inl ⟨rfl,hk'.out,rfl,rfl,rfl⟩,⟨by decide,by decide,by decide,by decide,by decide,by decide,by show (0:Nat)<=140737488351232;decide⟩,.nil _ _,.nil _ _ _,.nil _ _ _⟩),(HO.out.g.grown hg9 (by have:=HO.out.vlt;omega) (fun b e=>by have:=Option.some.inj e;omega)).trans (Gx.drewN_below W9 1 _)⟩
  clear hW9 hr9 hg9 pf
  go_region_law (fail)
  all_goals
   go_wp2_with fail
   rw [<-HW9.out]
   exact bodyPost_ret (v:=.tuple #[.agg #[.int .i64 6,.int .i64 1,.int .i64 20,.slice none 0 0,.slice none 0 0,.slice none 0 0,.string ⟨#[]⟩],.bool true]) (by simp [results,Tryz.results76,go_sem,q0,q1,q2,q3,q4,q5,q6,hk'.out]) rfl HPOST.out
theorem becomes_6 (q:Lt)  (C:Nat->Prop) (w:World) (hq:TyAt w C q) (hC:∀ b,w.heap.size<=b->C b) (h8:q.v.k=8->q.v.t.length=1):Calls Tryz.prog 76 #[q.val,.int .i64 6] w (BecPost q.v 6 C w):=by
 have hos:=OTS.start w q
 unfold Lt.val
 have HQ:=hid hq
 have HCC:=hid hC
 have H8:=hid h8
 have hxb:=hq.x.bound
 obtain ⟨nx,hnx⟩:∃ nx,q.v.x.length=nx:=⟨_,rfl⟩
 obtain ⟨nt,hnt⟩:∃ nt,q.v.t.length=nt:=⟨_,rfl⟩
 obtain ⟨nf,hnf⟩:∃ nf,q.v.f.length=nf:=⟨_,rfl⟩
 rw [hnx,hnt,hnf] at hos ⊢
 rw [hnx] at hxb
 have HNX:=hid hnx
 have HNT:=hid hnt
 have HNF:=hid hnf
 clear hq hC h8 hnx hnt hnf
 go_enter Tryz.func76,Tryz.ntmps76
 go_upto_region 1 with fail
 generalize World.alloc (World.alloc w _) _=w2 at hos ⊢
 have HO:=hid hos
 clear hos
 go_upto_region 18 with fail
 obtain ⟨a0,a1,a2,a3,a4,a5,a6,-⟩:=ty_cells HO.out.box
 have hba:=(Below.refl w2.heap.size w2).alloc (Nat.le_refl _) (.cells #[.int .i64 q.v.k,.int .i64 q.v.lo,.int .i64 q.v.hi,.slice q.xd q.v.x.length q.xc,.slice q.td q.v.t.length q.tc,.slice q.fd q.v.f.length q.fc,.string q.v.n] 27)
 have hob:=HO.out.keep hba
 have hone:=TRow.one (B:=fun b=>C b/\b≠w.heap.size+1) (((HQ.out.weak (C:=fun b=>C b/\b≠w.heap.size+1) (fun b h1 h2=>⟨h1,by omega⟩)).keep HO.out.g).keep hba) (heap_alloc_new w2 (.cells #[.int .i64 q.v.k,.int .i64 q.v.lo,.int .i64 q.v.hi,.slice q.xd q.v.x.length q.xc,.slice q.td q.v.t.length q.tc,.slice q.fd q.v.f.length q.fc,.string q.v.n] 27)) ⟨HCC.out _ HO.out.g.size,by have:=HO.out.vlt;omega⟩
 have hlo:=HO.out.vlt
 rw [HNX.out,HNT.out,HNF.out] at hob hone
 have hbw:=(Below.refl w2.heap.size w2).alloc (Nat.le_refl _) (.cells #[.int .i64 q.v.k,.int .i64 q.v.lo,.int .i64 q.v.hi,.slice q.xd nx q.xc,.slice q.td nt q.tc,.slice q.fd nf q.fc,.string q.v.n] 27)
 have HOB:=hid hob
 have HONE:=hid hone
 obtain ⟨wb,hwb⟩:∃ wb,wb=w2.alloc (.cells #[.int .i64 q.v.k,.int .i64 q.v.lo,.int .i64 q.v.hi,.slice q.xd nx q.xc,.slice q.td nt q.tc,.slice q.fd nf q.fc,.string q.v.n] 27):=⟨_,rfl⟩
 clear hba hob hone hbw
 have HWB:=hid hwb
 rw [<-hwb] at HOB HONE
 have HLO:=hid hlo
 clear hwb hlo
 obtain ⟨p0,p1,p2,p3,p4,p5,p6,pf⟩:=ty_cells HOB.out.res
 have pf0:=pf 0
 have pf1:=pf 1
 have pf2:=pf 2
 have pf3:=pf 3
 have pf4:=pf 4
 have pf5:=pf 5
 have pf6:=pf 6
 obtain ⟨W9,hW9,hr9,hg9⟩:=seven_all HOB.out.res (.int .i64 8) (.int .i64 1) (.int .i64 1) (.slice none 0 0) (.slice (some ⟨w2.heap.size,0,none⟩) 1 1) (.slice none 0 0) (.string ⟨#[]⟩)
 obtain ⟨q0,q1,q2,q3,q4,q5,q6,-⟩:=ty_cells hr9
 have HW9:=hid hW9
 have HPOST:Hid (BecPost q.v 6 C w (.returned (.tuple #[.agg #[.int .i64 8,.int .i64 1,.int .i64 1,.slice none 0 0,.slice (some ⟨w2.heap.size,0,none⟩) 1 1,.slice none 0 0,.string ⟨#[]⟩],.bool true])) W9):=hid ⟨⟨.mk 8 1 1 [] [q.v] [] ⟨#[]⟩,none,0,some ⟨w2.heap.size,0,none⟩,1,none,0⟩,true,rfl,(fun _=>⟨.inr (.inr (.inl ⟨rfl,rfl,rfl,rfl,rfl⟩)),wf8 _,.nil _ _,(HONE.out.through hg9.size (fun b hb hl=>hg9.block b hl (fun e=>hb.2 (Option.some.inj e))) (fun b hb _=>hb.1)),.nil _ _ _⟩),HOB.out.g.grown hg9 (by have:=HOB.out.vlt;omega) (fun b e=>by have:=Option.some.inj e;omega)⟩
 rw [HWB.out] at p0 p1 p2 p3 p4 p5 p6 pf0 pf1 pf2 pf3 pf4 pf5 pf6
 clear hW9 hr9 hg9 pf
 go_wp2_with fail
 rw [<-HWB.out,<-HW9.out]
 exact bodyPost_ret (v:=.tuple #[.agg #[.int .i64 8,.int .i64 1,.int .i64 1,.slice none 0 0,.slice (some ⟨w2.heap.size,0,none⟩) 1 1,.slice none 0 0,.string ⟨#[]⟩],.bool true]) (by simp [results,Tryz.results76,go_sem,q0,q1,q2,q3,q4,q5,q6]) rfl HPOST.out
theorem becomes_o (q:Lt) (k:Int) (C:Nat->Prop) (w:World) (hq:TyAt w C q) (hC:∀ b,w.heap.size<=b->C b) (h8:q.v.k=8->q.v.t.length=1) (k4:k≠4) (k5:k≠5) (k6:k≠6):Calls Tryz.prog 76 #[q.val,.int .i64 k] w (BecPost q.v k C w):=by
 have hos:=OTS.start w q
 unfold Lt.val
 have HQ:=hid hq
 have HCC:=hid hC
 have H8:=hid h8
 have hxb:=hq.x.bound
 obtain ⟨nx,hnx⟩:∃ nx,q.v.x.length=nx:=⟨_,rfl⟩
 obtain ⟨nt,hnt⟩:∃ nt,q.v.t.length=nt:=⟨_,rfl⟩
 obtain ⟨nf,hnf⟩:∃ nf,q.v.f.length=nf:=⟨_,rfl⟩
 rw [hnx,hnt,hnf] at hos ⊢
 rw [hnx] at hxb
 have HNX:=hid hnx
 have HNT:=hid hnt
 have HNF:=hid hnf
 clear hq hC h8 hnx hnt hnf
 go_enter Tryz.func76,Tryz.ntmps76
 go_upto_region 1 with fail
 generalize World.alloc (World.alloc w _) _=w2 at hos ⊢
 have HO:=hid hos
 clear hos
 have e4:(k==4)=false:=beq_eq_false_iff_ne.2 k4
 have e5:(k==5)=false:=beq_eq_false_iff_ne.2 k5
 have e6:(k==6)=false:=beq_eq_false_iff_ne.2 k6
 have HK:Hid (k≠4/\k≠5/\k≠6):=hid ⟨k4,k5,k6⟩
 clear k4 k5 k6
 by_cases hok:q.v.k=8/\q.v.lo=1/\q.v.hi=1
 ·have HOK:=hid hok
  obtain ⟨h1,h2,h3⟩:=hok
  have t1:(q.v.k != 8)=false:=by simp [h1]
  have t2:(q.v.lo != 1)=false:=by simp [h2]
  have t3:(q.v.hi != 1)=false:=by simp [h3]
  have hlen:=H8.out h1
  obtain ⟨x,hx⟩:∃ x,q.v.t=[x]:=List.length_eq_one_iff.1 hlen
  obtain ⟨tb,t0,htd,-,htl,hts⟩:=HQ.out.t.elem (by rw [hlen];decide)
  obtain ⟨y,hy,hya,hyc⟩:=hts 0 x (by rw [hx];rfl)
  rw [Nat.zero_mul,Nat.add_zero] at hyc
  obtain ⟨c0,c1,c2,c3,c4,c5,c6⟩:=hyc.through (HO.out.g.block _ htl)
  have hn1:nt=1:=by rw [<-HNT.out];exact hlen
  have HYV:Hid (y.v=q.v.t.getD 0 default):=hid (by rw [hx,hy];rfl)
  have HYA:=hid ((hya.weak (C:=fun b=>C b/\b<w.heap.size) (fun b h1 h2=>⟨h1,h2⟩)).keep HO.out.g)
  have HTD:=hid htd
  have r1:(0:Int)<(nt:Int):=by omega
  obtain ⟨ym,hym⟩:∃ ym,y.v.x.length=ym:=⟨_,rfl⟩
  obtain ⟨yt,hyt⟩:∃ yt,y.v.t.length=yt:=⟨_,rfl⟩
  obtain ⟨yf,hyf⟩:∃ yf,y.v.f.length=yf:=⟨_,rfl⟩
  rw [hym] at c3
  rw [hyt] at c4
  rw [hyf] at c5
  have HY1:=hid hym
  have HY2:=hid hyt
  have HY3:=hid hyf
  clear h1 h2 h3 hlen hx hts hy hya hyc hym hyt hyf
  obtain ⟨a0,a1,a2,a3,a4,a5,a6,-⟩:=ty_cells HO.out.box
  obtain ⟨p0,p1,p2,p3,p4,p5,p6,pf⟩:=ty_cells HO.out.res
  have pf0:=pf 0
  have pf1:=pf 1
  have pf2:=pf 2
  have pf3:=pf 3
  have pf4:=pf 4
  have pf5:=pf 5
  have pf6:=pf 6
  obtain ⟨W9,hW9,hr9,hg9⟩:=seven_all HO.out.res (.int .i64 y.v.k) (.int .i64 y.v.lo) (.int .i64 y.v.hi) (.slice y.xd ym y.xc) (.slice y.td yt y.tc) (.slice y.fd yf y.fc) (.string y.v.n)
  obtain ⟨q0,q1,q2,q3,q4,q5,q6,-⟩:=ty_cells hr9
  have HW9:=hid hW9
  have HPOST:Hid (BecPost q.v k C w (.returned (.tuple #[.agg #[.int .i64 y.v.k,.int .i64 y.v.lo,.int .i64 y.v.hi,.slice y.xd ym y.xc,.slice y.td yt y.tc,.slice y.fd yf y.fc,.string y.v.n],.bool true])) W9):=hid ⟨y,true,by unfold Lt.val;rw [HY1.out,HY2.out,HY3.out],(fun _=>⟨.inr (.inr (.inr ⟨HK.out.1,HK.out.2.1,HK.out.2.2,HOK.out.1,HOK.out.2.1,HOK.out.2.2,HYV.out⟩)),(HYA.out.grow hg9 (fun b e hb=>by have:=Option.some.inj e;omega)).weak (fun b hb _=>hb.1)⟩),HO.out.g.grown hg9 (by have:=HO.out.vlt;omega) (fun b e=>by have:=Option.some.inj e;omega)⟩
  clear hW9 hr9 hg9 pf
  rw [HTD.out] at a4
  go_wp2_with fail
  rw [<-HW9.out]
  exact bodyPost_ret (v:=.tuple #[.agg #[.int .i64 y.v.k,.int .i64 y.v.lo,.int .i64 y.v.hi,.slice y.xd ym y.xc,.slice y.td yt y.tc,.slice y.fd yf y.fc,.string y.v.n],.bool true]) (by simp [results,Tryz.results76,go_sem,q0,q1,q2,q3,q4,q5,q6]) rfl HPOST.out
 ·have hor:q.v.k≠8\/(q.v.k=8/\q.v.lo≠1)\/(q.v.k=8/\q.v.lo=1/\q.v.hi≠1):=by omega
  clear hok
  rcases hor with h1|⟨h1,h2⟩|⟨h1,h2,h3⟩
  ·have t1:(q.v.k != 8)=true:=by simp [h1]
   clear h1
   obtain ⟨a0,a1,a2,a3,a4,a5,a6,-⟩:=ty_cells HO.out.box
   obtain ⟨p0,p1,p2,p3,p4,p5,p6,pf⟩:=ty_cells HO.out.res
   have pf0:=pf 0
   have pf1:=pf 1
   have pf2:=pf 2
   have pf3:=pf 3
   have pf4:=pf 4
   have pf5:=pf 5
   have pf6:=pf 6
   obtain ⟨W9,hW9,hr9,hg9⟩:=seven_all HO.out.res (.int .i64 q.v.k) (.int .i64 q.v.lo) (.int .i64 q.v.hi) (.slice q.xd nx q.xc) (.slice q.td nt q.tc) (.slice q.fd nf q.fc) (.string q.v.n)
   obtain ⟨q0,q1,q2,q3,q4,q5,q6,-⟩:=ty_cells hr9
   have HW9:=hid hW9
   have HPOST:Hid (BecPost q.v k C w (.returned (.tuple #[.agg #[.int .i64 q.v.k,.int .i64 q.v.lo,.int .i64 q.v.hi,.slice q.xd nx q.xc,.slice q.td nt q.tc,.slice q.fd nf q.fc,.string q.v.n],.bool false])) W9):=hid ⟨q,false,by unfold Lt.val;rw [HNX.out,HNT.out,HNF.out],(fun h=>by cases h),HO.out.g.grown hg9 (by have:=HO.out.vlt;omega) (fun b e=>by have:=Option.some.inj e;omega)⟩
   clear hW9 hr9 hg9 pf
   go_wp2_with fail
   rw [<-HW9.out]
   exact bodyPost_ret (v:=.tuple #[.agg #[.int .i64 q.v.k,.int .i64 q.v.lo,.int .i64 q.v.hi,.slice q.xd nx q.xc,.slice q.td nt q.tc,.slice q.fd nf q.fc,.string q.v.n],.bool false]) (by simp [results,Tryz.results76,go_sem,q0,q1,q2,q3,q4,q5,q6]) rfl HPOST.out
  ·have t1:(q.v.k != 8)=false:=by simp [h1]
   have t2:(q.v.lo != 1)=true:=by simp [h2]
   clear h1 h2
   obtain ⟨a0,a1,a2,a3,a4,a5,a6,-⟩:=ty_cells HO.out.box
   obtain ⟨p0,p1,p2,p3,p4,p5,p6,pf⟩:=ty_cells HO.out.res
   have pf0:=pf 0
   have pf1:=pf 1
   have pf2:=pf 2
   have pf3:=pf 3
   have pf4:=pf 4
   have pf5:=pf 5
   have pf6:=pf 6
   obtain ⟨W9,hW9,hr9,hg9⟩:=seven_all HO.out.res (.int .i64 q.v.k) (.int .i64 q.v.lo) (.int .i64 q.v.hi) (.slice q.xd nx q.xc) (.slice q.td nt q.tc) (.slice q.fd nf q.fc) (.string q.v.n)
   obtain ⟨q0,q1,q2,q3,q4,q5,q6,-⟩:=ty_cells hr9
   have HW9:=hid hW9
   have HPOST:Hid (BecPost q.v k C w (.returned (.tuple #[.agg #[.int .i64 q.v.k,.int .i64 q.v.lo,.int .i64 q.v.hi,.slice q.xd nx q.xc,.slice q.td nt q.tc,.slice q.fd nf q.fc,.string q.v.n],.bool false])) W9):=hid ⟨q,false,by unfold Lt.val;rw [HNX.out,HNT.out,HNF.out],(fun h=>by cases h),HO.out.g.grown hg9 (by have:=HO.out.vlt;omega) (fun b e=>by have:=Option.some.inj e;omega)⟩
   clear hW9 hr9 hg9 pf
   go_wp2_with fail
   rw [<-HW9.out]
   exact bodyPost_ret (v:=.tuple #[.agg #[.int .i64 q.v.k,.int .i64 q.v.lo,.int .i64 q.v.hi,.slice q.xd nx q.xc,.slice q.td nt q.tc,.slice q.fd nf q.fc,.string q.v.n],.bool false]) (by simp [results,Tryz.results76,go_sem,q0,q1,q2,q3,q4,q5,q6]) rfl HPOST.out
  ·have t1:(q.v.k != 8)=false:=by simp [h1]
   have t2:(q.v.lo != 1)=false:=by simp [h2]
   have t3:(q.v.hi != 1)=true:=by simp [h3]
   clear h1 h2 h3
   obtain ⟨a0,a1,a2,a3,a4,a5,a6,-⟩:=ty_cells HO.out.box
   obtain ⟨p0,p1,p2,p3,p4,p5,p6,pf⟩:=ty_cells HO.out.res
   have pf0:=pf 0
   have pf1:=pf 1
   have pf2:=pf 2
   have pf3:=pf 3
   have pf4:=pf 4
   have pf5:=pf 5
   have pf6:=pf 6
   obtain ⟨W9,hW9,hr9,hg9⟩:=seven_all HO.out.res (.int .i64 q.v.k) (.int .i64 q.v.lo) (.int .i64 q.v.hi) (.slice q.xd nx q.xc) (.slice q.td nt q.tc) (.slice q.fd nf q.fc) (.string q.v.n)
   obtain ⟨q0,q1,q2,q3,q4,q5,q6,-⟩:=ty_cells hr9
   have HW9:=hid hW9
   have HPOST:Hid (BecPost q.v k C w (.returned (.tuple #[.agg #[.int .i64 q.v.k,.int .i64 q.v.lo,.int .i64 q.v.hi,.slice q.xd nx q.xc,.slice q.td nt q.tc,.slice q.fd nf q.fc,.string q.v.n],.bool false])) W9):=hid ⟨q,false,by unfold Lt.val;rw [HNX.out,HNT.out,HNF.out],(fun h=>by cases h),HO.out.g.grown hg9 (by have:=HO.out.vlt;omega) (fun b e=>by have:=Option.some.inj e;omega)⟩
   clear hW9 hr9 hg9 pf
   go_wp2_with fail
   rw [<-HW9.out]
   exact bodyPost_ret (v:=.tuple #[.agg #[.int .i64 q.v.k,.int .i64 q.v.lo,.int .i64 q.v.hi,.slice q.xd nx q.xc,.slice q.td nt q.tc,.slice q.fd nf q.fc,.string q.v.n],.bool false]) (by simp [results,Tryz.results76,go_sem,q0,q1,q2,q3,q4,q5,q6]) rfl HPOST.out
end Go.Proofs.YtgnonbdkmmkdgaaGreatDoor
namespace Go.Proofs.YtgnonbdkmmkdgaaGreatDoor.Gx
open Go Go.RowKit
def OwnQ (w:World) (base:Nat) (v:Value) (xs:List Value):Prop :=
 ∃ g off cap,v=.slice (some ⟨g,off,none⟩) xs.length cap/\base<=g/\g<w.heap.size/\xs.length<=cap/\cap<=maxLen /\
  (∀ j,j<cap->(w.cell? ⟨g,off+j,none⟩).isSome=true/\w.frozen? ⟨g,off+j,none⟩=false)/\∀ j u,xs[j]?=some u->w.cell? ⟨g,off+j,none⟩=some u
theorem OwnQ.kept {w w':World} {base:Nat} {v:Value} {xs:List Value} {row:Option Nat} (h:OwnQ w base v xs) (hg:w.grownBy w' row) (hne:v.ownBlock≠row):OwnQ w' base v xs:=by
 obtain ⟨g,off,cap,rfl,h1,h2,h3,h4,h5,h6⟩:=h
 have hk:∀ j,w'.cell? ⟨g,off+j,none⟩=w.cell? ⟨g,off+j,none⟩:=fun j=>hg.cell_far ⟨g,off+j,none⟩ h2 hne
 refine ⟨g,off,cap,rfl,h1,Nat.lt_of_lt_of_le h2 hg.size,h3,h4,fun j hj=>?_,fun j u hu=>?_⟩
 ·rw [hk]
  exact ⟨(h5 j hj).1,by rw [hg.frozen_far ⟨g,off+j,none⟩ h2 hne];exact (h5 j hj).2⟩
 ·rw [hk];exact h6 j u hu
theorem OwnQ.lt {w:World} {base:Nat} {v:Value} {xs:List Value} (h:OwnQ w base v xs) {k:Nat} (hk:v.ownBlock=some k):base<=k/\k<w.heap.size:=by
 obtain ⟨g,off,cap,rfl,h1,h2,-⟩:=h
 cases hk
 exact ⟨h1,h2⟩
theorem OwnQ.alloc {w:World} {base:Nat} {v:Value} {xs:List Value} (h:OwnQ w base v xs) (o:Obj):OwnQ (w.alloc o) base v xs :=
 h.kept (World.grownBy_alloc w o none) (by obtain ⟨g,off,cap,rfl,-⟩:=h;simp [Value.ownBlock])
theorem OwnQ.of_own {w:World} {base:Nat} {e:TypeId} {v:Value} {n:Nat} {xs:List Value} (h:w.ownsRow base e 1 v n xs) (hn:0<n):OwnQ w base v xs:=by
 have hl:xs.length=n:=by simpa using h.1
 rcases h.2 with ⟨_,h0⟩|⟨g,cap,cur,rfl,hb,hg,hnc,hcm,hcs,ht⟩
 ·omega
 ·have hlt:=(Array.getElem?_eq_some_iff.1 hg).1
  refine ⟨g,0,cap,by rw [hl],hb,hlt,by omega,hcm,fun j hj=>⟨?_,frozen_of_row w g _ cur e hg⟩,fun j u hu=>?_⟩
  ·rw [cell_of_row w g _ cur e (0,0) hg]
   have:0+j<cur.size:=by rw [hcs];omega
   simp only [Nat.zero_add] at this ⊢
   simp [this]
  ·have:=h.cells (g:=g) rfl j u hu
   rwa [Addr.add_lit] at this
theorem OwnQ.one (w:World) (base:Nat) (e:TypeId) (u:Value) (hb:base<=w.heap.size):OwnQ (w.alloc (.cells #[u] e)) base (.slice (some ⟨w.heap.size,0,none⟩) 1 1) [u]:=by
 refine ⟨w.heap.size,0,1,rfl,hb,by simp,Nat.le_refl _,by decide,fun j hj=>?_,fun j x hx=>?_⟩
 ·obtain rfl:j=0:=by omega
  refine ⟨?_,World.frozen?_alloc_new w _ _ _⟩
  have:=World.cell?_alloc_mark w #[u] e (0,0) (0+0)
  rw [this];rfl
 ·have:=World.cell?_alloc_mark w #[u] e (0,0) (0+j)
  rw [this]
  simpa using hx
theorem OwnQ.tail {w:World} {base g off n cap:Nat} {x:Value} {xs:List Value} (h:OwnQ w base (.slice (some ⟨g,off,none⟩) n cap) (x::xs)):OwnQ w base (.slice (some ⟨g,off+1,none⟩) xs.length (cap - 1)) xs:=by
 obtain ⟨g',off',cap',e,h1,h2,h3,h4,h5,h6⟩:=h
 cases e
 rw [List.length_cons] at h3
 refine ⟨g,off+1,cap - 1,rfl,h1,h2,by omega,by omega,fun j hj=>?_,fun j u hu=>?_⟩
 ·rw [Nat.add_assoc,Nat.add_comm 1 j];exact h5 (j+1) (by omega)
 ·rw [Nat.add_assoc,Nat.add_comm 1 j];exact h6 (j+1) u (by simpa using hu)
theorem grownBy_set (w:World) (b i:Nat) (v:Value):w.grownBy (w.setCell ⟨b,i,none⟩ v) (some b) :=
 ⟨rfl,rfl,rfl,by simp [World.setCell],fun k _ hk=>Below.heap_setCell _ _ _ _ (fun e=>hk (by simp [e]))⟩
section
variable {P:Program}
theorem wpList_push_q (w:World) {ops:Array Oper} {rest:List Oper} {o:Oper} {ac:Act} {Q:Exit->Act->World->Prop} (hgd:o.guard=none) (s x:Operand) (t:TypeId)
 (ho:o.op=.call { callee:=.builtin .append,args:=#[s,x],argTypes:=#[t,t] })
 (base:Nat) (e:TypeId) (z:Value) (bytes:Nat) (ht:P.underlying t=some (.slice e))
 (hinfo:(P.info? e).map (fun i=>(i.zero,i.size,i.bytes))=some (some z,1,bytes)) (hzs:z.cells.size=1)
 (v:Value) (xs:List Value) (u:Value) (o':Obj) (ho':o'=.cells #[u] e) (hs:ac.eval s=v) (hown:OwnQ w base v xs)
 (hx:ac.eval x=.slice (some ⟨w.heap.size,0,none⟩) 1 1) (h1:u.oneCell'=true)
 (hbytes:(xs.length+1) * bytes<=140737488355328) (h63:xs.length+1<=maxLen) (hbase:base<=w.heap.size)
 (h:∀ v' w',OwnQ w' base v' (xs++[u])->w.grownBy w' v.ownBlock->Moved v v' w.heap.size->(∃ a c,v'=.slice a (xs.length+1) c)->wpList P ops Q rest (ac.put o.dst v') w') :
 wpList P ops Q (o::rest) ac (w.alloc o'):=by
 subst ho'
 obtain ⟨i,hi,hz0,hz1,hz2⟩:=info_parts hinfo
 have hq:=hown.alloc (.cells #[u] e)
 obtain ⟨g,off,cap,rfl,c1,c2,c3,c4,c5,c6⟩:=hown
 obtain ⟨g',off',cap',ev,d1,d2,d3,d4,d5,d6⟩:=hq
 cases ev
 have hnews:∀ j y,([u]:List Value)[j]?=some y->(w.alloc (.cells #[u] e)).cell? ((⟨w.heap.size,0,none⟩:Addr).add j)=some y:=by
  intro j y hj
  rw [Addr.add_lit]
  have:=World.cell?_alloc_mark w #[u] e (0,0) (0+j)
  rw [this];simpa using hj
 refine wpList_append_arg (P:=P) (w.alloc (.cells #[u] e)) hgd s x t ho e i z 1 bytes ht hi hz0 hz1 hz2 hzs (by decide) g off xs.length cap xs hs (by simp) d6 ⟨w.heap.size,0,none⟩ 1 1 [u] hx rfl
  hnews (by simpa using h1) (fun hroom j hj=>?_) (by omega) hbytes (fun hroom=>?_) (fun hgrow v' w' ho2 hg=>?_)
 ·simp only [List.length_cons,List.length_nil,Nat.zero_add] at hj
  obtain rfl:j=0:=by omega
  have:=d5 xs.length (by omega)
  simpa using this
 ·have hgr:(w.alloc (.cells #[u] e)).grownBy (((w.alloc (.cells #[u] e))).setCells g (off+xs.length) [u]) (some g):=grownBy_set _ _ _ _
  have hgw:w.grownBy (((w.alloc (.cells #[u] e))).setCells g (off+xs.length) [u]) (some g):=by
   refine ⟨hgr.os,hgr.tape,hgr.output,Nat.le_trans (by simp) hgr.size,fun k hk hne=>?_⟩
   rw [hgr.block k (by simp;omega) hne]
   exact alloc_old_gx w _ hk
  have hu:=d5 xs.length (by omega)
  rw [Nat.mul_one]
  refine h _ _ ⟨g,off,cap,by simp,d1,Nat.lt_of_lt_of_le d2 hgr.size,by simp;omega,d4,fun j hj=>?_,fun j y hy=>?_⟩ hgw (.inl rfl) ⟨_,_,rfl⟩
  ·refine ⟨?_,by rw [World.frozen?_setCells];exact (d5 j hj).2⟩
   have hne:j≠xs.length->(⟨g,off+xs.length,none⟩:Addr)≠⟨g,off+j,none⟩:=by intro h e;simp at e;try omega
   by_cases hjx:j=xs.length
   ·subst hjx
    show (World.cell? (World.setCell _ _ _) _).isSome=true
    rw [World.cell?_setCell_same' _ _ _ hu.1];rfl
   ·show (World.cell? (World.setCell _ _ _) _).isSome=true
    rw [World.cell?_setCell_other _ _ _ _ (hne hjx)]
    exact (d5 j hj).1
  ·have hne:j≠xs.length->(⟨g,off+xs.length,none⟩:Addr)≠⟨g,off+j,none⟩:=by intro h e;simp at e;try omega
   by_cases hjx:j=xs.length
   ·subst hjx
    show World.cell? (World.setCell _ _ _) _=_
    rw [World.cell?_setCell_same' _ _ _ hu.1]
    simpa using hy
   ·show World.cell? (World.setCell _ _ _) _=_
    rw [World.cell?_setCell_other _ _ _ _ (hne hjx)]
    refine d6 j y ?_
    rw [List.getElem?_append] at hy
    split at hy
    ·exact hy
    ·rename_i hlt
     have:j - xs.length≠0:=by omega
     obtain ⟨k,hk⟩:∃ k,j - xs.length=k+1:=⟨j - xs.length - 1,by omega⟩
     rw [hk] at hy
     simp at hy
 ·have hgw:w.grownBy w' (some g):=by
   refine ⟨hg.os,hg.tape,hg.output,Nat.le_trans (by simp) hg.size,fun k hk hne=>?_⟩
   rw [hg.block k (by simp;omega) (by simp)]
   exact alloc_old_gx w _ hk
  have hq2:=OwnQ.of_own ho2 (by omega)
  obtain ⟨g2,off2,cap2,rfl,e1,e2,e3,e4,e5,e6⟩:=hq2
  refine h _ w' ⟨g2,off2,cap2,rfl,by simp at e1;omega,e2,e3,e4,e5,e6⟩ hgw (.inr ⟨g2,rfl,by simp at e1;omega⟩) ⟨some ⟨g2,off2,none⟩,cap2,by simp⟩
end
end Go.Proofs.YtgnonbdkmmkdgaaGreatDoor.Gx
namespace Go.Proofs.YtgnonbdkmmkdgaaGreatDoor
open Go.RowKit Go.Maps Gx
theorem law_int:Keyed Tryz.prog 3:=int_keyed Tryz.underlying3
theorem zero_int (w:World):(zeroValue 3).run Tryz.prog w=.ok (.int .i64 0) w:=by kernel_rfl
def FarMap (w:World) (b:Nat) (f:Int->Option Nat) (n:Nat):Prop :=
 ∃ D:DataW Unit,w.ownsMap Tryz.prog 3 (plainElem Tryz.prog 3) b n D/\∀ x,(Lit.int .i64 x).wf=true ->
  Maps.has D (.int .i64 x)=(f x).isSome/\D.atKey (.int .i64 x) (.lit (.int .i64 0))=.lit (.int .i64 (((f x).getD 0:Nat):Int))
theorem FarMap.kept {w w':World} {b:Nat} {f:Int->Option Nat} {n:Nat} {row:Option Nat} (h:FarMap w b f n) (hg:w.grownBy w' row) (hne:some b≠row):FarMap w' b f n :=
 let ⟨D,h1,h2⟩:=h
 ⟨D,h1.kept hg hne,h2⟩
theorem FarMap.alloc {w:World} {b:Nat} {f:Int->Option Nat} {n:Nat} (h:FarMap w b f n) (o:Obj):FarMap (w.alloc o) b f n :=
 let ⟨D,h1,h2⟩:=h
 ⟨D,h1.alloc o,h2⟩
theorem FarMap.lt {w:World} {b:Nat} {f:Int->Option Nat} {n:Nat} (h:FarMap w b f n):b<w.heap.size:=let ⟨_,h1,_⟩:=h;h1.lt
theorem FarMap.keep {w w':World} {b:Nat} {f:Int->Option Nat} {n:Nat} (h:FarMap w b f n) (hb:Below w.heap.size w w'):FarMap w' b f n:=by
 obtain ⟨D,⟨es,clock,h1,h2⟩,h3⟩:=h
 exact ⟨D,⟨es,clock,(hb.block b (Array.getElem?_eq_some_iff.1 h1).1).trans h1,h2⟩,h3⟩
theorem FarMap.made (w:World):FarMap (w.alloc (.map #[] 0)) w.heap.size (fun _=>none) 0 :=
 ⟨.map [],World.ownsMap_made _ _ _ _,fun x hx=>⟨rfl,rfl⟩⟩
theorem FarMap.look {w:World} {b:Nat} {f:Int->Option Nat} {n:Nat} (h:FarMap w b f n) (x:Int) (hx:(Lit.int .i64 x).wf=true) :
 (Instr.lookup 71 (.map (some b)) (.int .i64 x) false).run Tryz.prog w=.ok (.int .i64 (((f x).getD 0:Nat):Int)) w:=by
 obtain ⟨D,h1,h2⟩:=h
 obtain ⟨c,hr,hc,-⟩:=h1.lookup_int law_int Tryz.underlying71 Tryz.underlying3 (zero_int w) (keyOf_int_mk Tryz.underlying3 hx)
 rw [hr]
 rw [(h2 x hx).2] at hc
 cases hc
 rfl
theorem FarMap.look_ok {w:World} {b:Nat} {f:Int->Option Nat} {n:Nat} (h:FarMap w b f n) (x:Int) (hx:(Lit.int .i64 x).wf=true) :
 (Instr.lookup 71 (.map (some b)) (.int .i64 x) true).run Tryz.prog w=.ok (.tuple #[.int .i64 (((f x).getD 0:Nat):Int),.bool (f x).isSome]) w:=by
 obtain ⟨D,h1,h2⟩:=h
 have hw0:(Lit.int .i64 0).wf=true:=by decide
 obtain ⟨v,ps,hr,hv⟩:=h1.look_ok law_int Tryz.underlying71 (zero_int w) (plainElem_int Tryz.underlying3 hw0) (keyOf_int_mk Tryz.underlying3 hx)
 obtain ⟨c,rfl,hc,-⟩:=plainElem_int_inv Tryz.underlying3 hv
 rw [hr,(h2 x hx).1]
 rw [(h2 x hx).2] at hc
 cases hc
 rfl
theorem wpList_far_put (w:World) {ops:Array Oper} {rest:List Oper} {o:Oper} {a:Act} {Q:Exit->Act->World->Prop}
 (hg:o.guard=none) (m x v:Operand) (hop:o.op=Op.mapUpdate 71 m x v\/o.op=Op.insert 71 m x v)
 (b n:Nat) (f:Int->Option Nat) (hm:a.eval m=.map (some b)) (h:FarMap w b f n) (hn:n<maxLen) (k:Int) (d:Nat) (hx:a.eval x=.int .i64 k) (hv:a.eval v=.int .i64 (d:Int)) (hk:(Lit.int .i64 k).wf=true) (hd:d<=9223372036854775807)
 (hK:∀ w',FarMap w' b (put1 f k d) (n+1)->w.grownBy w' (some b)->wpList Tryz.prog ops Q rest (a.put o.dst undef) w') :
 wpList Tryz.prog ops Q (o::rest) a w:=by
 refine wpList_plain hg fun K' hK'=>?_
 obtain ⟨D,h1,h2⟩:=h
 have hwd:(Lit.int .i64 (d:Int)).wf=true:=by simp [Lit.wf,IntKind.min,IntKind.max,IntKind.signed,IntKind.bits];omega
 obtain ⟨w',hrun,r1,r2⟩:=h1.update law_int Tryz.underlying71 hn (keyOf_int_mk Tryz.underlying3 hk) (plainElem_int Tryz.underlying3 hwd)
 have hF:FarMap w' b (put1 f k d) (n+1):=by
  refine ⟨_,r1,fun y hy=>?_⟩
  by_cases hyk:y=k
  ·subst hyk
   rw [has_put_same h1.isMap (by trivial),atKey_put_same h1.isMap (by trivial)]
   simp [put1]
  ·have hne:(Lit.int .i64 y)≠(Lit.int .i64 k):=by intro e;cases e;exact hyk rfl
   rw [has_put_other hne,atKey_put_other hne,(h2 y hy).1,(h2 y hy).2]
   unfold put1
   rw [if_neg hyk]
   exact ⟨rfl,rfl⟩
 unfold Oper.wp
 rcases hop with hop|hop
 ·simp [execOp,hop,hm,hx,hv,hrun,Result.andThen]
  exact hK' _ _ (hK w' hF r2)
 ·simp [execOp,hop,hm,hx,hv,hrun,Result.andThen]
  exact hK' _ _ (hK w' hF r2)
end Go.Proofs.YtgnonbdkmmkdgaaGreatDoor
