/-
  Lemmas for the statement: plain laws, and what functions answer; the conditions stand in each.
-/
import Derived.Test.YtgnonbdkmmkdgaaGreatDoorChainTypedAllQ25
set_option linter.unusedVariables false
set_option linter.unusedSimpArgs false
set_option maxHeartbeats 16000000
set_option maxRecDepth 100000
open Go.Lib (hid)
namespace Go.Proofs.YtgnonbdkmmkdgaaGreatDoor
open Go.RowKit Gx
theorem rec_bec (d:Nat) (q:Lt) (m:Lm) (w:World) (S C:Nat->Prop) (hq:OwnT w S q) (hs:Seen d q.v) (hk:q.v.k=10) (hm:MvAt w (fun _=>True) m) (hT:Tabs w) (hSC:∀ b,S b->C b) (hC:∀ b,w.heap.size<=b->C b) (f:Fd Ty) (h3:m.k≠3) (hn:fdOf q.v.f m.key=some f) (ho:f.o=false) (hh:f.h=false) (h1:m.k≠1) (h2:m.k≠2) :
 Calls Tryz.prog 49 #[q.val,m.val] w (TypedPost (fun u=>RecR m.mv q.v u) S C w):=by
 obtain ⟨h10x,h10t,h200⟩:=hs.ten hk
 have hrb:=RB.start w (fun _=>False) #[.int .i64 q.v.k,.int .i64 q.v.lo,.int .i64 q.v.hi,.slice q.xd q.v.x.length q.xc,.slice q.td q.v.t.length q.tc,.slice q.fd q.v.f.length q.fc,.string q.v.n] #[.int .i64 m.k,.slice m.pd m.p.length m.pc,.string m.key,.string m.dst,.int .i64 m.q.v.k,.int .i64 m.q.v.n,.int .u64 m.q.v.f,.string m.q.v.s,.slice m.q.ad m.q.v.l.length m.q.cap,.slice m.q.bd m.q.v.e.length m.q.dap]
 have hqt:TyAt w (fun _=>True) q:=hq.at_.weak (fun _ _ _=>trivial)
 unfold Lt.val Lm.val
 obtain ⟨nx,hnx⟩:∃ m,q.v.x.length=m:=⟨_,rfl⟩
 obtain ⟨nt,hnt⟩:∃ m,q.v.t.length=m:=⟨_,rfl⟩
 obtain ⟨nf,hnf⟩:∃ m,q.v.f.length=m:=⟨_,rfl⟩
 rw [hnx,hnt,hnf] at hrb ⊢
 have HNX:=hid hnx
 have HNT:=hid hnt
 have HNF:=hid hnf
 have HQ:=hid hq
 have HQT:=hid hqt
 have HM:=hid hm
 have HT:=hid hT
 have HS:=hid hs
 have HSC:=hid hSC
 have HC:=hid hC
 have HX0:=hid h10x
 have HT0:=hid h10t
 have H200:nf<=200:=by rw [<-hnf];exact h200
 clear hnx hnt hnf hq hqt hm hT hs hSC hC hk h10x h10t h200
 have hask1:=askedF_some hn
 rw [ho,hh] at hask1
 have hin:=(fpos_some hn).1
 obtain ⟨g,ps,Sd,hrec⟩:=(HQ.out.weak (C:=fun b=>S b/\b<w.heap.size) (fun b h hl=>⟨h,hl⟩)).recAt (by have:=(fpos_some hn).1;omega)
 obtain ⟨p,hp,hpf⟩:=hrec.get hn
 have hbare:=HS.out.bare f (List.mem_of_getElem? (fpos_some hn).2) hh
 have hpl:ps.length=nf:=by rw [hrec.len];exact HNF.out
 have hfd:=hrec.fd
 have hpt:f.t=p.t.v:=by rw [<-hpf];rfl
 have hpdv:f.d=p.d.v:=by rw [<-hpf];rfl
 rw [hpdv] at hbare
 obtain ⟨ii,hii⟩:∃ ii,fpos m.key q.v.f=ii:=⟨_,rfl⟩
 rw [hii] at hp hask1
 have r3:ii<nf:=by rw [<-hii,<-HNF.out];exact hin
 have hpt1:=hrec.ho ii p hp
 have h8:p.t.v.k=8->p.t.v.t.length=1:=fun h8=>by rw [<-hpt] at h8 ⊢;exact (HS.out.tok.f f (List.mem_of_getElem? (fpos_some hn).2)).one (.inl h8)
 have H8:=hid h8
 have hpd1:=hrec.hv ii p hp
 have HN:=hid hn
 have e3:(m.k==3)=false:=beq_eq_false_iff_ne.2 h3
 have H3:=hid h3
 have HA1:Hid (askedF q.v m.key=(ii:Int)):=hid hask1
 have HREC:=hid hrec
 have HP0:=hid hp
 have HPF:=hid hpf
 have HII:=hid hii
 have HPL:=hid hpl
 have HBA:=hid hbare
 have HFD:=hid hfd
 have HPT:=hid hpt
 have HPO:=hid hpt1
 have HPD:=hid hpd1
 have HFO:=hid ho
 have HFH:=hid hh
 have HGL:Hid (g<w.heap.size):=hid hrec.lt.2
 rw [hfd]
 have e1:((ii:Int)==-1)=false:=by rw [beq_eq_false_iff_ne];omega
 have e2:decide ((ii:Int)<0)=false:=decide_eq_false (by omega)
 have r1:(0:Int)<=(ii:Int):=by omega
 have r2:(ii:Int)<(nf:Int):=by omega
 have r4:(ii:Int).toNat=ii:=rfl
 rw [hfd] at hrb
 clear hn h3 ho hh hask1 hin hrec hp hpf hbare hpl hfd hpt hpdv hii hpt1 hpd1 h8
 have e0:(m.k==1)=false:=beq_eq_false_iff_ne.2 h1
 have e4:(m.k==2)=false:=beq_eq_false_iff_ne.2 h2
 have H1:=hid h1
 have H2:=hid h2
 clear h1 h2
 go_enter Tryz.func49,Tryz.ntmps49
 go_upto_region 1 with fail
 generalize World.alloc (World.alloc (World.alloc w _) _) _=w1 at hrb ⊢
 have HR:=hid hrb
 clear hrb
 obtain ⟨a0,a1,a2,a3,a4,a5,a6,-⟩:=ty_cells HR.out.bt
 obtain ⟨b0,b1,b2,b3,b4,b5,b6,b7,b8,b9⟩:=ten_cells HR.out.bm
 have hask:=asked_any q m.key w1 (HQT.out.keep HR.out.below)
 unfold IntB Lt.val at hask
 rw [HNX.out,HNT.out,HNF.out,HFD.out,HA1.out] at hask
 have HASK:=hid hask
 clear hask
 go_wp2_with fail
 (with_reducible refine HASK.out.mono ?_)
 rintro e w2 ⟨rfl,hb2⟩
 have HR2:=hid (HR.out.keep hb2)
 clear a0 a1 a2 a3 a4 a5 a6 b0 b1 b2 b3 b4 b5 b6 b7 b8 b9 hb2 HR HASK
 obtain ⟨a0,a1,a2,a3,a4,a5,a6,-⟩:=ty_cells HR2.out.bt
 obtain ⟨b0,b1,b2,b3,b4,b5,b6,b7,b8,b9⟩:=ten_cells HR2.out.bm
 have hcell:∀ j u,(cellsF true p)[j]?=some u->w2.cell? ⟨g,ii * 16+j,none⟩=some u:=fun j u hj=>(HR2.out.below.cell (p:=⟨g,ii * 16+j,none⟩) HGL.out).trans (HREC.out.cells HP0.out j u hj)
 have d0:w2.cell? ⟨g,ii * 16,none⟩=some (.string p.n):=hcell 0 _ rfl
 have d1:=hcell 1 (.bool p.o) rfl
 have d2:=hcell 2 (.bool p.h) rfl
 have d3:=hcell 3 (.int .i64 p.t.v.k) rfl
 have d4:=hcell 4 (.int .i64 p.t.v.lo) rfl
 have d5:=hcell 5 (.int .i64 p.t.v.hi) rfl
 have d6:=hcell 6 (.slice p.t.xd p.t.v.x.length p.t.xc) rfl
 have d7:=hcell 7 (.slice p.t.td p.t.v.t.length p.t.tc) rfl
 have d8:=hcell 8 (.slice p.t.fd p.t.v.f.length p.t.fc) rfl
 have d9:=hcell 9 (.string p.t.v.n) rfl
 have d10:=hcell 10 (.int .i64 p.d.v.k) rfl
 have d11:=hcell 11 (.int .i64 p.d.v.n) rfl
 have d12:=hcell 12 (.int .u64 p.d.v.f) rfl
 have d13:=hcell 13 (.string p.d.v.s) rfl
 have d14:=hcell 14 (.slice p.d.ad p.d.v.l.length p.d.cap) rfl
 have d15:=hcell 15 (.slice p.d.bd p.d.v.e.length p.d.dap) rfl
 have hba:=(Below.refl w2.heap.size w2).alloc (Nat.le_refl _) (.cells #[.string p.n,.bool p.o,.bool p.h,.int .i64 p.t.v.k,.int .i64 p.t.v.lo,.int .i64 p.t.v.hi,.slice p.t.xd p.t.v.x.length p.t.xc,.slice p.t.td p.t.v.t.length p.t.tc,.slice p.t.fd p.t.v.f.length p.t.fc,.string p.t.v.n,.int .i64 p.d.v.k,.int .i64 p.d.v.n,.int .u64 p.d.v.f,.string p.d.v.s,.slice p.d.ad p.d.v.l.length p.d.cap,.slice p.d.bd p.d.v.e.length p.d.dap] 65)
 have hcb:=heap_alloc_new w2 (.cells #[.string p.n,.bool p.o,.bool p.h,.int .i64 p.t.v.k,.int .i64 p.t.v.lo,.int .i64 p.t.v.hi,.slice p.t.xd p.t.v.x.length p.t.xc,.slice p.t.td p.t.v.t.length p.t.tc,.slice p.t.fd p.t.v.f.length p.t.fc,.string p.t.v.n,.int .i64 p.d.v.k,.int .i64 p.d.v.n,.int .u64 p.d.v.f,.string p.d.v.s,.slice p.d.ad p.d.v.l.length p.d.cap,.slice p.d.bd p.d.v.e.length p.d.dap] 65)
 have HR3:=hid (HR2.out.keep hba)
 have hxl:=HR2.out.s
 obtain ⟨xb,hxb⟩:∃ xb,w2.heap.size=xb:=⟨_,rfl⟩
 go_upto_region 13 with fail
 clear d0 d1 d2 d3 d4 d5 d6 d7 d8 d9 d10 d11 d12 d13 d14 d15 a0 a1 a2 a3 a4 a5 a6 b0 b1 b2 b3 b4 b5 b6 b7 b8 b9 hcell hba
 generalize World.alloc w2 _=w3 at HR3 hcb ⊢
 rw [hxb] at hcb hxl
 try rw [hxb]
 have HCB:=hid hcb
 clear hxb hcb HR2
 obtain ⟨a0,a1,a2,a3,a4,a5,a6,-⟩:=ty_cells HR3.out.bt
 obtain ⟨b0,b1,b2,b3,b4,b5,b6,b7,b8,b9⟩:=ten_cells HR3.out.bm
 obtain ⟨c0,c1,c2,c3,c4,c5,c6,c7,c8,c9,c10,c11,c12,c13,c14,c15⟩:=field_cells HCB.out
 have hbec:=becomes_any p.t m.k (fun b=>Sd ii b\/w.heap.size+3<=b) w3 (((HPO.out.at_).keep (HR3.out.below)).weak (fun b hb _=>.inl hb)) (fun b hb=>.inr (by have:=HR3.out.s;omega)) H8.out
 unfold BecPost Lt.val at hbec
 have HBEC:=hid hbec
 clear hbec
 go_wp2_with fail
 (with_reducible refine HBEC.out.mono ?_)
 rintro e w5 ⟨y,ok,rfl,hyr,hb5⟩
 have HR5:=hid (HR3.out.keep hb5)
 have hx3:=HR3.out.s
 have h35:=hb5.size
 have hcb:=heap_alloc_new w5 (.cells #[.int .i64 y.v.k,.int .i64 y.v.lo,.int .i64 y.v.hi,.slice y.xd y.v.x.length y.xc,.slice y.td y.v.t.length y.tc,.slice y.fd y.v.f.length y.fc,.string y.v.n] 27)
 have hal:=(Below.refl w5.heap.size w5).alloc (Nat.le_refl _) (.cells #[.int .i64 y.v.k,.int .i64 y.v.lo,.int .i64 y.v.hi,.slice y.xd y.v.x.length y.xc,.slice y.td y.v.t.length y.tc,.slice y.fd y.v.f.length y.fc,.string y.v.n] 27)
 have HR8:=hid (HR5.out.keep hal)
 have HYR:Hid (ok=true->BecR p.t.v m.k y.v/\TyAt (w5.alloc (.cells #[.int .i64 y.v.k,.int .i64 y.v.lo,.int .i64 y.v.hi,.slice y.xd y.v.x.length y.xc,.slice y.td y.v.t.length y.tc,.slice y.fd y.v.f.length y.fc,.string y.v.n] 27)) (fun b=>Sd ii b\/w.heap.size+3<=b) y):=hid (fun h=>⟨(hyr h).1,(hyr h).2.keep hal⟩)
 obtain ⟨yb,hyb⟩:∃ yb,w5.heap.size=yb:=⟨_,rfl⟩
 rw [hyb] at hcb
 have HC8:=hid hcb
 clear hyr hb5 hcb hal a0 a1 a2 a3 a4 a5 a6 b0 b1 b2 b3 b4 b5 b6 b7 b8 b9 c0 c1 c2 c3 c4 c5 c6 c7 c8 c9 c10 c11 c12 c13 c14 c15 HR3 HBEC h35 hx3
 go_upto_region 24 with fail
 generalize World.alloc w5 _=W8 at HR8 HYR HC8 ⊢
 clear hyb HR5
 obtain ⟨a0,a1,a2,a3,a4,a5,a6,-⟩:=ty_cells HR8.out.bt
 cases ok
 ·skip
  obtain ⟨p0,p1,p2,p3,p4,p5,p6,pf⟩:=ty_cells HR8.out.res
  have pf0:=pf 0
  have pf1:=pf 1
  have pf2:=pf 2
  have pf3:=pf 3
  have pf4:=pf 4
  have pf5:=pf 5
  have pf6:=pf 6
  obtain ⟨W9,hW9,hr9,hg9⟩:=seven_all HR8.out.res (.int .i64 q.v.k) (.int .i64 q.v.lo) (.int .i64 q.v.hi) (.slice q.xd nx q.xc) (.slice q.td nt q.tc) (.slice (some ⟨g,0,none⟩) nf q.fc) (.string q.v.n)
  obtain ⟨q0,q1,q2,q3,q4,q5,q6,-⟩:=ty_cells hr9
  have HW9:=hid hW9
  have HPOST:Hid (TypedPost (fun u=>RecR m.mv q.v u) S C w (.returned (.tuple #[.agg #[.int .i64 q.v.k,.int .i64 q.v.lo,.int .i64 q.v.hi,.slice q.xd nx q.xc,.slice q.td nt q.tc,.slice (some ⟨g,0,none⟩) nf q.fc,.string q.v.n],.int .i64 11])) W9):=hid ⟨q,11,by unfold Lt.val;rw [HNX.out,HNT.out,HNF.out,HFD.out],(fun h=>by cases h),HR8.out.weak.fin hg9⟩
  clear hW9 hr9 hg9 pf
  go_wp2_with fail
  rw [<-HW9.out]
  exact bodyPost_ret (v:=.tuple #[.agg #[.int .i64 q.v.k,.int .i64 q.v.lo,.int .i64 q.v.hi,.slice q.xd nx q.xc,.slice q.td nt q.tc,.slice (some ⟨g,0,none⟩) nf q.fc,.string q.v.n],.int .i64 11]) (by simp [results,Tryz.results49,go_sem,q0,q1,q2,q3,q4,q5,q6]) rfl HPOST.out
 ·obtain ⟨g0,g1,g2,g3,g4,g5,g6,-⟩:=ty_cells HC8.out
  obtain ⟨W6,hW6,hown6,hg6⟩:=own_set7 (t:=true) (vb:=0) (HREC.out.own1 (i:=ii) (KpS.of_below HR8.out.below)) ii p HP0.out y (ii * 16+3) rfl
  have hfz:=(HREC.out.own1 (i:=ii) (KpS.of_below HR8.out.below)).frozenAt
  have hzc:=fun (j:Nat) (u:Value) (hj:(cellsF true p)[j]?=some u)=>(HR8.out.below.cell (p:=⟨g,ii * 16+j,none⟩) HGL.out).trans (HREC.out.cells HP0.out j u hj)
  have z0:=hzc 3 (.int .i64 p.t.v.k) rfl
  have zf0:=hfz (ii * 16+3)
  have z1:=hzc 4 (.int .i64 p.t.v.lo) rfl
  have zf1:=hfz (ii * 16+4)
  have z2:=hzc 5 (.int .i64 p.t.v.hi) rfl
  have zf2:=hfz (ii * 16+5)
  have z3:=hzc 6 (.slice p.t.xd p.t.v.x.length p.t.xc) rfl
  have zf3:=hfz (ii * 16+6)
  have z4:=hzc 7 (.slice p.t.td p.t.v.t.length p.t.tc) rfl
  have zf4:=hfz (ii * 16+7)
  have z5:=hzc 8 (.slice p.t.fd p.t.v.f.length p.t.fc) rfl
  have zf5:=hfz (ii * 16+8)
  have z6:=hzc 9 (.string p.t.v.n) rfl
  have zf6:=hfz (ii * 16+9)
  have HR6:Hid (RB w S #[.int .i64 q.v.k,.int .i64 q.v.lo,.int .i64 q.v.hi,.slice q.xd nx q.xc,.slice q.td nt q.tc,.slice (some ⟨g,0,none⟩) nf q.fc,.string q.v.n] #[.int .i64 m.k,.slice m.pd m.p.length m.pc,.string m.key,.string m.dst,.int .i64 m.q.v.k,.int .i64 m.q.v.n,.int .u64 m.q.v.f,.string m.q.v.s,.slice m.q.ad m.q.v.l.length m.q.cap,.slice m.q.bd m.q.v.e.length m.q.dap] #[.int .i64 0,.int .i64 0,.int .i64 0,.slice none 0 0,.slice none 0 0,.slice none 0 0,.string ⟨#[]⟩] W6):=hid (HR8.out.weak.grow hg6 (fun b e=>.inl (by have h:=Option.some.inj e;rw [<-h];exact ⟨HGL.out,HREC.out.hg.1⟩)))
  have HDONE:=hid (HREC.out.done (C:=(fun b=>C b/\b≠w.heap.size/\b≠w.heap.size+2)) (n:=w.heap.size+3) (by omega) HP0.out HBA.out (KpS.of_below HR8.out.below) y hown6 hg6 (fun b hb=>⟨HSC.out b hb.1,by have:=hb.2;omega,by have:=hb.2;omega⟩) (fun b hb=>⟨HC.out b (by omega),by omega,by omega⟩) (HYR.out rfl).2)
  have HW6:=hid hW6
  clear hW6 hown6 hg6 hfz hzc
  go_upto_region 27 with fail
  rw [<-HW6.out]
  clear z0 zf0 g0 z1 zf1 g1 z2 zf2 g2 z3 zf3 g3 z4 zf4 g4 z5 zf5 g5 z6 zf6 g6 a0 a1 a2 a3 a4 a5 a6
  obtain ⟨a0,a1,a2,a3,a4,a5,a6,-⟩:=ty_cells HR6.out.bt
  obtain ⟨p0,p1,p2,p3,p4,p5,p6,pf⟩:=ty_cells HR6.out.res
  have pf0:=pf 0
  have pf1:=pf 1
  have pf2:=pf 2
  have pf3:=pf 3
  have pf4:=pf 4
  have pf5:=pf 5
  have pf6:=pf 6
  obtain ⟨W9,hW9,hr9,hg9⟩:=seven_all HR6.out.res (.int .i64 q.v.k) (.int .i64 q.v.lo) (.int .i64 q.v.hi) (.slice q.xd nx q.xc) (.slice q.td nt q.tc) (.slice (some ⟨g,0,none⟩) nf q.fc) (.string q.v.n)
  obtain ⟨q0,q1,q2,q3,q4,q5,q6,-⟩:=ty_cells hr9
  have HW9:=hid hW9
  have HPOST:Hid (TypedPost (fun u=>RecR m.mv q.v u) S C w (.returned (.tuple #[.agg #[.int .i64 q.v.k,.int .i64 q.v.lo,.int .i64 q.v.hi,.slice q.xd nx q.xc,.slice q.td nt q.tc,.slice (some ⟨g,0,none⟩) nf q.fc,.string q.v.n],.int .i64 0])) W9):=hid (by
   refine ⟨q.withF (q.v.f.set ii { p.fd with t:=y.v }) q.fd q.fc,0,?_,fun h0=>⟨⟨rfl,.inr ⟨H3.out,f,HN.out,HFO.out,HFH.out,.inr (.inr ⟨H1.out,H2.out,y.v,by rw [HPT.out];exact (HYR.out rfl).1,?_⟩)⟩⟩,?_⟩,HR6.out.fin hg9⟩
   ·rw [withF_val,List.length_set,HNX.out,HNT.out,HNF.out,HFD.out]
   ·show q.v.f.set ii { p.fd with t:=y.v }=modF q.v.f m.key (fun _=>y.v)
    rw [modF_eq _ _ _ f HN.out,HII.out,HPF.out]
   ·exact (HDONE.out.grow hg9 (fun b e hb=>hb.2.2 (Option.some.inj e).symm)).weak (fun b hb _=>hb.1))
  clear hW9 hr9 hg9 pf
  go_wp2_with fail
  rw [<-HW9.out]
  exact bodyPost_ret (v:=.tuple #[.agg #[.int .i64 q.v.k,.int .i64 q.v.lo,.int .i64 q.v.hi,.slice q.xd nx q.xc,.slice q.td nt q.tc,.slice (some ⟨g,0,none⟩) nf q.fc,.string q.v.n],.int .i64 0]) (by simp [results,Tryz.results49,go_sem,q0,q1,q2,q3,q4,q5,q6]) rfl HPOST.out
end Go.Proofs.YtgnonbdkmmkdgaaGreatDoor
