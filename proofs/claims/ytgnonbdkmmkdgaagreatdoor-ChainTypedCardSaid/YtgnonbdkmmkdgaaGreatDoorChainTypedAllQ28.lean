/-
  Lemmas for the statement: plain laws, and what functions answer; the conditions stand in each.
-/
import Derived.Test.YtgnonbdkmmkdgaaGreatDoorChainTypedAllQ25
set_option linter.unusedVariables false
set_option linter.unusedSimpArgs false
set_option maxHeartbeats 16000000
set_option maxRecDepth 100000
open Go.Lib (hid)
namespace Go.Proofs.YtgnonbdkmmkdgaaGreatDoor
open Go.RowKit Gx
theorem rec_drop (d:Nat) (q:Lt) (m:Lm) (w:World) (S C:Nat->Prop) (hq:OwnT w S q) (hs:Seen d q.v) (hk:q.v.k=10) (hm:MvAt w (fun _=>True) m) (hT:Tabs w) (hSC:∀ b,S b->C b) (hC:∀ b,w.heap.size<=b->C b) (f:Fd Ty) (h3:m.k≠3) (hn:fdOf q.v.f m.key=some f) (ho:f.o=false) (hh:f.h=false) (h2:m.k=2) :
 Calls Tryz.prog 49 #[q.val,m.val] w (TypedPost (fun u=>RecR m.mv q.v u) S C w):=by
 obtain ⟨h10x,h10t,h200⟩:=hs.ten hk
 have hrb:=RB.start w (fun _=>False) #[.int .i64 q.v.k,.int .i64 q.v.lo,.int .i64 q.v.hi,.slice q.xd q.v.x.length q.xc,.slice q.td q.v.t.length q.tc,.slice q.fd q.v.f.length q.fc,.string q.v.n] #[.int .i64 m.k,.slice m.pd m.p.length m.pc,.string m.key,.string m.dst,.int .i64 m.q.v.k,.int .i64 m.q.v.n,.int .u64 m.q.v.f,.string m.q.v.s,.slice m.q.ad m.q.v.l.length m.q.cap,.slice m.q.bd m.q.v.e.length m.q.dap]
 have hqt:TyAt w (fun _=>True) q:=hq.at_.weak (fun _ _ _=>trivial)
 unfold Lt.val Lm.val
 obtain ⟨nx,hnx⟩:∃ m,q.v.x.length=m:=⟨_,rfl⟩
 obtain ⟨nt,hnt⟩:∃ m,q.v.t.length=m:=⟨_,rfl⟩
 obtain ⟨nf,hnf⟩:∃ m,q.v.f.length=m:=⟨_,rfl⟩
 rw [hnx,hnt,hnf] at hrb ⊢
 have HNX:=hid hnx
 have HNT:=hid hnt
 have HNF:=hid hnf
 have HQ:=hid hq
 have HQT:=hid hqt
 have HM:=hid hm
 have HT:=hid hT
 have HS:=hid hs
 have HSC:=hid hSC
 have HC:=hid hC
 have HX0:=hid h10x
 have HT0:=hid h10t
 have H200:nf<=200:=by rw [<-hnf];exact h200
 clear hnx hnt hnf hq hqt hm hT hs hSC hC hk h10x h10t h200
 have hask1:=askedF_some hn
 rw [ho,hh] at hask1
 have hin:=(fpos_some hn).1
 obtain ⟨g,ps,Sd,hrec⟩:=(HQ.out.weak (C:=fun b=>S b/\b<w.heap.size) (fun b h hl=>⟨h,hl⟩)).recAt (by have:=(fpos_some hn).1;omega)
 obtain ⟨p,hp,hpf⟩:=hrec.get hn
 have hbare:=HS.out.bare f (List.mem_of_getElem? (fpos_some hn).2) hh
 have hpl:ps.length=nf:=by rw [hrec.len];exact HNF.out
 have hfd:=hrec.fd
 have hpt:f.t=p.t.v:=by rw [<-hpf];rfl
 have hpdv:f.d=p.d.v:=by rw [<-hpf];rfl
 rw [hpdv] at hbare
 obtain ⟨ii,hii⟩:∃ ii,fpos m.key q.v.f=ii:=⟨_,rfl⟩
 rw [hii] at hp hask1
 have r3:ii<nf:=by rw [<-hii,<-HNF.out];exact hin
 have hpt1:=hrec.ho ii p hp
 have h8:p.t.v.k=8->p.t.v.t.length=1:=fun h8=>by rw [<-hpt] at h8 ⊢;exact (HS.out.tok.f f (List.mem_of_getElem? (fpos_some hn).2)).one (.inl h8)
 have H8:=hid h8
 have hpd1:=hrec.hv ii p hp
 have HN:=hid hn
 have e3:(m.k==3)=false:=beq_eq_false_iff_ne.2 h3
 have H3:=hid h3
 have HA1:Hid (askedF q.v m.key=(ii:Int)):=hid hask1
 have HREC:=hid hrec
 have HP0:=hid hp
 have HPF:=hid hpf
 have HII:=hid hii
 have HPL:=hid hpl
 have HBA:=hid hbare
 have HFD:=hid hfd
 have HPT:=hid hpt
 have HPO:=hid hpt1
 have HPD:=hid hpd1
 have HFO:=hid ho
 have HFH:=hid hh
 have HGL:Hid (g<w.heap.size):=hid hrec.lt.2
 rw [hfd]
 have e1:((ii:Int)==-1)=false:=by rw [beq_eq_false_iff_ne];omega
 have e2:decide ((ii:Int)<0)=false:=decide_eq_false (by omega)
 have r1:(0:Int)<=(ii:Int):=by omega
 have r2:(ii:Int)<(nf:Int):=by omega
 have r4:(ii:Int).toNat=ii:=rfl
 rw [hfd] at hrb
 clear hn h3 ho hh hask1 hin hrec hp hpf hbare hpl hfd hpt hpdv hii hpt1 hpd1 h8
 have e0:(m.k==1)=false:=beq_eq_false_iff_ne.2 (by omega)
 have e4:(m.k==2)=true:=beq_iff_eq.2 h2
 have H2:=hid h2
 clear h2
 go_enter Tryz.func49,Tryz.ntmps49
 go_upto_region 1 with fail
 generalize World.alloc (World.alloc (World.alloc w _) _) _=w1 at hrb ⊢
 have HR:=hid hrb
 clear hrb
 obtain ⟨a0,a1,a2,a3,a4,a5,a6,-⟩:=ty_cells HR.out.bt
 obtain ⟨b0,b1,b2,b3,b4,b5,b6,b7,b8,b9⟩:=ten_cells HR.out.bm
 have hask:=asked_any q m.key w1 (HQT.out.keep HR.out.below)
 unfold IntB Lt.val at hask
 rw [HNX.out,HNT.out,HNF.out,HFD.out,HA1.out] at hask
 have HASK:=hid hask
 clear hask
 go_wp2_with fail
 (with_reducible refine HASK.out.mono ?_)
 rintro e w2 ⟨rfl,hb2⟩
 have HR2:=hid (HR.out.keep hb2)
 clear a0 a1 a2 a3 a4 a5 a6 b0 b1 b2 b3 b4 b5 b6 b7 b8 b9 hb2 HR HASK
 obtain ⟨a0,a1,a2,a3,a4,a5,a6,-⟩:=ty_cells HR2.out.bt
 obtain ⟨b0,b1,b2,b3,b4,b5,b6,b7,b8,b9⟩:=ten_cells HR2.out.bm
 have hcell:∀ j u,(cellsF true p)[j]?=some u->w2.cell? ⟨g,ii * 16+j,none⟩=some u:=fun j u hj=>(HR2.out.below.cell (p:=⟨g,ii * 16+j,none⟩) HGL.out).trans (HREC.out.cells HP0.out j u hj)
 have d0:w2.cell? ⟨g,ii * 16,none⟩=some (.string p.n):=hcell 0 _ rfl
 have d1:=hcell 1 (.bool p.o) rfl
 have d2:=hcell 2 (.bool p.h) rfl
 have d3:=hcell 3 (.int .i64 p.t.v.k) rfl
 have d4:=hcell 4 (.int .i64 p.t.v.lo) rfl
 have d5:=hcell 5 (.int .i64 p.t.v.hi) rfl
 have d6:=hcell 6 (.slice p.t.xd p.t.v.x.length p.t.xc) rfl
 have d7:=hcell 7 (.slice p.t.td p.t.v.t.length p.t.tc) rfl
 have d8:=hcell 8 (.slice p.t.fd p.t.v.f.length p.t.fc) rfl
 have d9:=hcell 9 (.string p.t.v.n) rfl
 have d10:=hcell 10 (.int .i64 p.d.v.k) rfl
 have d11:=hcell 11 (.int .i64 p.d.v.n) rfl
 have d12:=hcell 12 (.int .u64 p.d.v.f) rfl
 have d13:=hcell 13 (.string p.d.v.s) rfl
 have d14:=hcell 14 (.slice p.d.ad p.d.v.l.length p.d.cap) rfl
 have d15:=hcell 15 (.slice p.d.bd p.d.v.e.length p.d.dap) rfl
 have hba:=(Below.refl w2.heap.size w2).alloc (Nat.le_refl _) (.cells #[.string p.n,.bool p.o,.bool p.h,.int .i64 p.t.v.k,.int .i64 p.t.v.lo,.int .i64 p.t.v.hi,.slice p.t.xd p.t.v.x.length p.t.xc,.slice p.t.td p.t.v.t.length p.t.tc,.slice p.t.fd p.t.v.f.length p.t.fc,.string p.t.v.n,.int .i64 p.d.v.k,.int .i64 p.d.v.n,.int .u64 p.d.v.f,.string p.d.v.s,.slice p.d.ad p.d.v.l.length p.d.cap,.slice p.d.bd p.d.v.e.length p.d.dap] 65)
 have hcb:=heap_alloc_new w2 (.cells #[.string p.n,.bool p.o,.bool p.h,.int .i64 p.t.v.k,.int .i64 p.t.v.lo,.int .i64 p.t.v.hi,.slice p.t.xd p.t.v.x.length p.t.xc,.slice p.t.td p.t.v.t.length p.t.tc,.slice p.t.fd p.t.v.f.length p.t.fc,.string p.t.v.n,.int .i64 p.d.v.k,.int .i64 p.d.v.n,.int .u64 p.d.v.f,.string p.d.v.s,.slice p.d.ad p.d.v.l.length p.d.cap,.slice p.d.bd p.d.v.e.length p.d.dap] 65)
 have HR3:=hid (HR2.out.keep hba)
 have hxl:=HR2.out.s
 obtain ⟨xb,hxb⟩:∃ xb,w2.heap.size=xb:=⟨_,rfl⟩
 go_upto_region 13 with fail
 clear d0 d1 d2 d3 d4 d5 d6 d7 d8 d9 d10 d11 d12 d13 d14 d15 a0 a1 a2 a3 a4 a5 a6 b0 b1 b2 b3 b4 b5 b6 b7 b8 b9 hcell hba
 generalize World.alloc w2 _=w3 at HR3 hcb ⊢
 rw [hxb] at hcb hxl
 try rw [hxb]
 have HCB:=hid hcb
 clear hxb hcb HR2
 obtain ⟨a0,a1,a2,a3,a4,a5,a6,-⟩:=ty_cells HR3.out.bt
 obtain ⟨b0,b1,b2,b3,b4,b5,b6,b7,b8,b9⟩:=ten_cells HR3.out.bm
 obtain ⟨c0,c1,c2,c3,c4,c5,c6,c7,c8,c9,c10,c11,c12,c13,c14,c15⟩:=field_cells HCB.out
 have hdel:=deleteF_any (base:=1) (g:=g) (n:=ps.length) (cap:=q.fc) (i:=ii) w3 (own_same HREC.out.own (fun b e=>HR3.out.below.block b (by have h9:g=b:=Option.some.inj e;have:=HGL.out;have:=HR3.out.s;omega))) (by rw [HPL.out];exact r3) (by rw [HPL.out];omega) (flat_ones ps)
 unfold DelPost at hdel
 rw [HPL.out] at hdel
 have HDEL:=hid hdel
 clear hdel
 go_wp2_with fail
 (with_reducible refine HDEL.out.mono ?_)
 rintro e w5 ⟨rfl,hown,hg5⟩
 have HR5:Hid (RB w S #[.int .i64 q.v.k,.int .i64 q.v.lo,.int .i64 q.v.hi,.slice q.xd nx q.xc,.slice q.td nt q.tc,.slice (some ⟨g,0,none⟩) nf q.fc,.string q.v.n] #[.int .i64 m.k,.slice m.pd m.p.length m.pc,.string m.key,.string m.dst,.int .i64 m.q.v.k,.int .i64 m.q.v.n,.int .u64 m.q.v.f,.string m.q.v.s,.slice m.q.ad m.q.v.l.length m.q.cap,.slice m.q.bd m.q.v.e.length m.q.dap] #[.int .i64 0,.int .i64 0,.int .i64 0,.slice none 0 0,.slice none 0 0,.slice none 0 0,.string ⟨#[]⟩] w5):=hid (HR3.out.weak.grow hg5 (fun b e=>.inl (by have h:=Option.some.inj e;rw [<-h];exact ⟨HGL.out,HREC.out.hg.1⟩)))
 have hdl:=HREC.out.del (W:=w5) (C:=(fun b=>C b/\b≠w.heap.size/\b≠w.heap.size+2)) (s:=m.key) (by rw [HII.out,HPL.out];exact r3) (fun b hb=>⟨HSC.out b hb.1,by have:=hb.2;omega,by have:=hb.2;omega⟩) (by rw [HII.out,HPL.out];exact hown) (grown_from HR3.out.below hg5)
 rw [HPL.out] at hdl
 have HDR:=hid hdl.1
 have HDLN:=hid hdl.2
 obtain ⟨n5,hn5⟩:∃ n5,nf - 1=n5:=⟨_,rfl⟩
 rw [hn5] at HDR HDLN ⊢
 have gx:=grown_cell w5 w.heap.size 5 (.slice (some ⟨g,0,none⟩) n5 q.fc)
 have HR7:=hid (HR5.out.setT (X':=#[.int .i64 q.v.k,.int .i64 q.v.lo,.int .i64 q.v.hi,.slice q.xd nx q.xc,.slice q.td nt q.tc,.slice (some ⟨g,0,none⟩) n5 q.fc,.string q.v.n]) gx (cell_store HR5.out.bt 5 (.slice (some ⟨g,0,none⟩) n5 q.fc)))
 have HROW:=hid (HDR.out.grow gx (fun b e hb=>hb.2.1 (Option.some.inj e).symm))
 obtain ⟨a0,a1,a2,a3,a4,a5,a6,af⟩:=ty_cells HR5.out.bt
 have af5:=af 5
 clear hown hg5 hdl gx af c0 c1 c2 c3 c4 c5 c6 c7 c8 c9 c10 c11 c12 c13 c14 c15 b0 b1 b2 b3 b4 b5 b6 b7 b8 b9 HR3 HCB HDEL HDR
 go_upto_region 22 with fail
 generalize World.setCell w5 _ _=w7 at HR7 HROW ⊢
 clear a0 a1 a2 a3 a4 a5 a6 af5 HR5
 obtain ⟨a0,a1,a2,a3,a4,a5,a6,-⟩:=ty_cells HR7.out.bt
 obtain ⟨p0,p1,p2,p3,p4,p5,p6,pf⟩:=ty_cells HR7.out.res
 have pf0:=pf 0
 have pf1:=pf 1
 have pf2:=pf 2
 have pf3:=pf 3
 have pf4:=pf 4
 have pf5:=pf 5
 have pf6:=pf 6
 obtain ⟨W9,hW9,hr9,hg9⟩:=seven_all HR7.out.res (.int .i64 q.v.k) (.int .i64 q.v.lo) (.int .i64 q.v.hi) (.slice q.xd nx q.xc) (.slice q.td nt q.tc) (.slice (some ⟨g,0,none⟩) n5 q.fc) (.string q.v.n)
 obtain ⟨q0,q1,q2,q3,q4,q5,q6,-⟩:=ty_cells hr9
 have HW9:=hid hW9
 have HPOST:Hid (TypedPost (fun u=>RecR m.mv q.v u) S C w (.returned (.tuple #[.agg #[.int .i64 q.v.k,.int .i64 q.v.lo,.int .i64 q.v.hi,.slice q.xd nx q.xc,.slice q.td nt q.tc,.slice (some ⟨g,0,none⟩) n5 q.fc,.string q.v.n],.int .i64 0])) W9):=hid (by
  refine ⟨q.withF (delF q.v.f m.key) (some ⟨g,0,none⟩) q.fc,0,?_,fun h0=>⟨⟨rfl,.inr ⟨H3.out,f,HN.out,HFO.out,HFH.out,.inr (.inl ⟨H2.out,rfl⟩)⟩⟩,?_⟩,HR7.out.fin hg9⟩
  ·rw [withF_val,HNX.out,HNT.out,HDLN.out]
  ·refine TyAt.fields HQ.out.at_.wf HX0.out HT0.out ?_
   rw [HDLN.out]
   exact (HROW.out.grow hg9 (fun b e hb=>hb.2.2 (Option.some.inj e).symm)).weak (fun b hb _=>hb.1))
 clear hW9 hr9 hg9 pf
 go_wp2_with fail
 rw [<-HW9.out]
 exact bodyPost_ret (v:=.tuple #[.agg #[.int .i64 q.v.k,.int .i64 q.v.lo,.int .i64 q.v.hi,.slice q.xd nx q.xc,.slice q.td nt q.tc,.slice (some ⟨g,0,none⟩) n5 q.fc,.string q.v.n],.int .i64 0]) (by simp [results,Tryz.results49,go_sem,q0,q1,q2,q3,q4,q5,q6]) rfl HPOST.out
end Go.Proofs.YtgnonbdkmmkdgaaGreatDoor
