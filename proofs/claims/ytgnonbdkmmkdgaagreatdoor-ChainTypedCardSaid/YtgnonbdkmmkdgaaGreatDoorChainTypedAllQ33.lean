/-
  Lemmas for the statement: plain laws, and what functions answer; the conditions stand in each.
-/
import Derived.Test.YtgnonbdkmmkdgaaGreatDoorChainTypedAllQ03
set_option linter.unusedVariables false
set_option linter.unusedSimpArgs false
set_option maxHeartbeats 16000000
set_option maxRecDepth 100000
open Go.Lib (hid)
namespace Go.Proofs.YtgnonbdkmmkdgaaGreatDoor
open Go.RowKit Gx
theorem ownT_rec (a:Ty) (xd td fd:Option Addr) (xc tc fc:Nat) (w:World) (hq:TyAt w (fun _=>True) ⟨a,xd,xc,td,tc,fd,fc⟩) (hty:Tidy a) (ht0:a.t=[])
 (ih:∀ (q:Lt) (w:World),SizeOf.sizeOf q.v<SizeOf.sizeOf a->Tidy q.v->TyAt w (fun _=>True) q->Calls Tryz.prog 11 #[q.val] w (OwnTPost q.v w)) :
 Calls Tryz.prog 11 #[.agg #[.int .i64 a.k,.int .i64 a.lo,.int .i64 a.hi,.slice xd a.x.length xc,.slice td a.t.length tc,.slice fd a.f.length fc,.string a.n]] w (OwnTPost a w):=by
 have hos:=OTS.start w ⟨a,xd,xc,td,tc,fd,fc⟩
 have HQ:=hid hq
 have IH:=hid ih
 have HTY:=hid hty
 have ht1:=hq.t.wide
 have hf1:a.f.length<=200:=by cases hty;assumption
 rw [tf_len] at ht1
 simp only at ht1 hf1 hos
 obtain ⟨nx,hnx⟩:∃ nx,a.x.length=nx:=⟨_,rfl⟩
 obtain ⟨nt,hnt⟩:∃ nt,a.t.length=nt:=⟨_,rfl⟩
 obtain ⟨nf,hnf⟩:∃ nf,a.f.length=nf:=⟨_,rfl⟩
 rw [hnx,hnt,hnf] at hos ⊢
 rw [hnt] at ht1
 rw [hnf] at hf1
 have HNX:=hid hnx
 have HNT:=hid hnt
 have HNF:=hid hnf
 have HT0:=hid ht0
 obtain rfl:nt=0:=by rw [<-hnt,ht0];rfl
 clear hq ih hty hnx hnt hnf ht0
 go_enter Tryz.func11,Tryz.ntmps11
 go_upto_region 1 with fail
 generalize hw2:World.alloc (World.alloc w _) _=w2 at hos ⊢
 obtain ⟨a0,a1,a2,a3,a4,a5,a6,af⟩:=ty_cells hos.box
 have hcl:=cloneS_any xd xc a.x w2 (HQ.out.x.keep (hos.g))
 unfold CloneS at hcl
 rw [HNX.out] at hcl
 have HCL:=hid hcl
 have HOS:=hid hos
 clear hw2 hos hcl
 go_wp2_with fail
 (with_reducible refine HCL.out.mono ?_)
 rintro e w3 ⟨xo,xq,rfl,hxr,hb3⟩
 have hos3:=HOS.out.keep hb3
 have hvl2:=HOS.out.vlt
 have HXR:=hid hxr
 obtain ⟨c0,c1,c2,c3,c4,c5,c6,cf⟩:=ty_cells hos3.box
 have cf3:=cf 3
 have hos4:=hos3.setX (.slice xo nx xq)
 have hxr4:SRow (w3.setCell ⟨w.heap.size,3,none⟩ (.slice xo nx xq)) (fun b=>w.heap.size+1<b) a.x (.slice xo nx xq):=(hxr.weak (fun b hb _=>by omega)).grow (grown_cell w3 w.heap.size 3 (.slice xo nx xq)) (fun b e=>by have:=Option.some.inj e;omega)
 have HXR4:=hid hxr4
 clear a0 a1 a2 a3 a4 a5 a6 af hb3 hxr hxr4 hos3 HCL HXR cf HOS hvl2
 go_upto_region 2 with fail
 generalize World.setCell w3 _ _=w4 at hos4 HXR4 ⊢
 clear c0 c1 c2 c3 c4 c5 c6 cf3
 obtain ⟨a0,a1,a2,a3,a4,a5,a6,af⟩:=ty_cells hos4.box
 have HOS:=hid hos4
 clear hos4
 go_quiet (fail)
 have hos2:=(HOS.out.keep (Gx.drewN_below w4 nq _))
 have hxr2:=HXR4.out.keep (Gx.drewN_below w4 nq _)
 generalize hw5:w4.drewN nq=w5 at hos2 hxr2 ⊢
 have hos3:=hos2.setT (.slice none 0 0)
 have hos4:=hos3.setF (.slice none 0 0)
 have af4:=(ty_cells hos2.box).2.2.2.2.2.2.2 4
 have af5:=(ty_cells hos3.box).2.2.2.2.2.2.2 5
 have hx5:SRow ((w5.setCell ⟨w.heap.size,4,none⟩ (.slice none 0 0)).setCell ⟨w.heap.size,5,none⟩ (.slice none 0 0)) (fun b=>w.heap.size+1<b) a.x (.slice xo nx xq) :=
  (hxr2.grow (grown_cell _ _ 4 _) (fun b e=>by have:=Option.some.inj e;omega)).grow (grown_cell _ _ 5 _) (fun b e=>by have:=Option.some.inj e;omega)
 clear hw5 HOS a0 a1 a2 a3 a4 a5 a6 af HXR4 hxr2
 obtain ⟨a0,a1,a2,a3,a4,a5,a6,af⟩:=ty_cells hos2.box
 obtain ⟨b0,b1,b2,b3,b4,b5,b6,bf⟩:=ty_cells hos3.box
 have hml4:=hos4.vlt
 have HOS:=hid hos4
 have HX5:=hid hx5
 clear hos2 hos3 hos4 af bf hx5
 obtain ⟨M,hM⟩:∃ M,((w5.setCell ⟨w.heap.size,4,none⟩ (.slice none 0 0)).setCell ⟨w.heap.size,5,none⟩ (.slice none 0 0)).heap.size=M+1:=⟨((w5.setCell ⟨w.heap.size,4,none⟩ (.slice none 0 0)).setCell ⟨w.heap.size,5,none⟩ (.slice none 0 0)).heap.size - 1,by omega⟩
 have HXM:=hid (HX5.out.weak (C:=fun b=>w.heap.size+1<b/\b<M+1) (fun b hb hl=>⟨hb,by omega⟩))
 have HM0:=hid (Nat.le_of_eq hM.symm)
 have hM1:w.heap.size+1<=M:=by omega
 clear HX5 hM hml4
 go_wp2_with fail
 clear a0 a1 a2 a3 a4 a5 a6 b0 b1 b2 b3 b4 b5 b6 af4 af5
 obtain ⟨wo,hwo⟩:∃ X,X=(w5.setCell ⟨w.heap.size,4,none⟩ (.slice none 0 0)).setCell ⟨w.heap.size,5,none⟩ (.slice none 0 0):=⟨_,rfl⟩
 rw [<-hwo] at HOS HXM HM0 ⊢
 clear hwo
 go_loopw [21] (fun v21 wr=>v21=.int .i64 0/\wo=wr) (fun _ _=>0)
 case atStart=>exact ⟨rfl,rfl⟩
 case round =>
 obtain ⟨rfl,rfl⟩:=hrel
 obtain ⟨L,hLM⟩:∃ L,L=M:=⟨_,rfl⟩
 rw [<-hLM] at HXM HM0 hM1
 clear hLM
 have hL1:=hM1
 go_wp2_with fail
 have hlf:LoopF w a nx 0 xo none xq 0 L 0 none 0 [] wo:=⟨rfl,HOS.out,AccT.nil _ _ _ _ _,SoleT.nil _ _ _,rfl,HXM.out,by rw [HT0.out];exact .nil _ _ _,HM0.out⟩
 have HLF:=hid hlf
 clear hlf HOS HXM HM0
 go_loopw [35] (fun v35 wr=>∃ (j:Nat) (ps:List Ft) (bo:Option Addr) (cq:Nat),j<=nf/\v35=.int .i64 j/\Hid (LoopF w a nx 0 xo none xq 0 L j bo cq ps wr)) (fun v35 _=>nf - (intOf v35).toNat)
 case atStart=>exact ⟨0,[],none,0,Nat.zero_le _,rfl,HLF⟩
 case round =>
  obtain ⟨j,ps,bo,cq,hj,rfl,HF⟩:=hrel
  clear HLF
  by_cases hlt:j<nf
  ·obtain ⟨x,hx⟩:∃ x,a.f[j]?=some x:=⟨_,List.getElem?_eq_getElem (by rw [HNF.out];exact hlt)⟩
   obtain ⟨b1,o1,hd1,-,hbl1,hcs1⟩:=HQ.out.f.fieldF (by show 0<a.f.length;rw [HNF.out];omega)
   simp only at hd1
   subst hd1
   obtain ⟨p1,hp1,hpt1,hpd1,hpk1,hpc1⟩:=hcs1 j x hx
   clear hcs1
   have hg:=HF.out.ro.g
   obtain ⟨d0,d1,d2,d3,d4,d5,d6,d7,d8,d9,d10,d11,d12,d13,d14,d15⟩:=hpc1.through (hg.block _ hbl1)
   have r1:(0:Int)<=(j:Int):=by omega
   have r2:(j:Int)<(nf:Int):=by omega
   have r4:(j:Int).toNat=j:=rfl
   have HX:Hid (a.f[j]?=some p1.fd):=hid (by rw [hx,hp1])
   have HSZ:Hid (SizeOf.sizeOf p1.t.v<SizeOf.sizeOf a):=hid (by
    have:=Ty.lt_f (List.mem_of_getElem? hx)
    rw [<-hp1] at this;exact this)
   have HT1:Hid (Tidy p1.t.v):=hid (by
    cases HTY.out with
    | mk _ _ _ _ h =>
      have:=h x (List.mem_of_getElem? hx)
      rw [<-hp1] at this;exact this)
   have HPK:=hid hpk1
   have hba:=(Below.refl wr.heap.size wr).alloc (Nat.le_refl _) (.cells #[.string p1.n,.bool p1.o,.bool p1.h,.int .i64 p1.t.v.k,.int .i64 p1.t.v.lo,.int .i64 p1.t.v.hi,.slice p1.t.xd p1.t.v.x.length p1.t.xc,.slice p1.t.td p1.t.v.t.length p1.t.tc,.slice p1.t.fd p1.t.v.f.length p1.t.fc,.string p1.t.v.n,.int .i64 p1.d.v.k,.int .i64 p1.d.v.n,.int .u64 p1.d.v.f,.string p1.d.v.s,.slice p1.d.ad p1.d.v.l.length p1.d.cap,.slice p1.d.bd p1.d.v.e.length p1.d.dap] 65)
   have hvt:=(hpt1.keep hg).keep hba
   have hvd:=(hpd1.keep hg).keep hba
   have hcb:=heap_alloc_new wr (.cells #[.string p1.n,.bool p1.o,.bool p1.h,.int .i64 p1.t.v.k,.int .i64 p1.t.v.lo,.int .i64 p1.t.v.hi,.slice p1.t.xd p1.t.v.x.length p1.t.xc,.slice p1.t.td p1.t.v.t.length p1.t.tc,.slice p1.t.fd p1.t.v.f.length p1.t.fc,.string p1.t.v.n,.int .i64 p1.d.v.k,.int .i64 p1.d.v.n,.int .u64 p1.d.v.f,.string p1.d.v.s,.slice p1.d.ad p1.d.v.l.length p1.d.cap,.slice p1.d.bd p1.d.v.e.length p1.d.dap] 65)
   have hxl:wr.heap.size<(wr.alloc (.cells #[.string p1.n,.bool p1.o,.bool p1.h,.int .i64 p1.t.v.k,.int .i64 p1.t.v.lo,.int .i64 p1.t.v.hi,.slice p1.t.xd p1.t.v.x.length p1.t.xc,.slice p1.t.td p1.t.v.t.length p1.t.tc,.slice p1.t.fd p1.t.v.f.length p1.t.fc,.string p1.t.v.n,.int .i64 p1.d.v.k,.int .i64 p1.d.v.n,.int .u64 p1.d.v.f,.string p1.d.v.s,.slice p1.d.ad p1.d.v.l.length p1.d.cap,.slice p1.d.bd p1.d.v.e.length p1.d.dap] 65)).heap.size:=by simp
   clear hx hp1 hpt1 hpd1 hpk1 hpc1 hg
   go_upto_region 12 with fail
   generalize hwx:World.alloc wr _=wx at hba hvt hvd hcb hxl ⊢
   obtain ⟨xb,hxb⟩:∃ xb,wr.heap.size=xb:=⟨_,rfl⟩
   have HXB:=hid hxb
   rw [hxb] at hcb hxl hba ⊢
   have HBx:Hid (Below xb wr wx.drew):=hid (hba.trans (Gx.drewN_below wx 1 _))
   have HBd:Hid (wx.drew.heap[xb]?=some (.cells #[.string p1.n,.bool p1.o,.bool p1.h,.int .i64 p1.t.v.k,.int .i64 p1.t.v.lo,.int .i64 p1.t.v.hi,.slice p1.t.xd p1.t.v.x.length p1.t.xc,.slice p1.t.td p1.t.v.t.length p1.t.tc,.slice p1.t.fd p1.t.v.f.length p1.t.fc,.string p1.t.v.n,.int .i64 p1.d.v.k,.int .i64 p1.d.v.n,.int .u64 p1.d.v.f,.string p1.d.v.s,.slice p1.d.ad p1.d.v.l.length p1.d.cap,.slice p1.d.bd p1.d.v.e.length p1.d.dap] 65)):=hid hcb
   have HXLT:Hid (xb<wx.drew.heap.size):=hid hxl
   have hih:=IH.out p1.t wx.drew HSZ.out HT1.out (hvt.keep (Gx.drewN_below wx 1 _))
   simp only [Lt.val] at hih
   have HCd:=hid hih
   have HVd:=hid (hvd.keep (Gx.drewN_below wx 1 _))
   obtain ⟨e0,e1,e2,e3,e4,e5,e6,e7,e8,e9,e10,e11,e12,e13,e14,e15⟩:=FcAt.box hcb
   clear hwx hxb d0 d1 d2 d3 d4 d5 d6 d7 d8 d9 d10 d11 d12 d13 d14 d15 hvt hvd hih hcb hxl hba
   go_region_law (first
    | (go_simp;(with_reducible refine HCd.out.mono ?_);rintro e w5 ⟨p,rfl,hpv,hp,hb5⟩;have hbx5:=(hb5.block _ HXLT.out).trans HBd.out;obtain ⟨-,-,-,-,-,-,-,-,-,-,f10,f11,f12,f13,f14,f15⟩:=FcAt.box hbx5;have HB5:=hid hb5;have HP5:=hid hp;have HPV:=hid hpv;have hvo:=own_any' p1.d w5 ((HVd.out.keep hb5).weak (fun _ _ _=>trivial));simp only [Loc.val] at hvo;have HV5:=hid hvo;clear hp hb5 hpv hvo hbx5;simp only [Lt.val])
    | (go_simp;(with_reducible refine HV5.out.mono ?_);rintro e w6 ⟨d,rfl,hdv,hd,hb6⟩;have hbx6:=(hb6.block _ (Nat.lt_of_lt_of_le HXLT.out HB5.out.size)).trans ((HB5.out.block _ HXLT.out).trans HBd.out);obtain ⟨W9,hW9,hr9,hg9⟩:=field_all hbx6 (.int .i64 p.v.k) (.int .i64 p.v.lo) (.int .i64 p.v.hi) (.slice p.xd p.v.x.length p.xc) (.slice p.td p.v.t.length p.tc) (.slice p.fd p.v.f.length p.fc) (.string p.v.n) (.int .i64 d.v.k) (.int .i64 d.v.n) (.int .u64 d.v.f) (.string d.v.s) (.slice d.ad d.v.l.length d.cap) (.slice d.bd d.v.e.length d.dap);have HW9:=hid hW9;have HR9:=hid hr9;have HG9:=hid hg9;have HB6:=hid hb6;have HD6:=hid hd;have HDV:=hid hdv;obtain ⟨-,-,-,g3,g4,g5,g6,g7,g8,g9,g10,g11,g12,g13,g14,g15⟩:=FcAt.box hbx6;have pf:∀ j,w6.frozen? ⟨xb,j,none⟩=false:=(fun j=>by simp [World.frozen?,hbx6]);have pf3:=pf 3;have pf4:=pf 4;have pf5:=pf 5;have pf6:=pf 6;have pf7:=pf 7;have pf8:=pf 8;have pf9:=pf 9;have pf10:=pf 10;have pf11:=pf 11;have pf12:=pf 12;have pf13:=pf 13;have pf14:=pf 14;have pf15:=pf 15;clear pf f10 f11 f12 f13 f14 f15 hbx6 hW9 hr9 hg9 hb6 hd hdv;simp only [Loc.val]))
   all_goals
    rw [<-HW9.out]
    obtain ⟨q,hfm⟩:=fmade HBx.out HXLT.out HB5.out HP5.out HPV.out HB6.out HD6.out HDV.out HR9.out HG9.out
    have HQC:=hid (FcAt.box hfm.c)
    rw [<-HXB.out] at hfm
    obtain ⟨ao7,c7,w7,hrun,k5,k5',kf5,hl7⟩:=own_round HF.out hL1 (by omega) HX.out HPK.out hfm
    have HRUN:=hid hrun
    have HL7:=hid hl7
    clear hfm hrun hl7 g3 g4 g5 g6 g7 g8 g9 g10 g11 g12 g13 g14 g15 pf3 pf4 pf5 pf6 pf7 pf8 pf9 pf10 pf11 pf12 pf13 pf14 pf15 e0 e1 e2 e3 e4 e5 e6 e7 e8 e9 e10 e11 e12 e13 e14 e15 HP5 HPV HV5 HCd HVd HB5 HB6 HD6 HDV HW9 HR9 HG9 HBx HBd HXLT HXB HPK HX HSZ HT1 HF
    go_upto_region 13 with fail
    apply wp_region_lit
    refine wpl_faddr rfl _ (.tmp 1) _ rfl (.pointer (some ⟨w.heap.size,0,none⟩)) rfl (faddr_ty W9 w.heap.size 5 (by decide)) ?_
    simp only [Act.put,Go.setq]
    refine wpl_load rfl _ (.tmp 47) rfl (.pointer (some ⟨w.heap.size,5,none⟩)) rfl (load_fs W9 w.heap.size 5 _ k5) ?_
    simp only [Act.put,Go.setq]
    refine wpl_load rfl _ (.tmp 8) rfl (.pointer (some ⟨xb,0,none⟩)) rfl (load_fd W9 xb q HQC.out) ?_
    simp only [Act.put,Go.setq]
    refine wpl_build_eq rfl _ (.tmp 49) rfl q.val rfl (bs_field W9 _ _ _ _ _ _ _ _ _ _ _ _ _ _ _ _) ?_
    simp only [Act.put,Go.setq]
    refine wpl_append_eq rfl (.tmp 48) (.tmp 50) 25 25 rfl (.slice bo j cq) (.slice (some ⟨W9.heap.size,0,none⟩) 1 1) rfl rfl HRUN.out ?_
    simp only [Act.put,Go.setq]
    refine wpl_faddr rfl _ (.tmp 1) _ rfl (.pointer (some ⟨w.heap.size,0,none⟩)) rfl (faddr_ty w7 w.heap.size 5 (by decide)) ?_
    simp only [Act.put,Go.setq]
    refine wpl_store rfl _ (.tmp 52) (.tmp 51) rfl (.pointer (some ⟨w.heap.size,5,none⟩)) (.slice ao7 (j+1) c7) rfl rfl (store_fs w7 w.heap.size 5 _ _ _ _ k5' kf5) ?_
    simp only [Act.put,Go.setq]
    refine wpList_nil ?_
    go_wp2_with fail
    go_roundw
    case rel=>exact ⟨j+1,_,ao7,c7,by omega,by go_num,HL7⟩
    case measure=>simp [intOf];omega
  ·obtain rfl:j=nf:=by omega
   have hre:=HF.out.ra.row (xs:=a.f) (C:=fun b=>w.heap.size+1<b) (by rw [HF.out.rn];omega) (by
    have h:=HF.out.rk
    rw [<-HNF.out,List.take_length] at h
    exact h.symm) (fun b hl hb=>by omega)
   have hps:ps.map Ft.fd=a.f:=by
    have h:=HF.out.rk
    rwa [<-HNF.out,List.take_length] at h
   have hv:TyAt wr (fun b=>w.heap.size+1<b) ⟨a,xo,xq,none,0,bo,cq⟩:=⟨HQ.out.wf,by
    have:=HF.out.rx.weak (C:=fun b=>w.heap.size+1<b) (fun b hb _=>hb.1)
    show SRow wr _ a.x (.slice xo a.x.length xq)
    rw [HNX.out];exact this,by
    have:=HF.out.rt.weak (C:=fun b=>w.heap.size+1<b) (fun b hb _=>hb.1)
    show TRow wr _ false (tf a.t) (.slice none a.t.length 0)
    rw [HNT.out];exact this,by
    show TRow wr _ true a.f (.slice bo a.f.length cq)
    rw [HNF.out];exact hre⟩
   have how:=own_whole (q:=⟨a,xo,xq,none,0,bo,cq⟩) (M:=L) (ps:=ps) HTY.out hv (by
    show AccT wr L (L<·) true _ (.slice bo a.f.length cq) ps
    rw [HNF.out];exact HF.out.ra) (by
    show SoleT wr L (.slice bo a.f.length cq) ps
    rw [HNF.out];exact HF.out.rs) hps (fun b hb _=>by omega)
   obtain ⟨a0,a1,a2,a3,a4,a5,a6,-⟩:=ty_cells HF.out.ro.box
   obtain ⟨p0,p1,p2,p3,p4,p5,p6,pf⟩:=ty_cells HF.out.ro.res
   have pf0:=pf 0
   have pf1:=pf 1
   have pf2:=pf 2
   have pf3:=pf 3
   have pf4:=pf 4
   have pf5:=pf 5
   have pf6:=pf 6
   obtain ⟨W9,hW9,hr9,hg9⟩:=seven_all HF.out.ro.res (.int .i64 a.k) (.int .i64 a.lo) (.int .i64 a.hi) (.slice xo nx xq) (.slice none 0 0) (.slice bo j cq) (.string a.n)
   obtain ⟨q0,q1,q2,q3,q4,q5,q6,-⟩:=ty_cells hr9
   have HW9:=hid hW9
   have HPOST:Hid (OwnTPost a w (.returned (.agg #[.int .i64 a.k,.int .i64 a.lo,.int .i64 a.hi,.slice xo nx xq,.slice none 0 0,.slice bo j cq,.string a.n])) W9):=hid ⟨⟨a,xo,xq,none,0,bo,cq⟩,by unfold Lt.val;simp only [HNX.out,HNT.out,HNF.out],rfl,
    (how.through hg9.size (fun b hb hl=>hg9.block b hl (fun e=>by have:=Option.some.inj e;omega))).weak (fun b hb _=>by omega),HF.out.ro.g.grown hg9 (by have:=HF.out.ro.vlt;omega) (fun b e=>by have:=Option.some.inj e;omega)⟩
   clear hW9 hr9 hg9 pf hv hre how hps HF
   go_wp2_with fail
   rw [<-HW9.out]
   exact bodyPost_ret (v:=.agg #[.int .i64 a.k,.int .i64 a.lo,.int .i64 a.hi,.slice xo nx xq,.slice none 0 0,.slice bo j cq,.string a.n]) (by simp [results,Tryz.results11,go_sem,q0,q1,q2,q3,q4,q5,q6]) rfl HPOST.out
theorem ownT_any (q:Lt) (w:World) (hq:TyAt w (fun _=>True) q) (ht:Tidy q.v):Calls Tryz.prog 11 #[q.val] w (OwnTPost q.v w):=by
 have key:∀ (n:Nat) (q:Lt) (w:World),SizeOf.sizeOf q.v<=n->Tidy q.v->TyAt w (fun _=>True) q->Calls Tryz.prog 11 #[q.val] w (OwnTPost q.v w):=by
  intro n
  induction n with
  | zero=>intro q w h;cases q with|mk v _ _ _ _ _ _=>cases v;simp at h
  | succ n ih =>
    intro q w h ht hq
    have hor:q.v.f=[]\/q.v.t=[]:=by
     cases ht with
     | mk _ _ h _ _=>exact h.imp id And.right
    rcases hor with h0|h0
    ·exact ownT_leaf q.v q.xd q.td q.fd q.xc q.tc q.fc w hq ht h0 (fun q' w' h' ht' hq'=>ih q' w' (by omega) ht' hq')
    ·exact ownT_rec q.v q.xd q.td q.fd q.xc q.tc q.fc w hq ht h0 (fun q' w' h' ht' hq'=>ih q' w' (by omega) ht' hq')
 exact key _ q w (Nat.le_refl _) ht hq
end Go.Proofs.YtgnonbdkmmkdgaaGreatDoor
