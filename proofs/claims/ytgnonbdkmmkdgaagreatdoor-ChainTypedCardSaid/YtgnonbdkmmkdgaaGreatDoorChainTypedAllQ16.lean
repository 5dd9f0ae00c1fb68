/-
  Lemmas for the statement: plain laws, and what functions answer; the conditions stand in each.
-/
import Derived.Test.YtgnonbdkmmkdgaaGreatDoorChainTypedAllQ02
set_option linter.unusedVariables false
set_option linter.unusedSimpArgs false
set_option maxHeartbeats 16000000
set_option maxRecDepth 100000
open Go.Lib (hid)
namespace Go.Proofs.YtgnonbdkmmkdgaaGreatDoor
open Go.RowKit Gx
theorem bothL_any (K:List ByteArray) (d:Nat) (IH:JoinC K d) (jv:Value) (x y:Lt) (C:Nat->Prop) (w:World) (hx:Pn K (d+1) x.v) (hy:Pn K (d+1) y.v) (hk:x.v.k=y.v.k) (h10:x.v.k≠10) (hxa:TyAt w C x) (hya:TyAt w C y) (hC:∀ b,w.heap.size<=b->C b) :
 Calls Tryz.prog 130 #[jv,x.val,y.val] w (BothPost K (d+1) x.v y.v C w):=by
 have hbs:=BS.start w #[.int .i64 x.v.k,.int .i64 x.v.lo,.int .i64 x.v.hi,.slice x.xd x.v.x.length x.xc,.slice x.td x.v.t.length x.tc,.slice x.fd x.v.f.length x.fc,.string x.v.n] #[.int .i64 y.v.k,.int .i64 y.v.lo,.int .i64 y.v.hi,.slice y.xd y.v.x.length y.xc,.slice y.td y.v.t.length y.tc,.slice y.fd y.v.f.length y.fc,.string y.v.n]
 have hp:=hx.nm.2
 have hkr:=fun W=>kindJ_any x W (by unfold Prt at hp;omega) (by unfold Prt at hp;omega)
 have hr1:=fun W=>ranged_any x W hp.ne.2.2.1
 have hr2:=fun W=>ranged_any y W (by rw [<-hk];exact hp.ne.2.2.1)
 have k7:(x.v.k==7)=false:=beq_eq_false_iff_ne.2 hp.ne.2.2.1
 have hkv:(kindV x.v.k==6)=false:=by
  rw [beq_eq_false_iff_ne]
  intro e
  exact h10 (prt_kindV hp (by unfold Prt;omega) (e.trans (by decide)))
 unfold SameT at hr1 hr2
 unfold Lt.val at hkr hr1 hr2 ⊢
 obtain ⟨mx,hmx⟩:∃ m,x.v.x.length=m:=⟨_,rfl⟩
 obtain ⟨mt,hmt⟩:∃ m,x.v.t.length=m:=⟨_,rfl⟩
 obtain ⟨mf,hmf⟩:∃ m,x.v.f.length=m:=⟨_,rfl⟩
 obtain ⟨nx,hnx⟩:∃ m,y.v.x.length=m:=⟨_,rfl⟩
 obtain ⟨nt,hnt⟩:∃ m,y.v.t.length=m:=⟨_,rfl⟩
 obtain ⟨nf,hnf⟩:∃ m,y.v.f.length=m:=⟨_,rfl⟩
 rw [hmx,hmt,hmf,hnx,hnt,hnf] at hbs ⊢
 simp only [hmx,hmt,hmf] at hkr hr1
 simp only [hnx,hnt,hnf] at hr2
 have HMX:=hid hmx
 have HMT:=hid hmt
 have HMF:=hid hmf
 have HNX:=hid hnx
 have HNT:=hid hnt
 have HNF:=hid hnf
 have HX:=hid hx
 have HY:=hid hy
 have HK:=hid hk
 have HK10:=hid h10
 have HXA:=hid hxa
 have HYA:=hid hya
 have HC:=hid hC
 have HIH:=hid IH
 have HKR:=hid hkr
 have HR1:=hid hr1
 have HR2:=hid hr2
 have HKV:=hid hkv
 clear hx hy hk h10 hxa hya hC IH hkr hr1 hr2 hmx hmt hmf hnx hnt hnf hp hkv
 go_enter Tryz.func130,Tryz.ntmps130
 go_upto_region 1 with fail
 generalize World.alloc (World.alloc (World.alloc w _) _) _=w1 at hbs ⊢
 obtain ⟨a0,a1,a2,a3,a4,a5,a6,-⟩:=ty_cells hbs.bx
 have HBS:=hid hbs
 clear hbs
 go_wp2_with fail
 (with_reducible refine (HKR.out w1).mono ?_)
 rintro e w2 ⟨rfl,hb2⟩
 have HB2:=hid (HBS.out.keep hb2)
 have hkv:=HKV.out
 clear hb2 a0 a1 a2 a3 a4 a5 a6 HBS
 go_upto_region 9 with fail
 clear hkv
 obtain ⟨a0,a1,a2,a3,a4,a5,a6,-⟩:=ty_cells HB2.out.bx
 obtain ⟨b0,b1,b2,b3,b4,b5,b6,-⟩:=ty_cells HB2.out.by_
 have HBd:Hid (BS w #[.int .i64 x.v.k,.int .i64 x.v.lo,.int .i64 x.v.hi,.slice x.xd mx x.xc,.slice x.td mt x.tc,.slice x.fd mf x.fc,.string x.v.n] #[.int .i64 y.v.k,.int .i64 y.v.lo,.int .i64 y.v.hi,.slice y.xd nx y.xc,.slice y.td nt y.tc,.slice y.fd nf y.fc,.string y.v.n] w2.drew):=hid (HB2.out.keep (Gx.drewN_below w2 1 _))
 go_cut [50,51,52,53] (fun _ _ _ _ wx=>Hid (BS w #[.int .i64 x.v.k,.int .i64 x.v.lo,.int .i64 x.v.hi,.slice x.xd mx x.xc,.slice x.td mt x.tc,.slice x.fd mf x.fc,.string x.v.n] #[.int .i64 y.v.k,.int .i64 y.v.lo,.int .i64 y.v.hi,.slice y.xd nx y.xc,.slice y.td nt y.tc,.slice y.fd nf y.fc,.string y.v.n] wx))
 case first =>
  go_region_law (first
   | (go_simp;(with_reducible refine (HR1.out _).mono ?_);rintro e w5 ⟨rfl,hb5⟩;have h5:=HBd.out.keep hb5;obtain ⟨f0,f1,f2,f3,f4,f5,f6,-⟩:=ty_cells h5.by_;have H5:=hid h5;clear hb5 h5)
   | (go_simp;(with_reducible refine (HR2.out _).mono ?_);rintro e w6 ⟨rfl,hb6⟩;have h6:=H5.out.keep hb6;obtain ⟨c0,c1,c2,c3,c4,c5,c6,cf⟩:=ty_cells h6.bx;obtain ⟨d0,d1,d2,d3,d4,d5,d6,df⟩:=ty_cells h6.by_;have cf0:=cf 0;have df0:=df 0;have cf1:=cf 1;have df1:=df 1;have cf2:=cf 2;have df2:=df 2;have cf3:=cf 3;have df3:=df 3;have cf4:=cf 4;have df4:=df 4;have cf5:=cf 5;have df5:=df 5;have cf6:=cf 6;have df6:=df 6;have H6:=hid h6;clear hb6 h6 cf df))
  all_goals
   obtain ⟨W8,hW8,hr8,hg8⟩:=seven_all H6.out.bx (.int .i64 x.v.k) (.int .i64 x.v.lo) (.int .i64 x.v.hi) (.slice x.xd mx x.xc) (.slice x.td mt x.tc) (.slice x.fd mf x.fc) (.string x.v.n)
   have h8:=H6.out.setX hr8 hg8
   obtain ⟨W10,hW10,hr10,hg10⟩:=seven_all h8.by_ (.int .i64 y.v.k) (.int .i64 y.v.lo) (.int .i64 y.v.hi) (.slice y.xd nx y.xc) (.slice y.td nt y.tc) (.slice y.fd nf y.fc) (.string y.v.n)
   have H10:=hid (h8.setY hr10 hg10)
   have HW8:=hid hW8
   have HW10:=hid hW10
   clear hW8 hr8 hg8 h8 hW10 hr10 hg10
   rw [<-HW8.out,<-HW10.out]
   go_wp2_with fail
   go_meet
   exact H10
 case rest =>
  have HB:=hcut
  clear HB2
  obtain ⟨a0,a1,a2,a3,a4,a5,a6,af⟩:=ty_cells HB.out.bx
  obtain ⟨b0,b1,b2,b3,b4,b5,b6,-⟩:=ty_cells HB.out.by_
  have af1:=af 1
  have af2:=af 2
  go_upto_region 10 with fail
  go_region
  all_goals
   have hx1:=cell_store (cell_store HB.out.bx 1 (.int .i64 (min x.v.lo y.v.lo))) 2 (.int .i64 (max x.v.hi y.v.hi))
   have hxc:((wc.setCell ⟨w.heap.size,1,none⟩ (.int .i64 (min x.v.lo y.v.lo))).setCell ⟨w.heap.size,2,none⟩ (.int .i64 (max x.v.hi y.v.hi))).heap[w.heap.size]?=some (.cells #[.int .i64 x.v.k,.int .i64 (min x.v.lo y.v.lo),.int .i64 (max x.v.hi y.v.hi),.slice x.xd mx x.xc,.slice x.td mt x.tc,.slice x.fd mf x.fc,.string x.v.n] 27):=hx1
   have h11:=(HB.out.setX hxc (grown_trans (grown_cell wc w.heap.size 1 (.int .i64 (min x.v.lo y.v.lo))) (grown_cell _ w.heap.size 2 (.int .i64 (max x.v.hi y.v.hi))))).keep (Gx.drewN_below _ 1 _)
   have h11':BS w #[.int .i64 x.v.k,.int .i64 (min x.v.lo y.v.lo),.int .i64 (max x.v.hi y.v.hi),.slice x.xd mx x.xc,.slice x.td mt x.tc,.slice x.fd mf x.fc,.string x.v.n] #[.int .i64 y.v.k,.int .i64 y.v.lo,.int .i64 y.v.hi,.slice y.xd nx y.xc,.slice y.td nt y.tc,.slice y.fd nf y.fc,.string y.v.n] ((wc.setCell ⟨w.heap.size,1,none⟩ (.int .i64 (min x.v.lo y.v.lo))).setCell ⟨w.heap.size,2,none⟩ (.int .i64 (max x.v.hi y.v.hi))).drew:=h11
   have H11:=hid h11'
   clear hx1 hxc h11 h11' a0 a1 a2 a3 a4 a5 a6 b0 b1 b2 b3 b4 b5 b6 af af1 af2
   generalize World.drew (World.setCell (World.setCell wc _ _) _ _)=w11 at H11 ⊢
   clear HB
   have HWF:Hid (∀ t,(Ty.mk x.v.k (min x.v.lo y.v.lo) (max x.v.hi y.v.hi) x.v.x t x.v.f x.v.n).wf):=hid (fun t=>by
    have h1:=HXA.out.wf
    have h2:=HYA.out.wf
    have e1:=h1.l0
    have e2:=h1.l1
    have e3:=h1.h0
    have e4:=h1.h1
    have e5:=h2.l0
    have e6:=h2.l1
    have e7:=h2.h0
    have e8:=h2.h1
    exact ⟨h1.k0,h1.k1,by show _<=min _ _;omega,by show min _ _<=_;omega,by show _<=max _ _;omega,by show max _ _<=_;omega,h1.s1⟩)
   have HXW:=hid ((HXA.out.weak (C:=fun b=>C b/\b<w.heap.size) (fun b h1 h2=>⟨h1,h2⟩)).keep H11.out.g)
   obtain ⟨a0,a1,a2,a3,a4,a5,a6,-⟩:=ty_cells H11.out.bx
   by_cases h8:x.v.k=8
   ·have e8:(x.v.k==8)=true:=beq_iff_eq.2 h8
    have h8y:y.v.k=8:=by rw [<-HK.out];exact h8
    obtain ⟨xe,hxe,nxe⟩:=HX.out.1.list_inv h8
    obtain ⟨ye,hye,nye⟩:=HY.out.1.list_inv h8y
    have hjx:Jn K d xe:=⟨nxe,HX.out.2.2.2.1 xe (by rw [hxe];exact List.mem_singleton_self _)⟩
    have hjy:Jn K d ye:=⟨nye,HY.out.2.2.2.1 ye (by rw [hye];exact List.mem_singleton_self _)⟩
    obtain ⟨tb,t0,htd,-,htl,hts⟩:=HXA.out.t.elem (by rw [hxe];exact Nat.one_pos)
    obtain ⟨ub,u0,hud,-,hul,hus⟩:=HYA.out.t.elem (by rw [hye];exact Nat.one_pos)
    obtain ⟨qx,hqx,hqxa,hqxc⟩:=hts 0 xe (by rw [hxe];rfl)
    obtain ⟨qy,hqy,hqya,hqyc⟩:=hus 0 ye (by rw [hye];rfl)
    rw [Nat.zero_mul,Nat.add_zero] at hqxc hqyc
    obtain ⟨c0,c1,c2,c3,c4,c5,c6⟩:=hqxc.through (H11.out.g.block _ htl)
    obtain ⟨d0,d1,d2,d3,d4,d5,d6⟩:=hqyc.through (H11.out.g.block _ hul)
    obtain rfl:mt=1:=by rw [<-HMT.out,hxe];rfl
    obtain rfl:nt=1:=by rw [<-HNT.out,hye];rfl
    have HD:Hid (BS w #[.int .i64 x.v.k,.int .i64 (min x.v.lo y.v.lo),.int .i64 (max x.v.hi y.v.hi),.slice x.xd mx x.xc,.slice x.td 1 x.tc,.slice x.fd mf x.fc,.string x.v.n] #[.int .i64 y.v.k,.int .i64 y.v.lo,.int .i64 y.v.hi,.slice y.xd nx y.xc,.slice y.td 1 y.tc,.slice y.fd nf y.fc,.string y.v.n] w11.drew):=hid (H11.out.keep (Gx.drewN_below w11 1 _))
    obtain ⟨C',hC'⟩:∃ C':Nat->Prop,C'=fun b=>C b/\(b<w.heap.size\/w.heap.size+2<b):=⟨_,rfl⟩
    have hjc:=HIH.out jv qx qy C' w11.drew (by rw [hqx];exact hjx) (by rw [hqy];exact hjy) (((hqxa.weak (C:=C') (fun b h1 h2=>by rw [hC'];exact ⟨h1,.inl h2⟩)).keep H11.out.g).keep (Gx.drewN_below w11 1 _)) (((hqya.weak (C:=C') (fun b h1 h2=>by rw [hC'];exact ⟨h1,.inl h2⟩)).keep H11.out.g).keep (Gx.drewN_below w11 1 _)) (fun b hb=>by
     have h1:=H11.out.vlt
     have h2:w11.heap.size<=b:=hb
     rw [hC']
     exact ⟨HC.out b (by omega),.inr (by omega)⟩)
    unfold JoinPost at hjc
    rw [hqx,hqy] at hjc
    unfold Lt.val at hjc
    have HJC:=hid hjc
    have HC':=hid hC'
    have HXE:=hid hxe
    have HYE:=hid hye
    have HTD:=hid htd
    obtain ⟨b0,b1,b2,b3,b4,b5,b6,-⟩:=ty_cells H11.out.by_
    rw [htd] at a4
    rw [hud] at b4
    have r1:(0:Int)<((1:Nat):Int):=by decide
    have H8:=hid h8
    clear h8 h8y hxe nxe hye nye hjx hjy htl hts hul hus hqx hqxa hqxc hqy hqya hqyc hC' hjc htd hud
    go_upto_region 12 with fail
    go_still_tail 9,(by kernel_rfl)
    change wpList _ _ _ _ _ w11.drew
    go_wp2_with fail
    (with_reducible refine HJC.out.mono ?_)
    rintro e w5 ⟨z,rfl,hj,hz,hb5⟩
    have h5:=HD.out.keep hb5
    clear c0 c1 c2 c3 c4 c5 c6 d0 d1 d2 d3 d4 d5 d6 a0 a1 a2 a3 a4 a5 a6 b0 b1 b2 b3 b4 b5 b6 hb5
    have HJ:=hid hj
    have hro:=TRow.one (B:=C') (hz.keep ((Below.refl w5.heap.size w5).alloc (Nat.le_refl _) (.cells #[.int .i64 z.v.k,.int .i64 z.v.lo,.int .i64 z.v.hi,.slice z.xd z.v.x.length z.xc,.slice z.td z.v.t.length z.tc,.slice z.fd z.v.f.length z.fc,.string z.v.n] 27))) (heap_alloc_new w5 (.cells #[.int .i64 z.v.k,.int .i64 z.v.lo,.int .i64 z.v.hi,.slice z.xd z.v.x.length z.xc,.slice z.td z.v.t.length z.tc,.slice z.fd z.v.f.length z.fc,.string z.v.n] 27)) (by rw [HC'.out];have:=h5.vlt;exact ⟨HC.out _ (by omega),.inr (by omega)⟩)
    have h6:=h5.grow (World.grownBy_alloc w5 (.cells #[.int .i64 z.v.k,.int .i64 z.v.lo,.int .i64 z.v.hi,.slice z.xd z.v.x.length z.xc,.slice z.td z.v.t.length z.tc,.slice z.fd z.v.f.length z.fc,.string z.v.n] 27) none) (fun b e=>absurd e (by simp))
    have h7:=h6.setX (cell_store h6.bx 4 (.slice (some ⟨w5.heap.size,0,none⟩) 1 1)) (grown_cell _ w.heap.size 4 (.slice (some ⟨w5.heap.size,0,none⟩) 1 1))
    have hr7:=hro.grow (grown_cell _ w.heap.size 4 (.slice (some ⟨w5.heap.size,0,none⟩) 1 1)) (fun b e hb=>by rw [HC'.out] at hb;have:=Option.some.inj e;have:=hb.2;omega)
    obtain ⟨-,-,-,-,k4,-,-,kf⟩:=ty_cells h6.bx
    have kf4:=kf 4
    have H7:=hid h7
    have HR7:=hid hr7
    clear hj hz h5 h6 h7 hro hr7 kf HD
    go_upto_region 13 with fail
    generalize World.setCell (World.alloc w5 _) _ _=w13 at H7 HR7 ⊢
    obtain ⟨gz,hgz⟩:∃ gz,w5.heap.size=gz:=⟨_,rfl⟩
    rw [hgz] at H7 HR7 ⊢
    clear hgz k4 kf4
    have HJK:Hid (JoinOk x.v y.v (.mk x.v.k (min x.v.lo y.v.lo) (max x.v.hi y.v.hi) x.v.x [z.v] x.v.f x.v.n)):=hid (both_ok HX.out.1 HY.out.1 HK.out HX.out.2.1.ne.1 HK10.out rfl rfl rfl (fun _=>⟨z.v,rfl,by rw [HXE.out,HYE.out];exact HJ.out.ok⟩))
    have HPN:Hid (Pn K (d+1) (.mk x.v.k (min x.v.lo y.v.lo) (max x.v.hi y.v.hi) x.v.x [z.v] x.v.f x.v.n)):=hid ⟨HJK.out.n,HX.out.2.1,HX.out.2.2.1,fun b hb c hc=>by
     have hb':b∈[z.v]:=hb
     rw [List.mem_singleton.1 hb'] at hc
     exact HJ.out.jn.2 c hc,HX.out.2.2.2.2⟩
    obtain ⟨a0,a1,a2,a3,a4,a5,a6,-⟩:=ty_cells H7.out.bx
    obtain ⟨p0,p1,p2,p3,p4,p5,p6,pf⟩:=ty_cells H7.out.res
    have pf0:=pf 0
    have pf1:=pf 1
    have pf2:=pf 2
    have pf3:=pf 3
    have pf4:=pf 4
    have pf5:=pf 5
    have pf6:=pf 6
    obtain ⟨W9,hW9,hr9,hg9⟩:=seven_all H7.out.res (.int .i64 x.v.k) (.int .i64 (min x.v.lo y.v.lo)) (.int .i64 (max x.v.hi y.v.hi)) (.slice x.xd mx x.xc) (.slice (some ⟨gz,0,none⟩) 1 1) (.slice x.fd mf x.fc) (.string x.v.n)
    obtain ⟨q0,q1,q2,q3,q4,q5,q6,-⟩:=ty_cells hr9
    have HW9:=hid hW9
    have HXW2:=hid ((HXA.out.weak (C:=fun b=>C b/\b<w.heap.size) (fun b h1 h2=>⟨h1,h2⟩)).keep H7.out.g)
    have HPOST:Hid (BothPost K (d+1) x.v y.v C w (.returned (.agg #[.int .i64 x.v.k,.int .i64 (min x.v.lo y.v.lo),.int .i64 (max x.v.hi y.v.hi),.slice x.xd mx x.xc,.slice (some ⟨gz,0,none⟩) 1 1,.slice x.fd mf x.fc,.string x.v.n])) W9):=hid ⟨⟨.mk x.v.k (min x.v.lo y.v.lo) (max x.v.hi y.v.hi) x.v.x [z.v] x.v.f x.v.n,x.xd,x.xc,some ⟨gz,0,none⟩,1,x.fd,x.fc⟩,by unfold Lt.val;rw [<-HMX.out,<-HMF.out];rfl,HJK.out,HPN.out,rfl,by
     have hq:=(HXW2.out.grow hg9 (fun b e hb=>by have:=Option.some.inj e;omega)).weak (C:=C) (fun b hb _=>hb.1)
     have ht:=(HR7.out.grow hg9 (fun b e hb=>by rw [HC'.out] at hb;have:=Option.some.inj e;have:=hb.2;omega)).weak (C:=C) (fun b hb _=>by rw [HC'.out] at hb;exact hb.1)
     exact ⟨HWF.out _,hq.x,ht,hq.f⟩,H7.out.g.grown hg9 (by have:=H7.out.vlt;omega) (fun b e=>by have:=Option.some.inj e;omega)⟩
    clear hW9 hr9 hg9 pf
    go_wp2_with fail
    rw [<-HW9.out]
    exact bodyPost_ret (v:=.agg #[.int .i64 x.v.k,.int .i64 (min x.v.lo y.v.lo),.int .i64 (max x.v.hi y.v.hi),.slice x.xd mx x.xc,.slice (some ⟨gz,0,none⟩) 1 1,.slice x.fd mf x.fc,.string x.v.n]) (by simp [results,Tryz.results130,go_sem,q0,q1,q2,q3,q4,q5,q6]) rfl HPOST.out
   ·have e8:(x.v.k==8)=false:=beq_eq_false_iff_ne.2 h8
    have HJ:Hid (JoinOk x.v y.v (.mk x.v.k (min x.v.lo y.v.lo) (max x.v.hi y.v.hi) x.v.x x.v.t x.v.f x.v.n)):=hid (both_ok HX.out.1 HY.out.1 HK.out HX.out.2.1.ne.1 HK10.out rfl rfl rfl (fun h=>absurd h h8))
    have HPN:Hid (Pn K (d+1) (.mk x.v.k (min x.v.lo y.v.lo) (max x.v.hi y.v.hi) x.v.x x.v.t x.v.f x.v.n)):=hid ⟨HJ.out.n,HX.out.2.1,HX.out.2.2.1,HX.out.2.2.2.1,HX.out.2.2.2.2⟩
    clear h8
    obtain ⟨p0,p1,p2,p3,p4,p5,p6,pf⟩:=ty_cells H11.out.res
    have pf0:=pf 0
    have pf1:=pf 1
    have pf2:=pf 2
    have pf3:=pf 3
    have pf4:=pf 4
    have pf5:=pf 5
    have pf6:=pf 6
    obtain ⟨W9,hW9,hr9,hg9⟩:=seven_all H11.out.res (.int .i64 x.v.k) (.int .i64 (min x.v.lo y.v.lo)) (.int .i64 (max x.v.hi y.v.hi)) (.slice x.xd mx x.xc) (.slice x.td mt x.tc) (.slice x.fd mf x.fc) (.string x.v.n)
    obtain ⟨q0,q1,q2,q3,q4,q5,q6,-⟩:=ty_cells hr9
    have HW9:=hid hW9
    have HPOST:Hid (BothPost K (d+1) x.v y.v C w (.returned (.agg #[.int .i64 x.v.k,.int .i64 (min x.v.lo y.v.lo),.int .i64 (max x.v.hi y.v.hi),.slice x.xd mx x.xc,.slice x.td mt x.tc,.slice x.fd mf x.fc,.string x.v.n])) W9):=hid ⟨⟨.mk x.v.k (min x.v.lo y.v.lo) (max x.v.hi y.v.hi) x.v.x x.v.t x.v.f x.v.n,x.xd,x.xc,x.td,x.tc,x.fd,x.fc⟩,by unfold Lt.val;rw [<-HMX.out,<-HMT.out,<-HMF.out];rfl,HJ.out,HPN.out,rfl,by
     have hq:=(HXW.out.grow hg9 (fun b e hb=>by have:=Option.some.inj e;omega)).weak (C:=C) (fun b hb _=>hb.1)
     exact ⟨HWF.out _,hq.x,hq.t,hq.f⟩,H11.out.g.grown hg9 (by have:=H11.out.vlt;omega) (fun b e=>by have:=Option.some.inj e;omega)⟩
    clear hW9 hr9 hg9 pf
    go_wp2_with fail
    rw [<-HW9.out]
    exact bodyPost_ret (v:=.agg #[.int .i64 x.v.k,.int .i64 (min x.v.lo y.v.lo),.int .i64 (max x.v.hi y.v.hi),.slice x.xd mx x.xc,.slice x.td mt x.tc,.slice x.fd mf x.fc,.string x.v.n]) (by simp [results,Tryz.results130,go_sem,q0,q1,q2,q3,q4,q5,q6]) rfl HPOST.out
end Go.Proofs.YtgnonbdkmmkdgaaGreatDoor
