/-
  Lemmas for the statement: plain laws, and what functions answer; the conditions stand in each.
-/
import Derived.BigRegion
import Derived.Test.YtgnonbdkmmkdgaaGreatDoorChainTypedAllQ03
set_option linter.unusedVariables false
set_option linter.unusedSimpArgs false
set_option maxHeartbeats 16000000
set_option maxRecDepth 100000
open Go.Lib (hid)
namespace Go.Proofs.YtgnonbdkmmkdgaaGreatDoor
open Go.RowKit Gx
theorem entersT3:∀ args w,(callFunc 169 args).run Tryz.prog w=.ok (.enter 169 args) w:=enters_of Tryz.func169 (by kernel_rfl) rfl
theorem tables_any (K:List ByteArray) (hKn:K.length<=2000) (d:Nat) (IH:JoinC K d) (jv:Value) (x y:Lt) (C:Nat->Prop) (w:World) (hx:Pn K (d+1) x.v) (hy:Pn K (d+1) y.v) (hk:x.v.k=10) (hky:y.v.k=10) (hxa:TyAt w C x) (hya:TyAt w C y) (hC:∀ b,w.heap.size<=b->C b) :
 Calls Tryz.prog 148 #[jv,x.val,y.val] w (BothPost K (d+1) x.v y.v C w):=by
 have hbs:=BS.start w #[.int .i64 x.v.k,.int .i64 x.v.lo,.int .i64 x.v.hi,.slice x.xd x.v.x.length x.xc,.slice x.td x.v.t.length x.tc,.slice x.fd x.v.f.length x.fc,.string x.v.n] #[.int .i64 y.v.k,.int .i64 y.v.lo,.int .i64 y.v.hi,.slice y.xd y.v.x.length y.xc,.slice y.td y.v.t.length y.tc,.slice y.fd y.v.f.length y.fc,.string y.v.n]
 have k9:(x.v.k==9)=false:=beq_eq_false_iff_ne.2 (by omega)
 have k9y:(y.v.k==9)=false:=beq_eq_false_iff_ne.2 (by omega)
 unfold Lt.val
 obtain ⟨mx,hmx⟩:∃ m,x.v.x.length=m:=⟨_,rfl⟩
 obtain ⟨mt,hmt⟩:∃ m,x.v.t.length=m:=⟨_,rfl⟩
 obtain ⟨mf,hmf⟩:∃ m,x.v.f.length=m:=⟨_,rfl⟩
 obtain ⟨nx,hnx⟩:∃ m,y.v.x.length=m:=⟨_,rfl⟩
 obtain ⟨nt,hnt⟩:∃ m,y.v.t.length=m:=⟨_,rfl⟩
 obtain ⟨nf,hnf⟩:∃ m,y.v.f.length=m:=⟨_,rfl⟩
 obtain ⟨xf,hxf⟩:∃ m,x.fd=m:=⟨_,rfl⟩
 obtain ⟨yf,hyf⟩:∃ m,y.fd=m:=⟨_,rfl⟩
 rw [hmx,hmt,hmf,hnx,hnt,hnf,hxf,hyf] at hbs ⊢
 have HXF:=hid hxf
 have HYF:=hid hyf
 have HMX:=hid hmx
 have HMT:=hid hmt
 have HMF:=hid hmf
 have HNX:=hid hnx
 have HNT:=hid hnt
 have HNF:=hid hnf
 have HX:=hid hx
 have HY:=hid hy
 have HK:=hid hk
 have HKY:=hid hky
 have HKN:=hid hKn
 have HXA:=hid hxa
 have HYA:=hid hya
 have HC:=hid hC
 have HIH:=hid IH
 clear hxf hyf hx hy hk hky hKn hxa hya hC IH hmx hmt hmf hnx hnt hnf
 go_enter Tryz.func148,Tryz.ntmps148
 go_upto_region 1 with fail
 generalize World.alloc (World.alloc (World.alloc w _) _) _=w1 at hbs ⊢
 obtain ⟨a0,a1,a2,a3,a4,a5,a6,-⟩:=ty_cells hbs.bx
 obtain ⟨b0,b1,b2,b3,b4,b5,b6,-⟩:=ty_cells hbs.by_
 have HBS:=hid hbs
 clear hbs
 go_upto_region 4 with fail
 go_wp2_with fail
 clear a0 a1 a2 a3 a4 a5 a6 b0 b1 b2 b3 b4 b5 b6 k9 k9y
 have hv1:=HBS.out.vlt
 obtain ⟨M,hM⟩:∃ M,w1.heap.size=M+1:=⟨w1.heap.size - 1,by omega⟩
 have hM2:w.heap.size+2<=M:=by omega
 have HT0:Hid (TabL w #[.int .i64 x.v.k,.int .i64 x.v.lo,.int .i64 x.v.hi,.slice x.xd mx x.xc,.slice x.td mt x.tc,.slice xf mf x.fc,.string x.v.n] #[.int .i64 y.v.k,.int .i64 y.v.lo,.int .i64 y.v.hi,.slice y.xd nx y.xc,.slice y.td nt y.tc,.slice yf nf y.fc,.string y.v.n] C M 0 none 0 [] w1):=hid ⟨rfl,HBS.out,AccT.nil _ _ _ _ _,Nat.le_of_eq hM.symm⟩
 have hmf1:mf<=2000:=by
  have:=HX.out.fields HK.out
  rw [HMF.out] at this
  exact Nat.le_trans this HKN.out
 have hnf1:nf<=2000:=by
  have:=HY.out.fields HKY.out
  rw [HNF.out] at this
  exact Nat.le_trans this HKN.out
 clear hM hv1 HBS
 go_loopw [7,34] (fun v7 v34 wr=>∃ (j:Nat) (ps:List Ft) (bo:Option Addr) (cq:Nat),j<=mf/\v34=.int .i64 j/\v7=.slice bo j cq/\Hid (TabL w #[.int .i64 x.v.k,.int .i64 x.v.lo,.int .i64 x.v.hi,.slice x.xd mx x.xc,.slice x.td mt x.tc,.slice xf mf x.fc,.string x.v.n] #[.int .i64 y.v.k,.int .i64 y.v.lo,.int .i64 y.v.hi,.slice y.xd nx y.xc,.slice y.td nt y.tc,.slice yf nf y.fc,.string y.v.n] C M j bo cq ps wr)/\Hid (AllF (FldJ K d y.v.f) (x.v.f.take j) (ps.map Ft.fd))) (fun _ v34 _=>mf - (intOf v34).toNat)
 case atStart=>exact ⟨0,[],none,0,Nat.zero_le _,rfl,rfl,HT0,hid .nil⟩
 case round =>
  obtain ⟨j,ps,bo,cq,hj,rfl,rfl,HF,HA⟩:=hrel
  clear HT0
  by_cases hlt:j<mf
  ·obtain ⟨x0,hx0⟩:∃ f,x.v.f[j]?=some f:=⟨_,List.getElem?_eq_getElem (by rw [HMF.out];exact hlt)⟩
   obtain ⟨b1,o1,hd1,-,hbl1,hcs1⟩:=HXA.out.f.fieldF (by rw [HMF.out];omega)
   obtain rfl:xf=some ⟨b1,o1,none⟩:=by rw [<-HXF.out];exact hd1
   obtain ⟨p1,hp1,hpt1,hpd1,hpk1,hpc1⟩:=hcs1 j x0 hx0
   clear hcs1
   have hg:=HF.out.rb.g
   obtain ⟨d0,d1,d2,d3,d4,d5,d6,d7,d8,d9,d10,d11,d12,d13,d14,d15⟩:=hpc1.through (hg.block _ hbl1)
   have r1:(0:Int)<=(j:Int):=by omega
   have r2:(j:Int)<(mf:Int):=by omega
   have r4:(j:Int).toNat=j:=rfl
   have hba:=(Below.refl wr.heap.size wr).alloc (Nat.le_refl _) (.cells #[.string p1.n,.bool p1.o,.bool p1.h,.int .i64 p1.t.v.k,.int .i64 p1.t.v.lo,.int .i64 p1.t.v.hi,.slice p1.t.xd p1.t.v.x.length p1.t.xc,.slice p1.t.td p1.t.v.t.length p1.t.tc,.slice p1.t.fd p1.t.v.f.length p1.t.fc,.string p1.t.v.n,.int .i64 p1.d.v.k,.int .i64 p1.d.v.n,.int .u64 p1.d.v.f,.string p1.d.v.s,.slice p1.d.ad p1.d.v.l.length p1.d.cap,.slice p1.d.bd p1.d.v.e.length p1.d.dap] 65)
   have hcb:=heap_alloc_new wr (.cells #[.string p1.n,.bool p1.o,.bool p1.h,.int .i64 p1.t.v.k,.int .i64 p1.t.v.lo,.int .i64 p1.t.v.hi,.slice p1.t.xd p1.t.v.x.length p1.t.xc,.slice p1.t.td p1.t.v.t.length p1.t.tc,.slice p1.t.fd p1.t.v.f.length p1.t.fc,.string p1.t.v.n,.int .i64 p1.d.v.k,.int .i64 p1.d.v.n,.int .u64 p1.d.v.f,.string p1.d.v.s,.slice p1.d.ad p1.d.v.l.length p1.d.cap,.slice p1.d.bd p1.d.v.e.length p1.d.dap] 65)
   have hxl:wr.heap.size<(wr.alloc (.cells #[.string p1.n,.bool p1.o,.bool p1.h,.int .i64 p1.t.v.k,.int .i64 p1.t.v.lo,.int .i64 p1.t.v.hi,.slice p1.t.xd p1.t.v.x.length p1.t.xc,.slice p1.t.td p1.t.v.t.length p1.t.tc,.slice p1.t.fd p1.t.v.f.length p1.t.fc,.string p1.t.v.n,.int .i64 p1.d.v.k,.int .i64 p1.d.v.n,.int .u64 p1.d.v.f,.string p1.d.v.s,.slice p1.d.ad p1.d.v.l.length p1.d.cap,.slice p1.d.bd p1.d.v.e.length p1.d.dap] 65)).heap.size:=by simp
   have HX0:=hid hx0
   have HP1:=hid hp1
   have HPK:=hid hpk1
   have HPT:=hid (hpt1.weak (C:=fun b=>C b/\b<w.heap.size) (fun b h1 h2=>⟨h1,h2⟩))
   have HPD:=hid (hpd1.weak (C:=fun b=>C b/\b<w.heap.size) (fun b h1 h2=>⟨h1,h2⟩))
   clear hx0 hp1 hpk1 hpt1 hpd1 hpc1 hg
   go_upto_region 7 with fail
   generalize hwx:World.alloc wr _=wx at hba hcb hxl ⊢
   have HFX:=hid (HF.out.keep hba)
   obtain ⟨xb,hxb⟩:∃ xb,wr.heap.size=xb:=⟨_,rfl⟩
   have HXB:=hid hxb
   rw [hxb] at hcb hxl hba ⊢
   obtain ⟨e0,e1,e2,e3,e4,e5,e6,e7,e8,e9,e10,e11,e12,e13,e14,e15⟩:=FcAt.box hcb
   have hidx:=indexTab_any 166 (.inl rfl) y.fd y.fc y.v.f xb p1.n wx ((HYA.out.f.weak (C:=fun _=>True) (fun _ _ _=>trivial)).through HFX.out.rb.g.size (fun b _ hl=>HFX.out.rb.g.block b hl) (fun _ h _=>h)) e0
   rw [HYF.out,HNF.out] at hidx
   have HIDX:=hid hidx
   clear hidx d0 d1 d2 d3 d4 d5 d6 d7 d8 d9 d10 d11 d12 d13 d14 d15 hwx hxb
   obtain ⟨b0,b1',b2,b3,b4,b5,b6,-⟩:=ty_cells HFX.out.rb.by_
   go_wp2_with fail
   (with_reducible refine HIDX.out.mono ?_)
   rintro e w2 ⟨rfl,hb2⟩
   have hbx2:=(hb2.block _ hxl).trans hcb
   have HF2:=hid (HFX.out.keep hb2)
   have HB2:=hid (hba.trans (hb2.mono (Nat.le_of_lt hxl)))
   have hxl2:xb<w2.heap.size:=Nat.lt_of_lt_of_le hxl hb2.size
   clear e0 e1 e2 e3 e4 e5 e6 e7 e8 e9 e10 e11 e12 e13 e14 e15 b0 b1' b2 b3 b4 b5 b6 hb2 hcb HFX HIDX hba hxl
   have hxw:w.heap.size<=xb:=by rw [<-HXB.out];have:=HF.out.rm;omega
   have HMD0:=True.intro
   go_upto_if 43 with fail
   go_cut [10,34] (fun _ v34 wx=>v34=.int .i64 (j:Int)/\Hid (∃ q:Ft,TMade w C xb wr q wx/\FldJ K d y.v.f x0 q.fd))
   case first =>
    by_cases hi:fpos p1.n y.v.f<nf
    ·rw [if_pos hi]
     obtain ⟨i,hii⟩:∃ i,fpos p1.n y.v.f=i:=⟨_,rfl⟩
     obtain ⟨y0,hy0⟩:∃ f,y.v.f[fpos p1.n y.v.f]?=some f:=⟨_,List.getElem?_eq_getElem (by rw [HNF.out];exact hi)⟩
     obtain ⟨b2,o2,hd2,-,hbl2,hcs2⟩:=HYA.out.f.fieldF (by rw [HNF.out];omega)
     obtain rfl:yf=some ⟨b2,o2,none⟩:=by rw [<-HYF.out];exact hd2
     obtain ⟨p2,hp2,hpt2,-,-,hpc2⟩:=hcs2 _ y0 hy0
     rw [hii] at hi hy0 hpc2 ⊢
     have HII:=hid hii
     clear hcs2 hii
     have hg2:=HF2.out.rb.g
     have hjc:=HIH.out jv p1.t p2.t (fun b=>(C b/\b<w.heap.size)\/xb<b) w2.drew
      (by have:=congrArg Fd.t HP1.out;have e1:p1.t.v=x0.t:=this;rw [e1];exact HX.out.fjn HK.out x0 (List.mem_of_getElem? HX0.out))
      (by have:=congrArg Fd.t hp2;have e1:p2.t.v=y0.t:=this;rw [e1];exact HY.out.fjn HKY.out y0 (List.mem_of_getElem? hy0))
      (((HPT.out.weak (C:=fun b=>(C b/\b<w.heap.size)\/xb<b) (fun b h1 _=>.inl h1)).keep hg2).keep (Gx.drewN_below w2 1 _))
      (((hpt2.weak (C:=fun b=>(C b/\b<w.heap.size)\/xb<b) (fun b h1 h2=>.inl ⟨h1,h2⟩)).keep hg2).keep (Gx.drewN_below w2 1 _))
      (fun b hb=>by have h2:w2.heap.size<=b:=hb;exact .inr (by omega))
     unfold JoinPost at hjc
     simp only [Lt.val] at hjc
     have HJC:=hid hjc
     have HY0:=hid hy0
     have HP2:=hid hp2
     have HBX:Hid (w2.drew.heap[xb]?=some (.cells #[.string p1.n,.bool p1.o,.bool p1.h,.int .i64 p1.t.v.k,.int .i64 p1.t.v.lo,.int .i64 p1.t.v.hi,.slice p1.t.xd p1.t.v.x.length p1.t.xc,.slice p1.t.td p1.t.v.t.length p1.t.tc,.slice p1.t.fd p1.t.v.f.length p1.t.fc,.string p1.t.v.n,.int .i64 p1.d.v.k,.int .i64 p1.d.v.n,.int .u64 p1.d.v.f,.string p1.d.v.s,.slice p1.d.ad p1.d.v.l.length p1.d.cap,.slice p1.d.bd p1.d.v.e.length p1.d.dap] 65)):=hid hbx2
     have HFD:=hid (HF2.out.keep (Gx.drewN_below w2 1 _))
     have HB2d:Hid (Below xb wr w2.drew):=hid (HB2.out.trans ((Gx.drewN_below w2 1 _).mono (Nat.le_of_lt hxl2)))
     have HXL2:Hid (xb<w2.drew.heap.size):=hid hxl2
     have hpcd:=hpc2.through (hg2.block _ hbl2)
     have HPC2:Hid (FcAt w2.drew b2 (o2+i * 16) p2):=hid (hpcd.through rfl)
     have HBL2:Hid (b2<w2.drew.heap.size):=hid (Nat.lt_of_lt_of_le hbl2 hg2.size)
     obtain ⟨po,hpo⟩:∃ po,p1.o=po:=⟨_,rfl⟩
     have HPO:=hid hpo
     obtain ⟨e0,e1,e2,e3,e4,e5,e6,e7,e8,e9,e10,e11,e12,e13,e14,e15⟩:=FcAt.box hbx2
     obtain ⟨d0,d1,d2,d3,d4,d5,d6,d7,d8,d9,d10,d11,d12,d13,d14,d15⟩:=hpcd
     obtain ⟨b0,b1',b2',b3,b4,b5,b6,-⟩:=ty_cells HF2.out.rb.by_
     rw [hpo] at e1
     have q1:(0:Int)<=(i:Int):=by omega
     have q2:(i:Int)<(nf:Int):=by omega
     have q4:(i:Int).toNat=i:=rfl
     have q5:decide ((i:Int)<0)=false:=decide_eq_false (by omega)
     clear hjc hy0 hp2 hpo hpc2 hpt2 hg2 hd2 hbx2
     go_upto_region 10 with fail
     have hund:undef=Value.tuple #[]:=rfl
     cases po
     ·skip
      have HARM:Hid (∀ (w5:World) (z:Lt),JoinO K d p1.t.v p2.t.v z.v->TyAt w5 (fun b=>(C b/\b<w.heap.size)\/xb<b) z->Below w2.drew.heap.size w2.drew w5 ->
       w5.heap[xb]?=some (.cells #[.string p1.n,.bool false,.bool p1.h,.int .i64 p1.t.v.k,.int .i64 p1.t.v.lo,.int .i64 p1.t.v.hi,.slice p1.t.xd p1.t.v.x.length p1.t.xc,.slice p1.t.td p1.t.v.t.length p1.t.tc,.slice p1.t.fd p1.t.v.f.length p1.t.fc,.string p1.t.v.n,.int .i64 p1.d.v.k,.int .i64 p1.d.v.n,.int .u64 p1.d.v.f,.string p1.d.v.s,.slice p1.d.ad p1.d.v.l.length p1.d.cap,.slice p1.d.bd p1.d.v.e.length p1.d.dap] 65)/\FcAt w5 b2 (o2+i * 16) p2/\w5.cell? ⟨w.heap.size+1,5,none⟩=some (.slice (some ⟨b2,o2,none⟩) nf y.fc)/\(∀ j,w5.frozen? ⟨xb,j,none⟩=false) /\
       (∃ W9,W9=((((((((w5.setCell ⟨xb,1,none⟩ (.bool p2.o)).setCell ⟨xb,3,none⟩ (.int .i64 z.v.k)).setCell ⟨xb,4,none⟩ (.int .i64 z.v.lo)).setCell ⟨xb,5,none⟩ (.int .i64 z.v.hi)).setCell ⟨xb,6,none⟩ (.slice z.xd z.v.x.length z.xc)).setCell ⟨xb,7,none⟩ (.slice z.td z.v.t.length z.tc)).setCell ⟨xb,8,none⟩ (.slice z.fd z.v.f.length z.fc)).setCell ⟨xb,9,none⟩ (.string z.v.n))/\∃ q:Ft,TMade w C xb wr q W9/\FldJ K d y.v.f x0 q.fd)):=hid (fun w5 z hj hz hb5=>by
       have hbx5:=(hb5.block _ HXL2.out).trans HBX.out
       have hend:∀ W:World,W.heap[xb]?=some (.cells #[.string p1.n,.bool p2.o,.bool p1.h,.int .i64 z.v.k,.int .i64 z.v.lo,.int .i64 z.v.hi,.slice z.xd z.v.x.length z.xc,.slice z.td z.v.t.length z.tc,.slice z.fd z.v.f.length z.fc,.string z.v.n,.int .i64 p1.d.v.k,.int .i64 p1.d.v.n,.int .u64 p1.d.v.f,.string p1.d.v.s,.slice p1.d.ad p1.d.v.l.length p1.d.cap,.slice p1.d.bd p1.d.v.e.length p1.d.dap] 65)->w5.grownBy W (some xb)->∃ q:Ft,TMade w C xb wr q W/\FldJ K d y.v.f x0 q.fd:=fun W hc hg=>by
        refine ⟨_,tmade_both hc hg (HB2d.out.trans (hb5.mono (Nat.le_of_lt HXL2.out))) (Nat.le_of_lt (Nat.lt_of_lt_of_le HXL2.out hb5.size)) hz ((HPD.out.keep HFD.out.rb.g).keep hb5) HPK.out hxw,?_⟩
        have e1:x0.o=false:=by rw [<-HP1.out];exact HPO.out
        have e2:y0.o=p2.o:=by rw [<-HP2.out];rfl
        have e3:p1.n=x0.n:=congrArg Fd.n HP1.out
        have e5:p1.t.v=x0.t:=congrArg Fd.t HP1.out
        have e6:p2.t.v=y0.t:=congrArg Fd.t HP2.out
        have e4:=fldj_both HX.out HK.out (List.mem_of_getElem? HX0.out) (by rw [<-e3,HII.out];exact HY0.out) (show JoinO K d x0.t y0.t z.v by rw [<-e5,<-e6];exact hj)
        rw [e1,e2] at e4
        have e7:({ x0 with o:=(false || p2.o),t:=z.v }:Fd Ty)=(⟨p1.n,p2.o,p1.h,z,p1.d⟩:Ft).fd:=by rw [<-HP1.out];rfl
        rw [<-e7];exact e4
       rw [HPO.out] at hbx5
       refine ⟨hbx5,HPC2.out.through (hb5.block _ HBL2.out),?_,fun j=>by simp [World.frozen?,hbx5],?_⟩
       ·obtain ⟨-,-,-,-,-,k5,-,-⟩:=ty_cells (HFD.out.keep hb5).rb.by_
        exact k5
       ·obtain ⟨W9,hW9,hr9,hg9⟩:=fieldT_all (cell_store hbx5 1 (.bool p2.o)) (.int .i64 z.v.k) (.int .i64 z.v.lo) (.int .i64 z.v.hi) (.slice z.xd z.v.x.length z.xc) (.slice z.td z.v.t.length z.tc) (.slice z.fd z.v.f.length z.fc) (.string z.v.n)
        exact ⟨W9,hW9,hend W9 hr9 (grown_trans (grown_cell w5 xb 1 (.bool p2.o)) hg9)⟩)
      have hx1:xb≠w.heap.size+1:=by have h1:=HF2.out.rb.vlt;have h2:=HXB.out;have h3:=HF.out.rb.vlt;omega
      have hx2:xb≠b2:=by have h2:=HXB.out;have h3:=HF.out.rb.g.size;omega
      have HKP:Hid (∀ (W:World) (jj:Nat) (v:Value),World.cell? W ⟨b2,o2+i * 16+1,none⟩=some (.bool p2.o)/\World.cell? W ⟨w.heap.size+1,5,none⟩=some (.slice (some ⟨b2,o2,none⟩) nf y.fc)/\World.cell? W ⟨b2,o2+i * 16+3,none⟩=some (.int .i64 p2.t.v.k)/\World.cell? W ⟨b2,o2+i * 16+4,none⟩=some (.int .i64 p2.t.v.lo)/\World.cell? W ⟨b2,o2+i * 16+5,none⟩=some (.int .i64 p2.t.v.hi)/\World.cell? W ⟨b2,o2+i * 16+6,none⟩=some (.slice p2.t.xd p2.t.v.x.length p2.t.xc)/\World.cell? W ⟨b2,o2+i * 16+7,none⟩=some (.slice p2.t.td p2.t.v.t.length p2.t.tc)/\World.cell? W ⟨b2,o2+i * 16+8,none⟩=some (.slice p2.t.fd p2.t.v.f.length p2.t.fc)/\World.cell? W ⟨b2,o2+i * 16+9,none⟩=some (.string p2.t.v.n)->(jj=1->v=.bool p2.o)->World.cell? (W.setCell ⟨xb,jj,none⟩ v) ⟨b2,o2+i * 16+1,none⟩=some (.bool p2.o)/\World.cell? (W.setCell ⟨xb,jj,none⟩ v) ⟨w.heap.size+1,5,none⟩=some (.slice (some ⟨b2,o2,none⟩) nf y.fc)/\World.cell? (W.setCell ⟨xb,jj,none⟩ v) ⟨b2,o2+i * 16+3,none⟩=some (.int .i64 p2.t.v.k)/\World.cell? (W.setCell ⟨xb,jj,none⟩ v) ⟨b2,o2+i * 16+4,none⟩=some (.int .i64 p2.t.v.lo)/\World.cell? (W.setCell ⟨xb,jj,none⟩ v) ⟨b2,o2+i * 16+5,none⟩=some (.int .i64 p2.t.v.hi)/\World.cell? (W.setCell ⟨xb,jj,none⟩ v) ⟨b2,o2+i * 16+6,none⟩=some (.slice p2.t.xd p2.t.v.x.length p2.t.xc)/\World.cell? (W.setCell ⟨xb,jj,none⟩ v) ⟨b2,o2+i * 16+7,none⟩=some (.slice p2.t.td p2.t.v.t.length p2.t.tc)/\World.cell? (W.setCell ⟨xb,jj,none⟩ v) ⟨b2,o2+i * 16+8,none⟩=some (.slice p2.t.fd p2.t.v.f.length p2.t.fc)/\World.cell? (W.setCell ⟨xb,jj,none⟩ v) ⟨b2,o2+i * 16+9,none⟩=some (.string p2.t.v.n)):=hid (fun W jj v ⟨s0,s1,s2,s3,s4,s5,s6,s7,s8⟩ hv=>by
       have hf:∀ a:Addr,xb≠a.block->(W.setCell ⟨xb,jj,none⟩ v).cell? a=W.cell? a:=fun a ha=>World.cell?_setCell_far W _ a v ha
       refine ⟨?_,(hf _ hx1).trans s1,(hf _ hx2).trans s2,(hf _ hx2).trans s3,(hf _ hx2).trans s4,(hf _ hx2).trans s5,(hf _ hx2).trans s6,(hf _ hx2).trans s7,(hf _ hx2).trans s8⟩
       exact (hf _ hx2).trans s0)
      clear HBX HXL2 HFD HB2d HPC2 HBL2 HPO HP2 HY0 HII HF2 HB2 HPT HPD HPK HP1 HX0
      refine wp_region_held_drew (S:=fun w'=>World.cell? w' ⟨b2,o2+i * 16+1,none⟩=some (.bool p2.o)/\World.cell? w' ⟨w.heap.size+1,5,none⟩=some (.slice (some ⟨b2,o2,none⟩) nf y.fc)/\World.cell? w' ⟨b2,o2+i * 16+3,none⟩=some (.int .i64 p2.t.v.k)/\World.cell? w' ⟨b2,o2+i * 16+4,none⟩=some (.int .i64 p2.t.v.lo)/\World.cell? w' ⟨b2,o2+i * 16+5,none⟩=some (.int .i64 p2.t.v.hi)/\World.cell? w' ⟨b2,o2+i * 16+6,none⟩=some (.slice p2.t.xd p2.t.v.x.length p2.t.xc)/\World.cell? w' ⟨b2,o2+i * 16+7,none⟩=some (.slice p2.t.td p2.t.v.t.length p2.t.tc)/\World.cell? w' ⟨b2,o2+i * 16+8,none⟩=some (.slice p2.t.fd p2.t.v.f.length p2.t.fc)/\World.cell? w' ⟨b2,o2+i * 16+9,none⟩=some (.string p2.t.v.n)) (by kernel_rfl) ⟨d1,b5,d3,d4,d5,d6,d7,d8,d9⟩ (fun hHeld=>?_)
      refine wpAnyH_take (i:=0) (v:=.pointer (some ⟨xb,1,none⟩)) rfl (by kernel_rfl) (by kernel_rfl) (by kernel_rfl) (fun _ _ _ h=>h) (Or.inl ⟨by kernel_rfl,fun w' hSw=>?_⟩) (by assumption) ?_
      ·obtain ⟨s0,s1,s2,s3,s4,s5,s6,s7,s8⟩:=hSw;clear hHeld;go_simp;try rfl
      try simp only [Act.put,Go.setq]
      refine wpAnyH_take (i:=10) (v:=jv) rfl (by kernel_rfl) (by kernel_rfl) (by kernel_rfl) (fun _ _ _ h=>h) (Or.inl ⟨by kernel_rfl,fun w' hSw=>?_⟩) (by assumption) ?_
      ·obtain ⟨s0,s1,s2,s3,s4,s5,s6,s7,s8⟩:=hSw;clear hHeld;go_simp;try rfl
      try simp only [Act.put,Go.setq]
      refine wpAnyH_take (i:=11) (v:=.pointer (some ⟨xb,3,none⟩)) rfl (by kernel_rfl) (by kernel_rfl) (by kernel_rfl) (fun _ _ _ h=>h) (Or.inl ⟨by kernel_rfl,fun w' hSw=>?_⟩) (by assumption) ?_
      ·obtain ⟨s0,s1,s2,s3,s4,s5,s6,s7,s8⟩:=hSw;clear hHeld;go_simp;try rfl
      try simp only [Act.put,Go.setq]
      refine wpAnyH_take (i:=13) (v:=.pointer (some ⟨w.heap.size+1,5,none⟩)) rfl (by kernel_rfl) (by kernel_rfl) (by kernel_rfl) (fun _ _ _ h=>h) (Or.inl ⟨by kernel_rfl,fun w' hSw=>?_⟩) (by assumption) ?_
      ·obtain ⟨s0,s1,s2,s3,s4,s5,s6,s7,s8⟩:=hSw;clear hHeld;go_simp;try rfl
      try simp only [Act.put,Go.setq]
      refine wpAnyH_take (i:=14) (v:=.slice (some ⟨b2,o2,none⟩) nf y.fc) rfl (by kernel_rfl) (by kernel_rfl) (by kernel_rfl) (fun _ _ _ h=>h) (Or.inl ⟨by kernel_rfl,fun w' hSw=>?_⟩) (by assumption) ?_
      ·obtain ⟨s0,s1,s2,s3,s4,s5,s6,s7,s8⟩:=hSw;clear hHeld;go_simp;try rfl
      try simp only [Act.put,Go.setq]
      refine wpAnyH_take (i:=15) (v:=.int .i64 (i:Int)) rfl (by kernel_rfl) (by kernel_rfl) (by kernel_rfl) (fun _ _ _ h=>h) (Or.inl ⟨by kernel_rfl,fun w' hSw=>?_⟩) (by assumption) ?_
      ·obtain ⟨s0,s1,s2,s3,s4,s5,s6,s7,s8⟩:=hSw;clear hHeld;go_simp;try rfl
      try simp only [Act.put,Go.setq]
      refine wpAnyH_take (i:=16) (v:=.pointer (some ⟨b2,o2+i * 16,none⟩)) rfl (by kernel_rfl) (by kernel_rfl) (by kernel_rfl) (fun _ _ _ h=>h) (Or.inl ⟨by kernel_rfl,fun w' hSw=>?_⟩) (by assumption) ?_
      ·obtain ⟨s0,s1,s2,s3,s4,s5,s6,s7,s8⟩:=hSw;clear hHeld;go_simp;try rfl
      try simp only [Act.put,Go.setq]
      refine wpAnyH_take (i:=17) (v:=.pointer (some ⟨b2,o2+i * 16+3,none⟩)) rfl (by kernel_rfl) (by kernel_rfl) (by kernel_rfl) (fun _ _ _ h=>h) (Or.inl ⟨by kernel_rfl,fun w' hSw=>?_⟩) (by assumption) ?_
      ·obtain ⟨s0,s1,s2,s3,s4,s5,s6,s7,s8⟩:=hSw;clear hHeld;go_simp;try rfl
      try simp only [Act.put,Go.setq]
      refine wpAnyH_take (i:=18) (v:=.agg #[.int .i64 p2.t.v.k,.int .i64 p2.t.v.lo,.int .i64 p2.t.v.hi,.slice p2.t.xd p2.t.v.x.length p2.t.xc,.slice p2.t.td p2.t.v.t.length p2.t.tc,.slice p2.t.fd p2.t.v.f.length p2.t.fc,.string p2.t.v.n]) rfl (by kernel_rfl) (by kernel_rfl) (by kernel_rfl) (fun _ _ _ h=>h) (Or.inl ⟨by kernel_rfl,fun w' hSw=>?_⟩) (by assumption) ?_
      ·obtain ⟨s0,s1,s2,s3,s4,s5,s6,s7,s8⟩:=hSw;clear hHeld;go_simp;try rfl
      try simp only [Act.put,Go.setq]
      refine wpAnyH_ready (rs:=[1,12]) (by kernel_rfl) (by simp) ?_
      refine AllReadyH.cons rfl (fun K hK=>?_) (AllReadyH.cons rfl (fun K hK=>?_) AllReadyH.nil)
      ·skip
       go_simp
       refine hK.out _ _ ⟨d1,b5,d3,d4,d5,d6,d7,d8,d9⟩ (fun hHeld=>?_)
       clear hK K
       try simp only [Act.put,Go.setq]
       refine wpAnyH_take (i:=2) (v:=.bool false) rfl (by kernel_rfl) (by kernel_rfl) (by kernel_rfl) (fun _ _ _ h=>h) (Or.inl ⟨by kernel_rfl,fun w' hSw=>?_⟩) (by assumption) ?_
       ·obtain ⟨s0,s1,s2,s3,s4,s5,s6,s7,s8⟩:=hSw;clear hHeld;go_simp;try rfl
       try simp only [Act.put,Go.setq]
       refine wpAnyH_take (i:=3) (v:=.pointer (some ⟨w.heap.size+1,5,none⟩)) rfl (by kernel_rfl) (by kernel_rfl) (by kernel_rfl) (fun _ _ _ h=>h) (Or.inl ⟨by kernel_rfl,fun w' hSw=>?_⟩) (by assumption) ?_
       ·obtain ⟨s0,s1,s2,s3,s4,s5,s6,s7,s8⟩:=hSw;clear hHeld;go_simp;try rfl
       try simp only [Act.put,Go.setq]
       refine wpAnyH_take (i:=4) (v:=.slice (some ⟨b2,o2,none⟩) nf y.fc) rfl (by kernel_rfl) (by kernel_rfl) (by kernel_rfl) (fun _ _ _ h=>h) (Or.inl ⟨by kernel_rfl,fun w' hSw=>?_⟩) (by assumption) ?_
       ·obtain ⟨s0,s1,s2,s3,s4,s5,s6,s7,s8⟩:=hSw;clear hHeld;go_simp;try rfl
       try simp only [Act.put,Go.setq]
       refine wpAnyH_take (i:=5) (v:=.int .i64 (i:Int)) rfl (by kernel_rfl) (by kernel_rfl) (by kernel_rfl) (fun _ _ _ h=>h) (Or.inl ⟨by kernel_rfl,fun w' hSw=>?_⟩) (by assumption) ?_
       ·obtain ⟨s0,s1,s2,s3,s4,s5,s6,s7,s8⟩:=hSw;clear hHeld;go_simp;try rfl
       try simp only [Act.put,Go.setq]
       refine wpAnyH_take (i:=6) (v:=.pointer (some ⟨b2,o2+i * 16,none⟩)) rfl (by kernel_rfl) (by kernel_rfl) (by kernel_rfl) (fun _ _ _ h=>h) (Or.inl ⟨by kernel_rfl,fun w' hSw=>?_⟩) (by assumption) ?_
       ·obtain ⟨s0,s1,s2,s3,s4,s5,s6,s7,s8⟩:=hSw;clear hHeld;go_simp;try rfl
       try simp only [Act.put,Go.setq]
       refine wpAnyH_take (i:=7) (v:=.pointer (some ⟨b2,o2+i * 16+1,none⟩)) rfl (by kernel_rfl) (by kernel_rfl) (by kernel_rfl) (fun _ _ _ h=>h) (Or.inl ⟨by kernel_rfl,fun w' hSw=>?_⟩) (by assumption) ?_
       ·obtain ⟨s0,s1,s2,s3,s4,s5,s6,s7,s8⟩:=hSw;clear hHeld;go_simp;try rfl
       try simp only [Act.put,Go.setq]
       refine wpAnyH_take (i:=8) (v:=.bool p2.o) rfl (by kernel_rfl) (by kernel_rfl) (by kernel_rfl) (fun _ _ _ h=>h) (Or.inl ⟨by kernel_rfl,fun w' hSw=>?_⟩) (by assumption) ?_
       ·obtain ⟨s0,s1,s2,s3,s4,s5,s6,s7,s8⟩:=hSw;clear hHeld;go_simp;try rfl
       try simp only [Act.put,Go.setq]
       refine wpAnyH_take (i:=9) (v:=.bool p2.o) rfl (by kernel_rfl) (by kernel_rfl) (by kernel_rfl) (fun _ _ _ h=>h) (Or.inl ⟨by kernel_rfl,fun w' hSw=>?_⟩) (by assumption) ?_
       ·obtain ⟨s0,s1,s2,s3,s4,s5,s6,s7,s8⟩:=hSw;clear hHeld;go_simp;try rfl
       try simp only [Act.put,Go.setq]
       refine wpAnyH_ready (rs:=[12]) (by kernel_rfl) (by simp) ?_
       refine AllReadyH.cons rfl (fun K hK=>?_) AllReadyH.nil
       go_simp
       refine hK.out _ _ ⟨d1,b5,d3,d4,d5,d6,d7,d8,d9⟩ (fun hHeld=>?_)
       clear hK K
       try simp only [Act.put,Go.setq]
       refine wpAnyH_take (i:=20) (v:=.pointer (some ⟨xb,1,none⟩)) rfl (by kernel_rfl) (by kernel_rfl) (by kernel_rfl) (fun _ _ _ h=>h) (Or.inl ⟨by kernel_rfl,fun w' hSw=>?_⟩) (by assumption) ?_
       ·clear hHeld hSw;go_simp;try rfl
       try simp only [Act.put,Go.setq]
       refine wpAnyH_ready (rs:=[19]) (by kernel_rfl) (by simp) ?_
       refine AllReadyH.cons rfl (fun K hK=>?_) AllReadyH.nil
       go_simp
       (with_reducible refine HJC.out.mono ?_)
       rintro e w5 ⟨z,rfl,hj,hz,hb5⟩
       obtain ⟨hbx5,hpc5,k5,pf,⟨W9,hW9,hq9⟩⟩:=HARM.out w5 z hj hz hb5
       obtain ⟨f0,f1,f2,f3,f4,f5,f6,f7,f8,f9,f10,f11,f12,f13,f14,f15⟩:=field_cells hbx5
       obtain ⟨g0,g1,g2,g3,g4,g5,g6,g7,g8,g9,g10,g11,g12,g13,g14,g15⟩:=hpc5
       have pf1:=pf 1
       have pf3:=pf 3
       have pf4:=pf 4
       have pf5:=pf 5
       have pf6:=pf 6
       have pf7:=pf 7
       have pf8:=pf 8
       have pf9:=pf 9
       have HQ9:=hid hq9
       have HW9:=hid hW9
       clear pf hW9 hq9 hb5 hj hz hbx5 hHeld
       try simp only [Lt.val]
       refine hK.out _ _ ⟨g1,k5,g3,g4,g5,g6,g7,g8,g9⟩ (fun hHeld=>?_)
       clear hK K
       try simp only [Act.put,Go.setq]
       refine wpAnyH_ready (rs:=[21]) (by kernel_rfl) (by simp) ?_
       refine AllReadyH.cons rfl (fun K hK=>?_) AllReadyH.nil
       go_simp
       refine hK.out _ _ (HKP.out _ _ _ hHeld (fun _=>rfl)) (fun hHeld2=>?_)
       clear hK K
       try simp only [Act.put,Go.setq]
       refine wpAnyH_take (i:=22) (v:=.pointer (some ⟨xb,3,none⟩)) rfl (by kernel_rfl) (by kernel_rfl) (by kernel_rfl) (fun _ _ _ h=>h) (Or.inl ⟨by kernel_rfl,fun w' hSw=>?_⟩) (by assumption) ?_
       ·clear hHeld hSw;go_simp;try rfl
       try simp only [Act.put,Go.setq]
       refine wpAnyH_ready (rs:=[23]) (by kernel_rfl) (by simp) ?_
       refine AllReadyH.cons rfl (fun K hK=>?_) AllReadyH.nil
       go_simp
       refine hK.out _ _ (HKP.out _ _ _ (HKP.out _ _ _ (HKP.out _ _ _ (HKP.out _ _ _ (HKP.out _ _ _ (HKP.out _ _ _ (HKP.out _ _ _ hHeld2 (fun h=>absurd h (by decide))) (fun h=>absurd h (by decide))) (fun h=>absurd h (by decide))) (fun h=>absurd h (by decide))) (fun h=>absurd h (by decide))) (fun h=>absurd h (by decide))) (fun h=>absurd h (by decide))) (fun hHeld3=>?_)
       clear hK K
       try simp only [Act.put,Go.setq]
       refine wpAnyH_done (by kernel_rfl) ?_ _
       rw [<-HW9.out];go_wp2_with fail;go_meet;exact ⟨rfl,HQ9⟩
      ·skip
       go_simp
       refine hK.out _ _ ⟨d1,b5,d3,d4,d5,d6,d7,d8,d9⟩ (fun hHeld=>?_)
       clear hK K
       try simp only [Act.put,Go.setq]
       refine wpAnyH_ready (rs:=[1]) (by kernel_rfl) (by simp) ?_
       refine AllReadyH.cons rfl (fun K hK=>?_) AllReadyH.nil
       go_simp
       refine hK.out _ _ ⟨d1,b5,d3,d4,d5,d6,d7,d8,d9⟩ (fun hHeld=>?_)
       clear hK K
       try simp only [Act.put,Go.setq]
       refine wpAnyH_take (i:=2) (v:=.bool false) rfl (by kernel_rfl) (by kernel_rfl) (by kernel_rfl) (fun _ _ _ h=>h) (Or.inl ⟨by kernel_rfl,fun w' hSw=>?_⟩) (by assumption) ?_
       ·obtain ⟨s0,s1,s2,s3,s4,s5,s6,s7,s8⟩:=hSw;clear hHeld;go_simp;try rfl
       try simp only [Act.put,Go.setq]
       refine wpAnyH_take (i:=3) (v:=.pointer (some ⟨w.heap.size+1,5,none⟩)) rfl (by kernel_rfl) (by kernel_rfl) (by kernel_rfl) (fun _ _ _ h=>h) (Or.inl ⟨by kernel_rfl,fun w' hSw=>?_⟩) (by assumption) ?_
       ·obtain ⟨s0,s1,s2,s3,s4,s5,s6,s7,s8⟩:=hSw;clear hHeld;go_simp;try rfl
       try simp only [Act.put,Go.setq]
       refine wpAnyH_take (i:=4) (v:=.slice (some ⟨b2,o2,none⟩) nf y.fc) rfl (by kernel_rfl) (by kernel_rfl) (by kernel_rfl) (fun _ _ _ h=>h) (Or.inl ⟨by kernel_rfl,fun w' hSw=>?_⟩) (by assumption) ?_
       ·obtain ⟨s0,s1,s2,s3,s4,s5,s6,s7,s8⟩:=hSw;clear hHeld;go_simp;try rfl
       try simp only [Act.put,Go.setq]
       refine wpAnyH_take (i:=5) (v:=.int .i64 (i:Int)) rfl (by kernel_rfl) (by kernel_rfl) (by kernel_rfl) (fun _ _ _ h=>h) (Or.inl ⟨by kernel_rfl,fun w' hSw=>?_⟩) (by assumption) ?_
       ·obtain ⟨s0,s1,s2,s3,s4,s5,s6,s7,s8⟩:=hSw;clear hHeld;go_simp;try rfl
       try simp only [Act.put,Go.setq]
       refine wpAnyH_take (i:=6) (v:=.pointer (some ⟨b2,o2+i * 16,none⟩)) rfl (by kernel_rfl) (by kernel_rfl) (by kernel_rfl) (fun _ _ _ h=>h) (Or.inl ⟨by kernel_rfl,fun w' hSw=>?_⟩) (by assumption) ?_
       ·obtain ⟨s0,s1,s2,s3,s4,s5,s6,s7,s8⟩:=hSw;clear hHeld;go_simp;try rfl
       try simp only [Act.put,Go.setq]
       refine wpAnyH_take (i:=7) (v:=.pointer (some ⟨b2,o2+i * 16+1,none⟩)) rfl (by kernel_rfl) (by kernel_rfl) (by kernel_rfl) (fun _ _ _ h=>h) (Or.inl ⟨by kernel_rfl,fun w' hSw=>?_⟩) (by assumption) ?_
       ·obtain ⟨s0,s1,s2,s3,s4,s5,s6,s7,s8⟩:=hSw;clear hHeld;go_simp;try rfl
       try simp only [Act.put,Go.setq]
       refine wpAnyH_take (i:=8) (v:=.bool p2.o) rfl (by kernel_rfl) (by kernel_rfl) (by kernel_rfl) (fun _ _ _ h=>h) (Or.inl ⟨by kernel_rfl,fun w' hSw=>?_⟩) (by assumption) ?_
       ·obtain ⟨s0,s1,s2,s3,s4,s5,s6,s7,s8⟩:=hSw;clear hHeld;go_simp;try rfl
       try simp only [Act.put,Go.setq]
       refine wpAnyH_take (i:=9) (v:=.bool p2.o) rfl (by kernel_rfl) (by kernel_rfl) (by kernel_rfl) (fun _ _ _ h=>h) (Or.inl ⟨by kernel_rfl,fun w' hSw=>?_⟩) (by assumption) ?_
       ·obtain ⟨s0,s1,s2,s3,s4,s5,s6,s7,s8⟩:=hSw;clear hHeld;go_simp;try rfl
       try simp only [Act.put,Go.setq]
       refine wpAnyH_take (i:=20) (v:=.pointer (some ⟨xb,1,none⟩)) rfl (by kernel_rfl) (by kernel_rfl) (by kernel_rfl) (fun _ _ _ h=>h) (Or.inl ⟨by kernel_rfl,fun w' hSw=>?_⟩) (by assumption) ?_
       ·clear hHeld hSw;go_simp;try rfl
       try simp only [Act.put,Go.setq]
       refine wpAnyH_ready (rs:=[19]) (by kernel_rfl) (by simp) ?_
       refine AllReadyH.cons rfl (fun K hK=>?_) AllReadyH.nil
       go_simp
       (with_reducible refine HJC.out.mono ?_)
       rintro e w5 ⟨z,rfl,hj,hz,hb5⟩
       obtain ⟨hbx5,hpc5,k5,pf,⟨W9,hW9,hq9⟩⟩:=HARM.out w5 z hj hz hb5
       obtain ⟨f0,f1,f2,f3,f4,f5,f6,f7,f8,f9,f10,f11,f12,f13,f14,f15⟩:=field_cells hbx5
       obtain ⟨g0,g1,g2,g3,g4,g5,g6,g7,g8,g9,g10,g11,g12,g13,g14,g15⟩:=hpc5
       have pf1:=pf 1
       have pf3:=pf 3
       have pf4:=pf 4
       have pf5:=pf 5
       have pf6:=pf 6
       have pf7:=pf 7
       have pf8:=pf 8
       have pf9:=pf 9
       have HQ9:=hid hq9
       have HW9:=hid hW9
       clear pf hW9 hq9 hb5 hj hz hbx5 hHeld
       try simp only [Lt.val]
       refine hK.out _ _ ⟨g1,k5,g3,g4,g5,g6,g7,g8,g9⟩ (fun hHeld=>?_)
       clear hK K
       try simp only [Act.put,Go.setq]
       refine wpAnyH_ready (rs:=[21]) (by kernel_rfl) (by simp) ?_
       refine AllReadyH.cons rfl (fun K hK=>?_) AllReadyH.nil
       go_simp
       refine hK.out _ _ (HKP.out _ _ _ hHeld (fun _=>rfl)) (fun hHeld2=>?_)
       clear hK K
       try simp only [Act.put,Go.setq]
       refine wpAnyH_take (i:=22) (v:=.pointer (some ⟨xb,3,none⟩)) rfl (by kernel_rfl) (by kernel_rfl) (by kernel_rfl) (fun _ _ _ h=>h) (Or.inl ⟨by kernel_rfl,fun w' hSw=>?_⟩) (by assumption) ?_
       ·clear hHeld hSw;go_simp;try rfl
       try simp only [Act.put,Go.setq]
       refine wpAnyH_ready (rs:=[23]) (by kernel_rfl) (by simp) ?_
       refine AllReadyH.cons rfl (fun K hK=>?_) AllReadyH.nil
       go_simp
       refine hK.out _ _ (HKP.out _ _ _ (HKP.out _ _ _ (HKP.out _ _ _ (HKP.out _ _ _ (HKP.out _ _ _ (HKP.out _ _ _ (HKP.out _ _ _ hHeld2 (fun h=>absurd h (by decide))) (fun h=>absurd h (by decide))) (fun h=>absurd h (by decide))) (fun h=>absurd h (by decide))) (fun h=>absurd h (by decide))) (fun h=>absurd h (by decide))) (fun h=>absurd h (by decide))) (fun hHeld3=>?_)
       clear hK K
       try simp only [Act.put,Go.setq]
       refine wpAnyH_done (by kernel_rfl) ?_ _
       rw [<-HW9.out];go_wp2_with fail;go_meet;exact ⟨rfl,HQ9⟩
     ·skip
      have HARM:Hid (∀ (w5:World) (z:Lt),JoinO K d p1.t.v p2.t.v z.v->TyAt w5 (fun b=>(C b/\b<w.heap.size)\/xb<b) z->Below w2.drew.heap.size w2.drew w5 ->
       w5.heap[xb]?=some (.cells #[.string p1.n,.bool true,.bool p1.h,.int .i64 p1.t.v.k,.int .i64 p1.t.v.lo,.int .i64 p1.t.v.hi,.slice p1.t.xd p1.t.v.x.length p1.t.xc,.slice p1.t.td p1.t.v.t.length p1.t.tc,.slice p1.t.fd p1.t.v.f.length p1.t.fc,.string p1.t.v.n,.int .i64 p1.d.v.k,.int .i64 p1.d.v.n,.int .u64 p1.d.v.f,.string p1.d.v.s,.slice p1.d.ad p1.d.v.l.length p1.d.cap,.slice p1.d.bd p1.d.v.e.length p1.d.dap] 65)/\FcAt w5 b2 (o2+i * 16) p2/\w5.cell? ⟨w.heap.size+1,5,none⟩=some (.slice (some ⟨b2,o2,none⟩) nf y.fc)/\(∀ j,w5.frozen? ⟨xb,j,none⟩=false) /\
       (∃ W9,W9=((((((((w5.setCell ⟨xb,1,none⟩ (.bool true)).setCell ⟨xb,3,none⟩ (.int .i64 z.v.k)).setCell ⟨xb,4,none⟩ (.int .i64 z.v.lo)).setCell ⟨xb,5,none⟩ (.int .i64 z.v.hi)).setCell ⟨xb,6,none⟩ (.slice z.xd z.v.x.length z.xc)).setCell ⟨xb,7,none⟩ (.slice z.td z.v.t.length z.tc)).setCell ⟨xb,8,none⟩ (.slice z.fd z.v.f.length z.fc)).setCell ⟨xb,9,none⟩ (.string z.v.n))/\∃ q:Ft,TMade w C xb wr q W9/\FldJ K d y.v.f x0 q.fd)):=hid (fun w5 z hj hz hb5=>by
       have hbx5:=(hb5.block _ HXL2.out).trans HBX.out
       have hend:∀ W:World,W.heap[xb]?=some (.cells #[.string p1.n,.bool true,.bool p1.h,.int .i64 z.v.k,.int .i64 z.v.lo,.int .i64 z.v.hi,.slice z.xd z.v.x.length z.xc,.slice z.td z.v.t.length z.tc,.slice z.fd z.v.f.length z.fc,.string z.v.n,.int .i64 p1.d.v.k,.int .i64 p1.d.v.n,.int .u64 p1.d.v.f,.string p1.d.v.s,.slice p1.d.ad p1.d.v.l.length p1.d.cap,.slice p1.d.bd p1.d.v.e.length p1.d.dap] 65)->w5.grownBy W (some xb)->∃ q:Ft,TMade w C xb wr q W/\FldJ K d y.v.f x0 q.fd:=fun W hc hg=>by
        refine ⟨_,tmade_both hc hg (HB2d.out.trans (hb5.mono (Nat.le_of_lt HXL2.out))) (Nat.le_of_lt (Nat.lt_of_lt_of_le HXL2.out hb5.size)) hz ((HPD.out.keep HFD.out.rb.g).keep hb5) HPK.out hxw,?_⟩
        have e1:x0.o=true:=by rw [<-HP1.out];exact HPO.out
        have e2:y0.o=p2.o:=by rw [<-HP2.out];rfl
        have e3:p1.n=x0.n:=congrArg Fd.n HP1.out
        have e5:p1.t.v=x0.t:=congrArg Fd.t HP1.out
        have e6:p2.t.v=y0.t:=congrArg Fd.t HP2.out
        have e4:=fldj_both HX.out HK.out (List.mem_of_getElem? HX0.out) (by rw [<-e3,HII.out];exact HY0.out) (show JoinO K d x0.t y0.t z.v by rw [<-e5,<-e6];exact hj)
        rw [e1,e2] at e4
        have e7:({ x0 with o:=(true || p2.o),t:=z.v }:Fd Ty)=(⟨p1.n,true,p1.h,z,p1.d⟩:Ft).fd:=by rw [<-HP1.out];rfl
        rw [<-e7];exact e4
       rw [HPO.out] at hbx5
       refine ⟨hbx5,HPC2.out.through (hb5.block _ HBL2.out),?_,fun j=>by simp [World.frozen?,hbx5],?_⟩
       ·obtain ⟨-,-,-,-,-,k5,-,-⟩:=ty_cells (HFD.out.keep hb5).rb.by_
        exact k5
       ·obtain ⟨W9,hW9,hr9,hg9⟩:=fieldT_all (cell_store hbx5 1 (.bool true)) (.int .i64 z.v.k) (.int .i64 z.v.lo) (.int .i64 z.v.hi) (.slice z.xd z.v.x.length z.xc) (.slice z.td z.v.t.length z.tc) (.slice z.fd z.v.f.length z.fc) (.string z.v.n)
        exact ⟨W9,hW9,hend W9 hr9 (grown_trans (grown_cell w5 xb 1 (.bool true)) hg9)⟩)
      have hx1:xb≠w.heap.size+1:=by have h1:=HF2.out.rb.vlt;have h2:=HXB.out;have h3:=HF.out.rb.vlt;omega
      have hx2:xb≠b2:=by have h2:=HXB.out;have h3:=HF.out.rb.g.size;omega
      have HKP:Hid (∀ (W:World) (jj:Nat) (v:Value),World.cell? W ⟨xb,1,none⟩=some (.bool true)/\World.cell? W ⟨w.heap.size+1,5,none⟩=some (.slice (some ⟨b2,o2,none⟩) nf y.fc)/\World.cell? W ⟨b2,o2+i * 16+3,none⟩=some (.int .i64 p2.t.v.k)/\World.cell? W ⟨b2,o2+i * 16+4,none⟩=some (.int .i64 p2.t.v.lo)/\World.cell? W ⟨b2,o2+i * 16+5,none⟩=some (.int .i64 p2.t.v.hi)/\World.cell? W ⟨b2,o2+i * 16+6,none⟩=some (.slice p2.t.xd p2.t.v.x.length p2.t.xc)/\World.cell? W ⟨b2,o2+i * 16+7,none⟩=some (.slice p2.t.td p2.t.v.t.length p2.t.tc)/\World.cell? W ⟨b2,o2+i * 16+8,none⟩=some (.slice p2.t.fd p2.t.v.f.length p2.t.fc)/\World.cell? W ⟨b2,o2+i * 16+9,none⟩=some (.string p2.t.v.n)->(jj=1->v=.bool true)->World.cell? (W.setCell ⟨xb,jj,none⟩ v) ⟨xb,1,none⟩=some (.bool true)/\World.cell? (W.setCell ⟨xb,jj,none⟩ v) ⟨w.heap.size+1,5,none⟩=some (.slice (some ⟨b2,o2,none⟩) nf y.fc)/\World.cell? (W.setCell ⟨xb,jj,none⟩ v) ⟨b2,o2+i * 16+3,none⟩=some (.int .i64 p2.t.v.k)/\World.cell? (W.setCell ⟨xb,jj,none⟩ v) ⟨b2,o2+i * 16+4,none⟩=some (.int .i64 p2.t.v.lo)/\World.cell? (W.setCell ⟨xb,jj,none⟩ v) ⟨b2,o2+i * 16+5,none⟩=some (.int .i64 p2.t.v.hi)/\World.cell? (W.setCell ⟨xb,jj,none⟩ v) ⟨b2,o2+i * 16+6,none⟩=some (.slice p2.t.xd p2.t.v.x.length p2.t.xc)/\World.cell? (W.setCell ⟨xb,jj,none⟩ v) ⟨b2,o2+i * 16+7,none⟩=some (.slice p2.t.td p2.t.v.t.length p2.t.tc)/\World.cell? (W.setCell ⟨xb,jj,none⟩ v) ⟨b2,o2+i * 16+8,none⟩=some (.slice p2.t.fd p2.t.v.f.length p2.t.fc)/\World.cell? (W.setCell ⟨xb,jj,none⟩ v) ⟨b2,o2+i * 16+9,none⟩=some (.string p2.t.v.n)):=hid (fun W jj v ⟨s0,s1,s2,s3,s4,s5,s6,s7,s8⟩ hv=>by
       have hf:∀ a:Addr,xb≠a.block->(W.setCell ⟨xb,jj,none⟩ v).cell? a=W.cell? a:=fun a ha=>World.cell?_setCell_far W _ a v ha
       refine ⟨?_,(hf _ hx1).trans s1,(hf _ hx2).trans s2,(hf _ hx2).trans s3,(hf _ hx2).trans s4,(hf _ hx2).trans s5,(hf _ hx2).trans s6,(hf _ hx2).trans s7,(hf _ hx2).trans s8⟩
       by_cases hj:jj=1
       ·subst hj;rw [hv rfl];exact World.cell?_setCell_same _ _ _ s0
       ·exact (World.cell?_setCell_other _ _ _ _ (fun e=>hj (by injection e))).trans s0)
      clear HBX HXL2 HFD HB2d HPC2 HBL2 HPO HP2 HY0 HII HF2 HB2 HPT HPD HPK HP1 HX0
      refine wp_region_held_drew (S:=fun w'=>World.cell? w' ⟨xb,1,none⟩=some (.bool true)/\World.cell? w' ⟨w.heap.size+1,5,none⟩=some (.slice (some ⟨b2,o2,none⟩) nf y.fc)/\World.cell? w' ⟨b2,o2+i * 16+3,none⟩=some (.int .i64 p2.t.v.k)/\World.cell? w' ⟨b2,o2+i * 16+4,none⟩=some (.int .i64 p2.t.v.lo)/\World.cell? w' ⟨b2,o2+i * 16+5,none⟩=some (.int .i64 p2.t.v.hi)/\World.cell? w' ⟨b2,o2+i * 16+6,none⟩=some (.slice p2.t.xd p2.t.v.x.length p2.t.xc)/\World.cell? w' ⟨b2,o2+i * 16+7,none⟩=some (.slice p2.t.td p2.t.v.t.length p2.t.tc)/\World.cell? w' ⟨b2,o2+i * 16+8,none⟩=some (.slice p2.t.fd p2.t.v.f.length p2.t.fc)/\World.cell? w' ⟨b2,o2+i * 16+9,none⟩=some (.string p2.t.v.n)) (by kernel_rfl) ⟨e1,b5,d3,d4,d5,d6,d7,d8,d9⟩ (fun hHeld=>?_)
      refine wpAnyH_take (i:=0) (v:=.pointer (some ⟨xb,1,none⟩)) rfl (by kernel_rfl) (by kernel_rfl) (by kernel_rfl) (fun _ _ _ h=>h) (Or.inl ⟨by kernel_rfl,fun w' hSw=>?_⟩) (by assumption) ?_
      ·obtain ⟨s0,s1,s2,s3,s4,s5,s6,s7,s8⟩:=hSw;clear hHeld;go_simp;try rfl
      try simp only [Act.put,Go.setq]
      refine wpAnyH_take (i:=1) (v:=.bool true) rfl (by kernel_rfl) (by kernel_rfl) (by kernel_rfl) (fun _ _ _ h=>h) (Or.inl ⟨by kernel_rfl,fun w' hSw=>?_⟩) (by assumption) ?_
      ·obtain ⟨s0,s1,s2,s3,s4,s5,s6,s7,s8⟩:=hSw;clear hHeld;go_simp;try rfl
      try simp only [Act.put,Go.setq]
      refine wpAnyH_take (i:=2) (v:=.bool true) rfl (by kernel_rfl) (by kernel_rfl) (by kernel_rfl) (fun _ _ _ h=>h) (Or.inl ⟨by kernel_rfl,fun w' hSw=>?_⟩) (by assumption) ?_
      ·obtain ⟨s0,s1,s2,s3,s4,s5,s6,s7,s8⟩:=hSw;clear hHeld;go_simp;try rfl
      try simp only [Act.put,Go.setq]
      refine wpAnyH_take (i:=3) (v:=undef) rfl (by kernel_rfl) (by kernel_rfl) (by kernel_rfl) (fun _ _ _ h=>h) (Or.inr ⟨by kernel_rfl,rfl⟩) (by assumption) ?_
      try simp only [Act.put,Go.setq]
      refine wpAnyH_take (i:=4) (v:=undef) rfl (by kernel_rfl) (by kernel_rfl) (by kernel_rfl) (fun _ _ _ h=>h) (Or.inr ⟨by kernel_rfl,rfl⟩) (by assumption) ?_
      try simp only [Act.put,Go.setq]
      refine wpAnyH_take (i:=5) (v:=undef) rfl (by kernel_rfl) (by kernel_rfl) (by kernel_rfl) (fun _ _ _ h=>h) (Or.inr ⟨by kernel_rfl,rfl⟩) (by assumption) ?_
      try simp only [Act.put,Go.setq]
      refine wpAnyH_take (i:=6) (v:=undef) rfl (by kernel_rfl) (by kernel_rfl) (by kernel_rfl) (fun _ _ _ h=>h) (Or.inr ⟨by kernel_rfl,rfl⟩) (by assumption) ?_
      try simp only [Act.put,Go.setq]
      refine wpAnyH_take (i:=7) (v:=undef) rfl (by kernel_rfl) (by kernel_rfl) (by kernel_rfl) (fun _ _ _ h=>h) (Or.inr ⟨by kernel_rfl,rfl⟩) (by assumption) ?_
      try simp only [Act.put,Go.setq]
      refine wpAnyH_take (i:=8) (v:=undef) rfl (by kernel_rfl) (by kernel_rfl) (by kernel_rfl) (fun _ _ _ h=>h) (Or.inr ⟨by kernel_rfl,rfl⟩) (by assumption) ?_
      try simp only [Act.put,Go.setq]
      refine wpAnyH_take (i:=9) (v:=.bool true) rfl (by kernel_rfl) (by kernel_rfl) (by kernel_rfl) (fun _ _ _ h=>h) (Or.inl ⟨by kernel_rfl,fun w' hSw=>?_⟩) (by assumption) ?_
      ·obtain ⟨s0,s1,s2,s3,s4,s5,s6,s7,s8⟩:=hSw;clear hHeld;go_simp;try rfl
      try simp only [Act.put,Go.setq]
      refine wpAnyH_take (i:=10) (v:=jv) rfl (by kernel_rfl) (by kernel_rfl) (by kernel_rfl) (fun _ _ _ h=>h) (Or.inl ⟨by kernel_rfl,fun w' hSw=>?_⟩) (by assumption) ?_
      ·obtain ⟨s0,s1,s2,s3,s4,s5,s6,s7,s8⟩:=hSw;clear hHeld;go_simp;try rfl
      try simp only [Act.put,Go.setq]
      refine wpAnyH_take (i:=11) (v:=.pointer (some ⟨xb,3,none⟩)) rfl (by kernel_rfl) (by kernel_rfl) (by kernel_rfl) (fun _ _ _ h=>h) (Or.inl ⟨by kernel_rfl,fun w' hSw=>?_⟩) (by assumption) ?_
      ·obtain ⟨s0,s1,s2,s3,s4,s5,s6,s7,s8⟩:=hSw;clear hHeld;go_simp;try rfl
      try simp only [Act.put,Go.setq]
      refine wpAnyH_take (i:=13) (v:=.pointer (some ⟨w.heap.size+1,5,none⟩)) rfl (by kernel_rfl) (by kernel_rfl) (by kernel_rfl) (fun _ _ _ h=>h) (Or.inl ⟨by kernel_rfl,fun w' hSw=>?_⟩) (by assumption) ?_
      ·obtain ⟨s0,s1,s2,s3,s4,s5,s6,s7,s8⟩:=hSw;clear hHeld;go_simp;try rfl
      try simp only [Act.put,Go.setq]
      refine wpAnyH_take (i:=14) (v:=.slice (some ⟨b2,o2,none⟩) nf y.fc) rfl (by kernel_rfl) (by kernel_rfl) (by kernel_rfl) (fun _ _ _ h=>h) (Or.inl ⟨by kernel_rfl,fun w' hSw=>?_⟩) (by assumption) ?_
      ·obtain ⟨s0,s1,s2,s3,s4,s5,s6,s7,s8⟩:=hSw;clear hHeld;go_simp;try rfl
      try simp only [Act.put,Go.setq]
      refine wpAnyH_take (i:=15) (v:=.int .i64 (i:Int)) rfl (by kernel_rfl) (by kernel_rfl) (by kernel_rfl) (fun _ _ _ h=>h) (Or.inl ⟨by kernel_rfl,fun w' hSw=>?_⟩) (by assumption) ?_
      ·obtain ⟨s0,s1,s2,s3,s4,s5,s6,s7,s8⟩:=hSw;clear hHeld;go_simp;try rfl
      try simp only [Act.put,Go.setq]
      refine wpAnyH_take (i:=16) (v:=.pointer (some ⟨b2,o2+i * 16,none⟩)) rfl (by kernel_rfl) (by kernel_rfl) (by kernel_rfl) (fun _ _ _ h=>h) (Or.inl ⟨by kernel_rfl,fun w' hSw=>?_⟩) (by assumption) ?_
      ·obtain ⟨s0,s1,s2,s3,s4,s5,s6,s7,s8⟩:=hSw;clear hHeld;go_simp;try rfl
      try simp only [Act.put,Go.setq]
      refine wpAnyH_take (i:=17) (v:=.pointer (some ⟨b2,o2+i * 16+3,none⟩)) rfl (by kernel_rfl) (by kernel_rfl) (by kernel_rfl) (fun _ _ _ h=>h) (Or.inl ⟨by kernel_rfl,fun w' hSw=>?_⟩) (by assumption) ?_
      ·obtain ⟨s0,s1,s2,s3,s4,s5,s6,s7,s8⟩:=hSw;clear hHeld;go_simp;try rfl
      try simp only [Act.put,Go.setq]
      refine wpAnyH_take (i:=18) (v:=.agg #[.int .i64 p2.t.v.k,.int .i64 p2.t.v.lo,.int .i64 p2.t.v.hi,.slice p2.t.xd p2.t.v.x.length p2.t.xc,.slice p2.t.td p2.t.v.t.length p2.t.tc,.slice p2.t.fd p2.t.v.f.length p2.t.fc,.string p2.t.v.n]) rfl (by kernel_rfl) (by kernel_rfl) (by kernel_rfl) (fun _ _ _ h=>h) (Or.inl ⟨by kernel_rfl,fun w' hSw=>?_⟩) (by assumption) ?_
      ·obtain ⟨s0,s1,s2,s3,s4,s5,s6,s7,s8⟩:=hSw;clear hHeld;go_simp;try rfl
      try simp only [Act.put,Go.setq]
      refine wpAnyH_ready (rs:=[12]) (by kernel_rfl) (by simp) ?_
      refine AllReadyH.cons rfl (fun K hK=>?_) AllReadyH.nil
      go_simp
      refine hK.out _ _ ⟨e1,b5,d3,d4,d5,d6,d7,d8,d9⟩ (fun hHeld=>?_)
      clear hK K
      try simp only [Act.put,Go.setq]
      refine wpAnyH_take (i:=20) (v:=.pointer (some ⟨xb,1,none⟩)) rfl (by kernel_rfl) (by kernel_rfl) (by kernel_rfl) (fun _ _ _ h=>h) (Or.inl ⟨by kernel_rfl,fun w' hSw=>?_⟩) (by assumption) ?_
      ·clear hHeld hSw;go_simp;try rfl
      try simp only [Act.put,Go.setq]
      refine wpAnyH_ready (rs:=[19]) (by kernel_rfl) (by simp) ?_
      refine AllReadyH.cons rfl (fun K hK=>?_) AllReadyH.nil
      go_simp
      (with_reducible refine HJC.out.mono ?_)
      rintro e w5 ⟨z,rfl,hj,hz,hb5⟩
      obtain ⟨hbx5,hpc5,k5,pf,⟨W9,hW9,hq9⟩⟩:=HARM.out w5 z hj hz hb5
      obtain ⟨f0,f1,f2,f3,f4,f5,f6,f7,f8,f9,f10,f11,f12,f13,f14,f15⟩:=field_cells hbx5
      obtain ⟨g0,g1,g2,g3,g4,g5,g6,g7,g8,g9,g10,g11,g12,g13,g14,g15⟩:=hpc5
      have pf1:=pf 1
      have pf3:=pf 3
      have pf4:=pf 4
      have pf5:=pf 5
      have pf6:=pf 6
      have pf7:=pf 7
      have pf8:=pf 8
      have pf9:=pf 9
      have HQ9:=hid hq9
      have HW9:=hid hW9
      clear pf hW9 hq9 hb5 hj hz hbx5 hHeld
      try simp only [Lt.val]
      refine hK.out _ _ ⟨f1,k5,g3,g4,g5,g6,g7,g8,g9⟩ (fun hHeld=>?_)
      clear hK K
      try simp only [Act.put,Go.setq]
      refine wpAnyH_ready (rs:=[21]) (by kernel_rfl) (by simp) ?_
      refine AllReadyH.cons rfl (fun K hK=>?_) AllReadyH.nil
      go_simp
      refine hK.out _ _ (HKP.out _ _ _ hHeld (fun _=>rfl)) (fun hHeld2=>?_)
      clear hK K
      try simp only [Act.put,Go.setq]
      refine wpAnyH_take (i:=22) (v:=.pointer (some ⟨xb,3,none⟩)) rfl (by kernel_rfl) (by kernel_rfl) (by kernel_rfl) (fun _ _ _ h=>h) (Or.inl ⟨by kernel_rfl,fun w' hSw=>?_⟩) (by assumption) ?_
      ·clear hHeld hSw;go_simp;try rfl
      try simp only [Act.put,Go.setq]
      refine wpAnyH_ready (rs:=[23]) (by kernel_rfl) (by simp) ?_
      refine AllReadyH.cons rfl (fun K hK=>?_) AllReadyH.nil
      go_simp
      refine hK.out _ _ (HKP.out _ _ _ (HKP.out _ _ _ (HKP.out _ _ _ (HKP.out _ _ _ (HKP.out _ _ _ (HKP.out _ _ _ (HKP.out _ _ _ hHeld2 (fun h=>absurd h (by decide))) (fun h=>absurd h (by decide))) (fun h=>absurd h (by decide))) (fun h=>absurd h (by decide))) (fun h=>absurd h (by decide))) (fun h=>absurd h (by decide))) (fun h=>absurd h (by decide))) (fun hHeld3=>?_)
      clear hK K
      try simp only [Act.put,Go.setq]
      refine wpAnyH_done (by kernel_rfl) ?_ _
      rw [<-HW9.out];go_wp2_with fail;go_meet;exact ⟨rfl,HQ9⟩
    ·rw [if_neg hi]
     obtain ⟨e0,e1,e2,e3,e4,e5,e6,e7,e8,e9,e10,e11,e12,e13,e14,e15⟩:=FcAt.box hbx2
     have pf1:w2.frozen? ⟨xb,1,none⟩=false:=by simp [World.frozen?,hbx2]
     obtain ⟨q,hq⟩:∃ q:Ft,q=⟨p1.n,true,p1.h,p1.t,p1.d⟩:=⟨_,rfl⟩
     have hb3:=cell_store hbx2 1 (.bool true)
     have hb3':(w2.setCell ⟨xb,1,none⟩ (.bool true)).heap[xb]?=some (.cells #[.string q.n,.bool q.o,.bool q.h,.int .i64 q.t.v.k,.int .i64 q.t.v.lo,.int .i64 q.t.v.hi,.slice q.t.xd q.t.v.x.length q.t.xc,.slice q.t.td q.t.v.t.length q.t.tc,.slice q.t.fd q.t.v.f.length q.t.fc,.string q.t.v.n,.int .i64 q.d.v.k,.int .i64 q.d.v.n,.int .u64 q.d.v.f,.string q.d.v.s,.slice q.d.ad q.d.v.l.length q.d.cap,.slice q.d.bd q.d.v.e.length q.d.dap] 65):=by rw [hq];exact hb3
     have hg2:=HF2.out.rb.g
     have hgc:=grown_cell w2 xb 1 (.bool true)
     have hmd:TMade w C xb wr q (w2.setCell ⟨xb,1,none⟩ (.bool true)):=⟨hb3',HB2.out.setCell (Nat.le_refl _) _,by
      rw [hq]
      exact ((HPT.out.keep hg2).grow hgc (fun b e hb=>by have:=Option.some.inj e;have:=hb.2;omega)).weak (fun b hb _=>.inl hb),by
      rw [hq]
      exact ((HPD.out.keep hg2).grow hgc (fun b e hb=>by have:=Option.some.inj e;have:=hb.2;omega)).weak (fun b hb _=>.inl hb),by rw [hq];exact HPK.out⟩
     have HFJ:Hid (∃ q:Ft,TMade w C xb wr q (w2.setCell ⟨xb,1,none⟩ (.bool true))/\FldJ K d y.v.f x0 q.fd):=hid ⟨q,hmd,by
      have e1:q.fd={ x0 with o:=true }:=by rw [hq,<-HP1.out];rfl
      rw [e1]
      have e2:p1.n=x0.n:=congrArg Fd.n HP1.out
      exact fldj_none HX.out HK.out (List.mem_of_getElem? HX0.out) (by rw [<-e2,HNF.out];exact hi)⟩
     clear hb3 hb3' hg2 hgc hmd hq hbx2 HF2 HB2 HPT HPD HPK HP1
     go_upto_region 9 with fail
     go_wp2_with fail
     go_meet
     exact ⟨rfl,HFJ⟩
   case rest =>
    obtain ⟨rfl,HMQ⟩:=hcut
    obtain ⟨q,hmd,hfj⟩:=HMQ.out
    obtain ⟨ao7,c7,w7,hrun,hl7⟩:=tab_made HF.out HXB.out hM2 (by omega) hmd
    have HQC:=hid (FcAt.box hmd.c)
    have HRUN:=hid hrun
    have HL7:=hid hl7
    have HA7:Hid (AllF (FldJ K d y.v.f) (x.v.f.take (j+1)) ((ps++[q]).map Ft.fd)):=hid (by
     rw [take_snoc HX0.out,List.map_append]
     exact HA.out.snoc hfj)
    clear hrun hl7 hmd hfj HMQ HF2 HB2 HPT HPD HPK HP1 hbx2
    go_upto_region 11 with fail
    apply wp_region_lit
    refine wpl_move rfl (.tmp 7) rfl (.slice bo j cq) rfl ?_
    simp only [Act.put,Go.setq]
    refine wpl_load rfl _ (.tmp 9) rfl (.pointer (some ⟨xb,0,none⟩)) rfl (load_fd wc xb q HQC.out) ?_
    simp only [Act.put,Go.setq]
    refine wpl_build_eq rfl _ (.tmp 68) rfl q.val rfl (bs_field wc _ _ _ _ _ _ _ _ _ _ _ _ _ _ _ _) ?_
    simp only [Act.put,Go.setq]
    refine wpl_append_eq rfl (.tmp 67) (.tmp 69) 25 25 rfl (.slice bo j cq) (.slice (some ⟨wc.heap.size,0,none⟩) 1 1) rfl rfl HRUN.out ?_
    simp only [Act.put,Go.setq]
    refine wpl_assign rfl (.tmp 70) rfl (.slice ao7 (j+1) c7) rfl ?_
    simp only [Act.put,Go.setq]
    refine wpList_nil ?_
    go_wp2_with fail
    go_roundw
    case rel=>exact ⟨j+1,_,ao7,c7,by omega,by go_num,rfl,HL7,HA7⟩
    case measure=>simp [intOf];omega
  ·obtain rfl:j=mf:=by omega
   obtain ⟨L1,hL1⟩:∃ L1,ps.map Ft.fd=L1:=⟨_,rfl⟩
   have HA1:Hid (AllF (FldJ K d y.v.f) x.v.f L1):=hid (by
    have h:=HA.out
    rw [hL1,<-HMF.out,List.take_length] at h
    exact h)
   have HPL:=hid hL1
   clear HA hL1
   obtain ⟨b0,b1',b2,b3,b4,b5,b6,-⟩:=ty_cells HF.out.rb.by_
   go_wp2_with fail
   clear b0 b1' b2 b3 b4 b5 b6
   have HF0:=HF
   clear HF
   obtain ⟨wo,hwo⟩:∃ wo:World,wo=wr:=⟨_,rfl⟩
   rw [<-hwo] at HF0 ⊢
   clear hwo
   go_loopw [7,75] (fun v7 v75 wr=>∃ (i k:Nat) (qs:List Ft) (bo:Option Addr) (cq:Nat),i<=nf/\k<=j+i/\v75=.int .i64 i/\v7=.slice bo k cq/\Hid (TabL w #[.int .i64 x.v.k,.int .i64 x.v.lo,.int .i64 x.v.hi,.slice x.xd mx x.xc,.slice x.td mt x.tc,.slice xf j x.fc,.string x.v.n] #[.int .i64 y.v.k,.int .i64 y.v.lo,.int .i64 y.v.hi,.slice y.xd nx y.xc,.slice y.td nt y.tc,.slice yf nf y.fc,.string y.v.n] C M k bo cq qs wr)/\Hid (qs.map Ft.fd=L1++newF x.v.f (y.v.f.take i))) (fun _ v75 _=>nf - (intOf v75).toNat)
   case atStart=>exact ⟨0,j,ps,bo,cq,Nat.zero_le _,Nat.le_refl _,rfl,rfl,HF0,hid (by rw [HPL.out];simp [newF])⟩
   case round =>
    obtain ⟨i,k,qs,bo,cq,hi,hki,rfl,rfl,HF,HN⟩:=hrel
    clear HF0 HPL
    by_cases hlt:i<nf
    ·obtain ⟨y0,hy0⟩:∃ f,y.v.f[i]?=some f:=⟨_,List.getElem?_eq_getElem (by rw [HNF.out];exact hlt)⟩
     obtain ⟨b2,o2,hd2,-,hbl2,hcs2⟩:=HYA.out.f.fieldF (by rw [HNF.out];omega)
     obtain rfl:yf=some ⟨b2,o2,none⟩:=by rw [<-HYF.out];exact hd2
     obtain ⟨p2,hp2,hpt2,hpd2,hpk2,hpc2⟩:=hcs2 i y0 hy0
     clear hcs2
     have hg:=HF.out.rb.g
     obtain ⟨d0,d1,d2,d3,d4,d5,d6,d7,d8,d9,d10,d11,d12,d13,d14,d15⟩:=hpc2.through (hg.block _ hbl2)
     have r1:(0:Int)<=(i:Int):=by omega
     have r2:(i:Int)<(nf:Int):=by omega
     have r4:(i:Int).toNat=i:=rfl
     have hba:=(Below.refl wr.heap.size wr).alloc (Nat.le_refl _) (.cells #[.string p2.n,.bool p2.o,.bool p2.h,.int .i64 p2.t.v.k,.int .i64 p2.t.v.lo,.int .i64 p2.t.v.hi,.slice p2.t.xd p2.t.v.x.length p2.t.xc,.slice p2.t.td p2.t.v.t.length p2.t.tc,.slice p2.t.fd p2.t.v.f.length p2.t.fc,.string p2.t.v.n,.int .i64 p2.d.v.k,.int .i64 p2.d.v.n,.int .u64 p2.d.v.f,.string p2.d.v.s,.slice p2.d.ad p2.d.v.l.length p2.d.cap,.slice p2.d.bd p2.d.v.e.length p2.d.dap] 65)
     have hcb:=heap_alloc_new wr (.cells #[.string p2.n,.bool p2.o,.bool p2.h,.int .i64 p2.t.v.k,.int .i64 p2.t.v.lo,.int .i64 p2.t.v.hi,.slice p2.t.xd p2.t.v.x.length p2.t.xc,.slice p2.t.td p2.t.v.t.length p2.t.tc,.slice p2.t.fd p2.t.v.f.length p2.t.fc,.string p2.t.v.n,.int .i64 p2.d.v.k,.int .i64 p2.d.v.n,.int .u64 p2.d.v.f,.string p2.d.v.s,.slice p2.d.ad p2.d.v.l.length p2.d.cap,.slice p2.d.bd p2.d.v.e.length p2.d.dap] 65)
     have hxl:wr.heap.size<(wr.alloc (.cells #[.string p2.n,.bool p2.o,.bool p2.h,.int .i64 p2.t.v.k,.int .i64 p2.t.v.lo,.int .i64 p2.t.v.hi,.slice p2.t.xd p2.t.v.x.length p2.t.xc,.slice p2.t.td p2.t.v.t.length p2.t.tc,.slice p2.t.fd p2.t.v.f.length p2.t.fc,.string p2.t.v.n,.int .i64 p2.d.v.k,.int .i64 p2.d.v.n,.int .u64 p2.d.v.f,.string p2.d.v.s,.slice p2.d.ad p2.d.v.l.length p2.d.cap,.slice p2.d.bd p2.d.v.e.length p2.d.dap] 65)).heap.size:=by simp
     have HY0:=hid hy0
     have HP2:=hid hp2
     have HPK:=hid hpk2
     have HPT:=hid (hpt2.weak (C:=fun b=>C b/\b<w.heap.size) (fun b h1 h2=>⟨h1,h2⟩))
     have HPD:=hid (hpd2.weak (C:=fun b=>C b/\b<w.heap.size) (fun b h1 h2=>⟨h1,h2⟩))
     clear hy0 hp2 hpk2 hpt2 hpd2 hpc2 hg hd2
     go_upto_region 16 with fail
     generalize hwx:World.alloc wr _=wx at hba hcb hxl ⊢
     have HFX:=hid (HF.out.keep hba)
     obtain ⟨xb,hxb⟩:∃ xb,wr.heap.size=xb:=⟨_,rfl⟩
     have HXB:=hid hxb
     rw [hxb] at hcb hxl hba ⊢
     obtain ⟨e0,e1,e2,e3,e4,e5,e6,e7,e8,e9,e10,e11,e12,e13,e14,e15⟩:=FcAt.box hcb
     have hcon:=containsTab_any x.fd x.fc x.v.f xb p2.n wx ((HXA.out.f.weak (C:=fun _=>True) (fun _ _ _=>trivial)).through HFX.out.rb.g.size (fun b _ hl=>HFX.out.rb.g.block b hl) (fun _ h _=>h)) e0
     rw [HXF.out,HMF.out] at hcon
     obtain ⟨ci,hci⟩:∃ ci,decide (fpos p2.n x.v.f<j)=ci:=⟨_,rfl⟩
     rw [hci] at hcon
     have HCI:=hid hci
     have HCON:=hid hcon
     clear hcon hci d0 d1 d2 d3 d4 d5 d6 d7 d8 d9 d10 d11 d12 d13 d14 d15 hwx hxb
     obtain ⟨b0,b1',b2',b3,b4,b5,b6,-⟩:=ty_cells HFX.out.rb.bx
     go_wp2_with fail
     (with_reducible refine HCON.out.mono ?_)
     rintro e w2 ⟨rfl,hb2⟩
     have hbx2:=(hb2.block _ hxl).trans hcb
     have HF2:=hid (HFX.out.keep hb2)
     have HB2:=hid (hba.trans (hb2.mono (Nat.le_of_lt hxl)))
     clear e0 e1 e2 e3 e4 e5 e6 e7 e8 e9 e10 e11 e12 e13 e14 e15 b0 b1' b2' b3 b4 b5 b6 hb2 hcb HFX HCON hba hxl
     have hxw:w.heap.size<=xb:=by rw [<-HXB.out];have:=HF.out.rm;omega
     have HSN:=hid (newF_snoc x.v.f (y.v.f.take i) y0)
     have e2n:p2.n=y0.n:=congrArg Fd.n HP2.out
     have HTK:=hid (take_snoc HY0.out)
     cases ci with
     | true =>
       have hin:fpos p2.n x.v.f<x.v.f.length:=by rw [HMF.out];exact of_decide_eq_true HCI.out
       have HN2:Hid (qs.map Ft.fd=L1++newF x.v.f (y.v.f.take (i+1))):=hid (by rw [HTK.out,HSN.out,if_pos (by rw [<-e2n];exact hin),List.append_nil];exact HN.out)
       have HTL:=hid ((HF.out.keep (by rw [HXB.out];exact HB2.out)))
       clear hin HSN e2n HTK HCI HN hbx2 HF2 HB2 HPT HPD HPK HP2 HY0
       go_wp2_with fail
       go_roundw
       case rel=>exact ⟨i+1,k,qs,bo,cq,by omega,by omega,by go_num,rfl,HTL,HN2⟩
       case measure=>simp [intOf];omega
     | false =>
       have hnin:¬ fpos p2.n x.v.f<x.v.f.length:=by rw [HMF.out];exact of_decide_eq_false HCI.out
       obtain ⟨e0,e1,e2,e3,e4,e5,e6,e7,e8,e9,e10,e11,e12,e13,e14,e15⟩:=FcAt.box hbx2
       have pf1:w2.frozen? ⟨xb,1,none⟩=false:=by simp [World.frozen?,hbx2]
       obtain ⟨q,hq⟩:∃ q:Ft,q=⟨p2.n,true,p2.h,p2.t,p2.d⟩:=⟨_,rfl⟩
       have hb3:=cell_store hbx2 1 (.bool true)
       have hb3':(w2.setCell ⟨xb,1,none⟩ (.bool true)).heap[xb]?=some (.cells #[.string q.n,.bool q.o,.bool q.h,.int .i64 q.t.v.k,.int .i64 q.t.v.lo,.int .i64 q.t.v.hi,.slice q.t.xd q.t.v.x.length q.t.xc,.slice q.t.td q.t.v.t.length q.t.tc,.slice q.t.fd q.t.v.f.length q.t.fc,.string q.t.v.n,.int .i64 q.d.v.k,.int .i64 q.d.v.n,.int .u64 q.d.v.f,.string q.d.v.s,.slice q.d.ad q.d.v.l.length q.d.cap,.slice q.d.bd q.d.v.e.length q.d.dap] 65):=by rw [hq];exact hb3
       have hg2:=HF2.out.rb.g
       have hgc:=grown_cell w2 xb 1 (.bool true)
       have hmd:TMade w C xb wr q (w2.setCell ⟨xb,1,none⟩ (.bool true)):=⟨hb3',HB2.out.setCell (Nat.le_refl _) _,by
        rw [hq]
        exact ((HPT.out.keep hg2).grow hgc (fun b e hb=>by have:=Option.some.inj e;have:=hb.2;omega)).weak (fun b hb _=>.inl hb),by
        rw [hq]
        exact ((HPD.out.keep hg2).grow hgc (fun b e hb=>by have:=Option.some.inj e;have:=hb.2;omega)).weak (fun b hb _=>.inl hb),by rw [hq];exact HPK.out⟩
       have HN2:Hid ((qs++[q]).map Ft.fd=L1++newF x.v.f (y.v.f.take (i+1))):=hid (by
        have e1:q.fd={ y0 with o:=true }:=by rw [hq,<-HP2.out];rfl
        rw [HTK.out,HSN.out,if_neg (by rw [<-e2n];exact hnin),List.map_append,HN.out,List.map_cons,List.map_nil,e1,List.append_assoc])
       obtain ⟨ao7,c7,w7,hrun,hl7⟩:=tab_made HF.out HXB.out hM2 (by omega) hmd
       have HQC:=hid (FcAt.box hb3')
       have HRUN:=hid hrun
       have HL7:=hid hl7
       clear hb3 hb3' hg2 hgc hmd hq hbx2 HF2 HB2 HPT HPD HPK HP2 hnin HSN e2n HTK HCI HN HY0 hrun hl7
       go_upto_region 18 with fail
       clear e0 e1 e2 e3 e4 e5 e6 e7 e8 e9 e10 e11 e12 e13 e14 e15 pf1
       obtain ⟨w3,hw3⟩:∃ w3,w2.setCell ⟨xb,1,none⟩ (.bool true)=w3:=⟨_,rfl⟩
       rw [hw3] at HQC HRUN ⊢
       clear hw3
       go_upto_region 18 with fail
       apply wp_region_lit
       refine wpl_move rfl (.tmp 7) rfl (.slice bo k cq) rfl ?_
       simp only [Act.put,Go.setq]
       refine wpl_load rfl _ (.tmp 12) rfl (.pointer (some ⟨xb,0,none⟩)) rfl (load_fd w3 xb q HQC.out) ?_
       simp only [Act.put,Go.setq]
       refine wpl_build_eq rfl _ (.tmp 86) rfl q.val rfl (bs_field w3 _ _ _ _ _ _ _ _ _ _ _ _ _ _ _ _) ?_
       simp only [Act.put,Go.setq]
       refine wpl_append_eq rfl (.tmp 85) (.tmp 87) 25 25 rfl (.slice bo k cq) (.slice (some ⟨w3.heap.size,0,none⟩) 1 1) rfl rfl HRUN.out ?_
       simp only [Act.put,Go.setq]
       refine wpl_assign rfl (.tmp 88) rfl (.slice ao7 (k+1) c7) rfl ?_
       simp only [Act.put,Go.setq]
       refine wpList_nil ?_
       go_wp2_with fail
       go_roundw
       case rel=>exact ⟨i+1,k+1,_,ao7,c7,by omega,by omega,by go_num,rfl,HL7,HN2⟩
       case measure=>simp [intOf];omega
    ·obtain rfl:i=nf:=by omega
     have hql:=HF.out.rn
     have hab:=HF.out.ra.own.lt
     have HLOW:=hid hab
     have hsz:=HF.out.rb.vlt
     have HS:=hid (sortFd_any 169 cmpTab cmpTab_swo entersT3 (fun p q W=>tables3_any p q W) bo cq k qs wr HF.out.ra hql (by omega))
     unfold SortPost at HS
     have HNN:Hid (qs.map Ft.fd=L1++newF x.v.f y.v.f):=hid (by
      have h:=HN.out
      rw [<-HNF.out,List.take_length] at h
      exact h)
     clear HN hab
     go_wp2_with fail
     (with_reducible refine HS.out.mono ?_)
     rintro e w7 ⟨rfl,qs',hp,ha7,hg7⟩
     have hr7:=HF.out.rb.grow hg7 (fun b e=>by have:=(HLOW.out b e).1;omega)
     have hlow7:=ha7.own.lt
     have hrow7:=ha7.row2 (C:=fun b=>C b/\(b<w.heap.size\/M<b)) (xs:=qs'.map Ft.fd) (by rw [hp.length_eq,hql];omega) rfl (fun b hl hb=>by
      rcases hb with hb|hb
      ·exact ⟨hb.1,.inl hb.2⟩
      ·exact ⟨HC.out b (by omega),.inr hb⟩) (fun b e=>by have:=(hlow7 b e).1;exact ⟨HC.out b (by omega),.inr (by omega)⟩)
     have HPM:Hid ((qs'.map Ft.fd).Perm (L1++newF x.v.f y.v.f)):=hid (by rw [<-HNN.out];exact hp.map _)
     have HLN:Hid ((qs'.map Ft.fd).length=k):=hid (by rw [List.length_map,hp.length_eq,hql])
     have HXW:=hid ((HXA.out.weak (C:=fun b=>C b/\b<w.heap.size) (fun b h1 h2=>⟨h1,h2⟩)).keep hr7.g)
     obtain ⟨-,-,-,-,-,k5,-,kf⟩:=ty_cells hr7.bx
     have kf5:=kf 5
     have gx:=grown_cell w7 w.heap.size 5 (.slice bo k cq)
     have h8:=hr7.setX (X':=#[.int .i64 x.v.k,.int .i64 x.v.lo,.int .i64 x.v.hi,.slice x.xd mx x.xc,.slice x.td mt x.tc,.slice bo k cq,.string x.v.n]) (cell_store hr7.bx 5 (.slice bo k cq)) gx
     have hrow8:=hrow7.grow gx (fun b e hb=>by have:=Option.some.inj e;have:=hb.2;omega)
     have hxw8:=HXW.out.grow gx (fun b e hb=>by have:=Option.some.inj e;have:=hb.2;omega)
     have H8:=hid h8
     have HROW8:=hid hrow8
     have HXW8:=hid hxw8
     clear hp ha7 hg7 hr7 hlow7 hrow7 gx h8 hrow8 hxw8 kf HS HF HNN HXW HLOW hsz hql
     go_upto_region 22 with fail
     generalize World.setCell w7 _ _=w8 at H8 HROW8 HXW8 ⊢
     clear k5 kf5
     obtain ⟨a0,a1,a2,a3,a4,a5,a6,-⟩:=ty_cells H8.out.bx
     obtain ⟨p0,p1,p2,p3,p4,p5,p6,pf⟩:=ty_cells H8.out.res
     have pf0:=pf 0
     have pf1:=pf 1
     have pf2:=pf 2
     have pf3:=pf 3
     have pf4:=pf 4
     have pf5:=pf 5
     have pf6:=pf 6
     obtain ⟨W9,hW9,hr9,hg9⟩:=seven_all H8.out.res (.int .i64 x.v.k) (.int .i64 x.v.lo) (.int .i64 x.v.hi) (.slice x.xd mx x.xc) (.slice x.td mt x.tc) (.slice bo k cq) (.string x.v.n)
     obtain ⟨q0,q1,q2,q3,q4,q5,q6,-⟩:=ty_cells hr9
     have HW9:=hid hW9
     have HPOST:Hid (BothPost K (d+1) x.v y.v C w (.returned (.agg #[.int .i64 x.v.k,.int .i64 x.v.lo,.int .i64 x.v.hi,.slice x.xd mx x.xc,.slice x.td mt x.tc,.slice bo k cq,.string x.v.n])) W9):=hid (by
      have hpn:=tables_pn (c:=.mk x.v.k x.v.lo x.v.hi x.v.x x.v.t (qs'.map Ft.fd) x.v.n) HX.out HY.out HK.out HKY.out HK.out rfl HA1.out HPM.out
      refine ⟨⟨.mk x.v.k x.v.lo x.v.hi x.v.x x.v.t (qs'.map Ft.fd) x.v.n,x.xd,x.xc,x.td,x.tc,bo,cq⟩,?_,hpn.1,hpn.2,rfl,?_,H8.out.g.grown hg9 (by have:=H8.out.vlt;omega) (fun b e=>by have:=Option.some.inj e;omega)⟩
      ·unfold Lt.val
       rw [show (Ty.mk x.v.k x.v.lo x.v.hi x.v.x x.v.t (qs'.map Ft.fd) x.v.n).f.length=k from HLN.out,show (Ty.mk x.v.k x.v.lo x.v.hi x.v.x x.v.t (qs'.map Ft.fd) x.v.n).x.length=mx from HMX.out,show (Ty.mk x.v.k x.v.lo x.v.hi x.v.x x.v.t (qs'.map Ft.fd) x.v.n).t.length=mt from HMT.out]
       rfl
      ·have hq:=(HXW8.out.grow hg9 (fun b e hb=>by have:=Option.some.inj e;have:=hb.2;omega)).weak (C:=C) (fun b hb _=>hb.1)
       have hf:=(HROW8.out.grow hg9 (fun b e hb=>by have:=Option.some.inj e;have:=hb.2;omega)).weak (C:=C) (fun b hb _=>hb.1)
       refine ⟨⟨hq.wf.k0,hq.wf.k1,hq.wf.l0,hq.wf.l1,hq.wf.h0,hq.wf.h1,hq.wf.s1⟩,hq.x,hq.t,?_⟩
       show TRow W9 C true (qs'.map Ft.fd) (.slice bo (qs'.map Ft.fd).length cq)
       rw [HLN.out];exact hf)
     clear hW9 hr9 hg9 pf
     go_wp2_with fail
     rw [<-HW9.out]
     exact bodyPost_ret (v:=.agg #[.int .i64 x.v.k,.int .i64 x.v.lo,.int .i64 x.v.hi,.slice x.xd mx x.xc,.slice x.td mt x.tc,.slice bo k cq,.string x.v.n]) (by simp [results,Tryz.results148,go_sem,q0,q1,q2,q3,q4,q5,q6]) rfl HPOST.out
end Go.Proofs.YtgnonbdkmmkdgaaGreatDoor
