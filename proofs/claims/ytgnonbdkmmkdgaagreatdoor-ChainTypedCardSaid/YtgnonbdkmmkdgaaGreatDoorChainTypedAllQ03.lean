/-
  Lemmas for the statement: plain laws, and what functions answer; the conditions stand in each.
-/
import Derived.Test.YtgnonbdkmmkdgaaGreatDoorChainTypedAllQ02
set_option linter.unusedVariables false
set_option linter.unusedSimpArgs false
set_option maxHeartbeats 16000000
set_option maxRecDepth 100000
open Go.Lib (hid)
namespace Go.Proofs.YtgnonbdkmmkdgaaGreatDoor
open Go.RowKit Gx
theorem ownT_leaf (a:Ty) (xd td fd:Option Addr) (xc tc fc:Nat) (w:World) (hq:TyAt w (fun _=>True) ⟨a,xd,xc,td,tc,fd,fc⟩) (hty:Tidy a) (hf0:a.f=[])
 (ih:∀ (q:Lt) (w:World),SizeOf.sizeOf q.v<SizeOf.sizeOf a->Tidy q.v->TyAt w (fun _=>True) q->Calls Tryz.prog 11 #[q.val] w (OwnTPost q.v w)) :
 Calls Tryz.prog 11 #[.agg #[.int .i64 a.k,.int .i64 a.lo,.int .i64 a.hi,.slice xd a.x.length xc,.slice td a.t.length tc,.slice fd a.f.length fc,.string a.n]] w (OwnTPost a w):=by
 have hos:=OTS.start w ⟨a,xd,xc,td,tc,fd,fc⟩
 have HQ:=hid hq
 have IH:=hid ih
 have HTY:=hid hty
 have ht1:=hq.t.wide
 have hf1:a.f.length<=200:=by cases hty;assumption
 rw [tf_len] at ht1
 simp only at ht1 hf1 hos
 obtain ⟨nx,hnx⟩:∃ nx,a.x.length=nx:=⟨_,rfl⟩
 obtain ⟨nt,hnt⟩:∃ nt,a.t.length=nt:=⟨_,rfl⟩
 obtain ⟨nf,hnf⟩:∃ nf,a.f.length=nf:=⟨_,rfl⟩
 rw [hnx,hnt,hnf] at hos ⊢
 rw [hnt] at ht1
 rw [hnf] at hf1
 have HNX:=hid hnx
 have HNT:=hid hnt
 have HNF:=hid hnf
 have HF0:=hid hf0
 obtain rfl:nf=0:=by rw [<-hnf,hf0];rfl
 clear hq ih hty hnx hnt hnf hf0
 go_enter Tryz.func11,Tryz.ntmps11
 go_upto_region 1 with fail
 generalize hw2:World.alloc (World.alloc w _) _=w2 at hos ⊢
 obtain ⟨a0,a1,a2,a3,a4,a5,a6,af⟩:=ty_cells hos.box
 have hcl:=cloneS_any xd xc a.x w2 (HQ.out.x.keep (hos.g))
 unfold CloneS at hcl
 rw [HNX.out] at hcl
 have HCL:=hid hcl
 have HOS:=hid hos
 clear hw2 hos hcl
 go_wp2_with fail
 (with_reducible refine HCL.out.mono ?_)
 rintro e w3 ⟨xo,xq,rfl,hxr,hb3⟩
 have hos3:=HOS.out.keep hb3
 have hvl2:=HOS.out.vlt
 have HXR:=hid hxr
 obtain ⟨c0,c1,c2,c3,c4,c5,c6,cf⟩:=ty_cells hos3.box
 have cf3:=cf 3
 have hos4:=hos3.setX (.slice xo nx xq)
 have hxr4:SRow (w3.setCell ⟨w.heap.size,3,none⟩ (.slice xo nx xq)) (fun b=>w.heap.size+1<b) a.x (.slice xo nx xq):=(hxr.weak (fun b hb _=>by omega)).grow (grown_cell w3 w.heap.size 3 (.slice xo nx xq)) (fun b e=>by have:=Option.some.inj e;omega)
 have HXR4:=hid hxr4
 clear a0 a1 a2 a3 a4 a5 a6 af hb3 hxr hxr4 hos3 HCL HXR cf HOS hvl2
 go_upto_region 2 with fail
 generalize World.setCell w3 _ _=w4 at hos4 HXR4 ⊢
 clear c0 c1 c2 c3 c4 c5 c6 cf3
 obtain ⟨a0,a1,a2,a3,a4,a5,a6,af⟩:=ty_cells hos4.box
 have HOS:=hid hos4
 clear hos4
 go_quiet (fail)
 have hos2:=(HOS.out.keep (Gx.drewN_below w4 nq _))
 have hxr2:=HXR4.out.keep (Gx.drewN_below w4 nq _)
 generalize hw5:w4.drewN nq=w5 at hos2 hxr2 ⊢
 have hos3:=hos2.setT (.slice none 0 0)
 have hos4:=hos3.setF (.slice none 0 0)
 have af4:=(ty_cells hos2.box).2.2.2.2.2.2.2 4
 have af5:=(ty_cells hos3.box).2.2.2.2.2.2.2 5
 have hx5:SRow ((w5.setCell ⟨w.heap.size,4,none⟩ (.slice none 0 0)).setCell ⟨w.heap.size,5,none⟩ (.slice none 0 0)) (fun b=>w.heap.size+1<b) a.x (.slice xo nx xq) :=
  (hxr2.grow (grown_cell _ _ 4 _) (fun b e=>by have:=Option.some.inj e;omega)).grow (grown_cell _ _ 5 _) (fun b e=>by have:=Option.some.inj e;omega)
 clear hw5 HOS a0 a1 a2 a3 a4 a5 a6 af HXR4 hxr2
 obtain ⟨a0,a1,a2,a3,a4,a5,a6,af⟩:=ty_cells hos2.box
 obtain ⟨b0,b1,b2,b3,b4,b5,b6,bf⟩:=ty_cells hos3.box
 have hml4:=hos4.vlt
 have HOS:=hid hos4
 have HX5:=hid hx5
 clear hos2 hos3 hos4 af bf hx5
 obtain ⟨M,hM⟩:∃ M,((w5.setCell ⟨w.heap.size,4,none⟩ (.slice none 0 0)).setCell ⟨w.heap.size,5,none⟩ (.slice none 0 0)).heap.size=M+1:=⟨((w5.setCell ⟨w.heap.size,4,none⟩ (.slice none 0 0)).setCell ⟨w.heap.size,5,none⟩ (.slice none 0 0)).heap.size - 1,by omega⟩
 have HXM:=hid (HX5.out.weak (C:=fun b=>w.heap.size+1<b/\b<M+1) (fun b hb hl=>⟨hb,by omega⟩))
 have HM0:=hid (Nat.le_of_eq hM.symm)
 have hM1:w.heap.size+1<=M:=by omega
 clear HX5 hM hml4
 go_wp2_with fail
 clear a0 a1 a2 a3 a4 a5 a6 b0 b1 b2 b3 b4 b5 b6 af4 af5
 go_loopw [21] (fun v21 wr=>∃ (k:Nat) (ps:List Ft) (ao:Option Addr) (cp:Nat),k<=nt/\v21=.int .i64 k/\Hid (ps.length=k)/\Hid (OTS w a.k a.lo a.hi (.slice xo nx xq) (.slice ao k cp) (.slice none 0 0) a.n wr)/\Hid (AccT wr M (M<·) false 27 (.slice ao k cp) ps)/\Hid (ps.map Ft.fd=tf (a.t.take k))/\Hid (SRow wr (fun b=>w.heap.size+1<b/\b<M+1) a.x (.slice xo nx xq))/\Hid (M+1<=wr.heap.size)) (fun v21 _=>nt - (intOf v21).toNat)
 case atStart=>exact ⟨0,[],none,0,Nat.zero_le _,rfl,hid rfl,HOS,hid (AccT.nil _ _ _ _ _),hid rfl,HXM,HM0⟩
 case round =>
  obtain ⟨k,ps,ao,cp,hk,rfl,HN,HO,HA,HTK,HXR,HML⟩:=hrel
  clear HOS HXM HM0
  by_cases hlt:k<nt
  ·obtain ⟨x,hx⟩:∃ x,a.t[k]?=some x:=⟨_,List.getElem?_eq_getElem (by rw [HNT.out];exact hlt)⟩
   obtain ⟨b1,o1,hd1,-,hbl1,hcs1⟩:=HQ.out.t.elem (by show 0<a.t.length;rw [HNT.out];omega)
   simp only at hd1
   subst hd1
   obtain ⟨q1,hq1,hv1,hg1⟩:=hcs1 k x hx
   clear hcs1
   have hg:=HO.out.g
   obtain ⟨c0,c1,c2,c3,c4,c5,c6⟩:=hg1.through (hg.block _ hbl1)
   have r1:(0:Int)<=(k:Int):=by omega
   have r2:(k:Int)<(nt:Int):=by omega
   have r4:(k:Int).toNat=k:=rfl
   have hba:=(Below.refl wr.heap.size wr).alloc (Nat.le_refl _) (.cells #[.int .i64 q1.v.k,.int .i64 q1.v.lo,.int .i64 q1.v.hi,.slice q1.xd q1.v.x.length q1.xc,.slice q1.td q1.v.t.length q1.tc,.slice q1.fd q1.v.f.length q1.fc,.string q1.v.n] 27)
   have hob:=HO.out.keep hba
   have hab:=HA.out.grow (grown_none hba) (fun _ e=>absurd e (by simp))
   have hxb':=HXR.out.keep hba
   have hmb:=Nat.le_trans HML.out hba.size
   have hvb:=(hv1.keep hg).keep hba
   have hcb:=heap_alloc_new wr (.cells #[.int .i64 q1.v.k,.int .i64 q1.v.lo,.int .i64 q1.v.hi,.slice q1.xd q1.v.x.length q1.xc,.slice q1.td q1.v.t.length q1.tc,.slice q1.fd q1.v.f.length q1.fc,.string q1.v.n] 27)
   have HX:Hid (a.t[k]?=some q1.v):=hid (by rw [hx,hq1])
   have HSZ:Hid (SizeOf.sizeOf q1.v<SizeOf.sizeOf a):=hid (by rw [hq1];exact Ty.lt_t (List.mem_of_getElem? hx))
   have HT1:Hid (Tidy q1.v):=hid (by
    rw [hq1]
    cases HTY.out with
    | mk _ _ _ h _=>exact h x (List.mem_of_getElem? hx))
   clear hx hq1 hv1 hg1 hg hba HO HA HXR HML
   go_upto_region 7 with fail
   generalize hwx:World.alloc wr _=wx at hob hab hvb hcb hxb' hmb ⊢
   generalize hxb:wr.heap.size=xb at hcb ⊢
   have HOB:=hid (hab.above)
   have HOd:=hid (hob.keep (Gx.drewN_below wx 1 _))
   have HXd:=hid (hxb'.keep (Gx.drewN_below wx 1 _))
   have HMd:Hid (M+1<=wx.drew.heap.size):=hid hmb
   have HAd:Hid (AccT wx.drew M (M<·) false 27 (.slice ao k cp) ps):=hid (hab.grow (r:=none) ⟨rfl,rfl,rfl,Nat.le_refl _,fun _ _ _=>rfl⟩ (fun _ e=>absurd e (by simp)))
   have hih:=IH.out q1 wx.drew HSZ.out HT1.out (hvb.keep (Gx.drewN_below wx 1 _))
   simp only [Lt.val] at hih
   have HCd:=hid hih
   obtain ⟨e0,e1,e2,e3,e4,e5,e6,-⟩:=ty_cells hcb
   obtain ⟨-,-,-,-,k4,-,-,-⟩:=ty_cells hob.box
   clear hwx hxb c0 c1 c2 c3 c4 c5 c6 hob hab hvb hih hcb hxb' hmb
   go_region_law (first
    | (go_simp;(with_reducible refine HCd.out.mono ?_);rintro e w5 ⟨p,rfl,hpv,hp,hb5⟩;have ho5:=HOd.out.keep hb5;obtain ⟨-,-,-,-,k5,-,-,-⟩:=ty_cells ho5.box;obtain ⟨-,-,-,-,k5a,-,-,-⟩:=ty_cells (ho5.grow (World.grownBy_alloc w5 (.cells #[.int .i64 p.v.k,.int .i64 p.v.lo,.int .i64 p.v.hi,.slice p.xd p.v.x.length p.xc,.slice p.td p.v.t.length p.tc,.slice p.fd p.v.f.length p.fc,.string p.v.n] 27) none) (fun b e=>absurd e (by simp))).box;have HO5:=hid ho5;have HA5:=hid (HAd.out.grow (grown_none hb5) (fun _ e=>absurd e (by simp)));have HX5:=hid (HXd.out.keep hb5);have HM5:=hid (Nat.le_trans HMd.out hb5.size);have HQ5:=hid (HAd.out.fresh HMd.out hp.at_);have HPV:=hid hpv;clear hp hb5 hpv ho5;simp only [Lt.val])
    | (refine step_accT Tryz.underlying24 Tryz.info_ty rfl (by decide) rfl (.tmp 26) (.tmp 29) rfl HA5.out HM5.out (Ft.one p) HQ5.out (VAt.zero _ _ _ _ _ _) (by show (0:Nat)<=140737488351232;decide) _ rfl rfl rfl k HN.out (by omega) (by omega) ?_;intro ao6 c6 w6 ha6 hg6;have ho6:=HO5.out.grow hg6 (fun b e=>by have:=HOB.out b e;omega);have hx6:=HX5.out.grow hg6 (fun b e hb=>by have:=HOB.out b e;omega);have hm6:=Nat.le_trans HM5.out hg6.size;obtain ⟨-,-,-,-,k6,-,-,kf⟩:=ty_cells ho6.box;have kf6:=kf 4;have HO6:=hid ho6;have HA6:=hid ha6;have HX6:=hid hx6;have HM6:=hid hm6;clear ha6 hg6 ho6 kf hx6 hm6))
   all_goals
    go_wp2_with fail
    obtain ⟨y,hy⟩:∃ y:Ft,Ft.one p=y:=⟨_,rfl⟩
    have hyv:y.fd=⟨⟨#[]⟩,false,false,q1.v,.zero⟩:=by rw [<-hy];unfold Ft.fd Ft.one;rw [HPV.out]
    have ho:=HO6.out.setT (.slice ao6 (k+1) c6)
    have ha:=HA6.out.grow (grown_cell w6 w.heap.size 4 (.slice ao6 (k+1) c6)) (fun b e=>by have:=Option.some.inj e;omega)
    have hx7:=HX6.out.grow (grown_cell w6 w.heap.size 4 (.slice ao6 (k+1) c6)) (fun b e hb=>by have:=Option.some.inj e;omega)
    have hm7:=Nat.le_trans HM6.out (grown_cell w6 w.heap.size 4 (.slice ao6 (k+1) c6)).size
    rw [hy] at ha
    have H1:=hid ho
    have H2:=hid ha
    have H3:Hid ((ps++[y]).length=k+1):=hid (by rw [List.length_append,HN.out];rfl)
    have H5:Hid ((ps++[y]).map Ft.fd=tf (a.t.take (k+1))):=hid (by
     rw [List.map_append,HTK.out,take_snoc HX.out]
     unfold tf
     rw [List.map_append,List.map_cons,hyv];rfl)
    have H6:=hid hx7
    have H7:=hid hm7
    clear ho ha hyv hy HO6 HA6 HO5 HA5 HQ5 HPV HOd HAd hx7 hm7 HX6 HM6 HX5 HM5 HXd HMd
    go_roundw
    case rel=>exact ⟨k+1,ps++[y],ao6,c6,by omega,by go_num,H3,H1,H2,H5,H6,H7⟩
    case measure=>simp [intOf];omega
  ·obtain rfl:k=nt:=by omega
   obtain ⟨wo,hwo⟩:∃ wo:World,wo=wr:=⟨_,rfl⟩
   rw [<-hwo] at HO HA HXR HML ⊢
   have hml:=HO.out.vlt
   have hml2:=HML.out
   obtain ⟨L,hL⟩:∃ L,wo.heap.size=L+1:=⟨wo.heap.size - 1,by omega⟩
   have hrow:=HA.out.row (xs:=tf a.t) (C:=fun b=>w.heap.size+1<b/\b<L+1) (by rw [HN.out];exact ht1) (by
    have h:=HTK.out
    rw [<-HNT.out,List.take_length] at h
    exact h.symm) (fun b hl hb=>by omega)
   have HRL:=hid hrow
   have HXL:=hid (HXR.out.weak (C:=fun b=>w.heap.size+1<b/\b<L+1) (fun b hb hl=>by omega))
   have hL1:w.heap.size+1<=L:=by omega
   clear hwo wr HA HTK HN hlt hk hrow hml hml2 HXR HML hL hL1
   go_wp2_with fail
   go_loopw [35] (fun v35 wr=>v35=.int .i64 0/\wo=wr) (fun _ _=>0)
   case atStart=>exact ⟨rfl,rfl⟩
   case round =>
    obtain ⟨rfl,rfl⟩:=hrel
    have hv:TyAt wo (fun b=>w.heap.size+1<b) ⟨a,xo,xq,ao,cp,none,0⟩:=⟨HQ.out.wf,by
     have:=HXL.out.weak (C:=fun b=>w.heap.size+1<b) (fun b hb _=>hb.1)
     show SRow wo _ a.x (.slice xo a.x.length xq)
     rw [HNX.out];exact this,by
     have:=HRL.out.weak (C:=fun b=>w.heap.size+1<b) (fun b hb _=>hb.1)
     show TRow wo _ false (tf a.t) (.slice ao a.t.length cp)
     rw [HNT.out];exact this,by
     show TRow wo _ true a.f (.slice none a.f.length 0)
     rw [HF0.out];exact .nil _ _ _⟩
    have how:OwnT wo (fun b=>w.heap.size+1<b) ⟨a,xo,xq,ao,cp,none,0⟩:=.leaf _ _ hv HF0.out
    obtain ⟨a0,a1,a2,a3,a4,a5,a6,-⟩:=ty_cells HO.out.box
    obtain ⟨p0,p1,p2,p3,p4,p5,p6,pf⟩:=ty_cells HO.out.res
    have pf0:=pf 0
    have pf1:=pf 1
    have pf2:=pf 2
    have pf3:=pf 3
    have pf4:=pf 4
    have pf5:=pf 5
    have pf6:=pf 6
    obtain ⟨W9,hW9,hr9,hg9⟩:=seven_all HO.out.res (.int .i64 a.k) (.int .i64 a.lo) (.int .i64 a.hi) (.slice xo nx xq) (.slice ao k cp) (.slice none 0 0) (.string a.n)
    obtain ⟨q0,q1,q2,q3,q4,q5,q6,-⟩:=ty_cells hr9
    have HW9:=hid hW9
    have HPOST:Hid (OwnTPost a w (.returned (.agg #[.int .i64 a.k,.int .i64 a.lo,.int .i64 a.hi,.slice xo nx xq,.slice ao k cp,.slice none 0 0,.string a.n])) W9):=hid ⟨⟨a,xo,xq,ao,cp,none,0⟩,by unfold Lt.val;simp only [HNX.out,HNT.out,HNF.out],rfl,
     (how.through hg9.size (fun b hb hl=>hg9.block b hl (fun e=>by have:=Option.some.inj e;omega))).weak (fun b hb _=>by omega),HO.out.g.grown hg9 (by have:=HO.out.vlt;omega) (fun b e=>by have:=Option.some.inj e;omega)⟩
    clear hW9 hr9 hg9 pf hv how HO HXL HRL
    go_wp2_with fail
    rw [<-HW9.out]
    exact bodyPost_ret (v:=.agg #[.int .i64 a.k,.int .i64 a.lo,.int .i64 a.hi,.slice xo nx xq,.slice ao k cp,.slice none 0 0,.string a.n]) (by simp [results,Tryz.results11,go_sem,q0,q1,q2,q3,q4,q5,q6]) rfl HPOST.out
def Bj (w:World) (C:Nat->Prop) (M:Nat):Nat->Prop:=fun b=>(C b/\b<w.heap.size)\/M<b
structure TabL (w:World) (X Y:Array Value) (C:Nat->Prop) (M n:Nat) (bo:Option Addr) (cq:Nat) (ps:List Ft) (W:World):Prop where
 rn:ps.length=n
 rb:BS w X Y W
 ra:AccT W M (Bj w C M) true 65 (.slice bo n cq) ps
 rm:M+1<=W.heap.size
theorem TabL.keep {w W W':World} {X Y:Array Value} {C:Nat->Prop} {M n:Nat} {bo:Option Addr} {cq:Nat} {ps:List Ft} (h:TabL w X Y C M n bo cq ps W) (hb:Below W.heap.size W W'):TabL w X Y C M n bo cq ps W' :=
 ⟨h.rn,h.rb.keep hb,h.ra.keep hb,Nat.le_trans h.rm hb.size⟩
theorem tab_round {w wr W:World} {X Y:Array Value} {C:Nat->Prop} {M n:Nat} {bo:Option Addr} {cq:Nat} {ps:List Ft} (h:TabL w X Y C M n bo cq ps wr) (hM:w.heap.size+2<=M) (hn:n<=5000) {q:Ft} (hb:Below wr.heap.size wr W)
 (ht:TyAt W (fun b=>(C b/\b<w.heap.size)\/wr.heap.size<=b) q.t) (hd:VAt W (fun b=>(C b/\b<w.heap.size)\/wr.heap.size<=b) q.d) (hk:q.n.size<=140737488351232) :
 ∃ ao7 c7 w7,(Builtin.append_ #[25,25] 25 #[.slice bo n cq,.slice (some ⟨W.heap.size,0,none⟩) 1 1]).run Tryz.prog (W.alloc (.cells #[.string q.n,.bool q.o,.bool q.h,.int .i64 q.t.v.k,.int .i64 q.t.v.lo,.int .i64 q.t.v.hi,.slice q.t.xd q.t.v.x.length q.t.xc,.slice q.t.td q.t.v.t.length q.t.tc,.slice q.t.fd q.t.v.f.length q.t.fc,.string q.t.v.n,.int .i64 q.d.v.k,.int .i64 q.d.v.n,.int .u64 q.d.v.f,.string q.d.v.s,.slice q.d.ad q.d.v.l.length q.d.cap,.slice q.d.bd q.d.v.e.length q.d.dap] 65))=.ok (.slice ao7 (n+1) c7) w7 /\
  TabL w X Y C M (n+1) ao7 c7 (ps++[q]) w7:=by
 have ho9:=h.rb.keep hb
 have ha9:=h.ra.keep hb
 have hml:=h.rm
 have hs9:=hb.size
 have hab:=h.ra.own.lt
 have hw:∀ b,(C b/\b<w.heap.size)\/wr.heap.size<=b->b<W.heap.size->Bj w C M b/\(Value.slice bo n cq).ownBlock≠some b:=by
  intro b hb hbl
  refine ⟨?_,fun e=>?_⟩
  ·rcases hb with hb|hb
   ·exact .inl hb
   ·exact .inr (by omega)
  ·have:=hab b e
   omega
 obtain ⟨ao7,c7,w7,hrun,ha7,hg7,hm7⟩:=AccT.append1m (ti:=25) Tryz.underlying25 Tryz.info_fd rfl ha9 (by omega) q
  (ht.weak hw) (hd.weak hw) hk n h.rn (by omega) (by omega)
 have ho7:=ho9.grow hg7 (fun b e=>by have:=(hab b e).1;omega)
 exact ⟨ao7,c7,w7,hrun,by rw [List.length_append,h.rn];rfl,ho7,ha7,Nat.le_trans hml (Nat.le_trans hs9 hg7.size)⟩
theorem tab1_any (p:Ft) (K:Nat) (s:ByteArray) (w:World) (hK:w.cell? ⟨K,0,none⟩=some (.string s)) (b:Bool) (hb:(p.n.toList==s.toList)=b) :
 Calls Tryz.prog 166 #[p.val,.pointer (some ⟨K,0,none⟩)] w (KeyPostE b w):=by
 unfold Ft.val
 have hlt:=World.block_lt_of_cell? w _ hK
 have hbl:=(Below.refl w.heap.size w).alloc (Nat.le_refl _) (.cells #[.string p.n,.bool p.o,.bool p.h,.int .i64 p.t.v.k,.int .i64 p.t.v.lo,.int .i64 p.t.v.hi,.slice p.t.xd p.t.v.x.length p.t.xc,.slice p.t.td p.t.v.t.length p.t.tc,.slice p.t.fd p.t.v.f.length p.t.fc,.string p.t.v.n,.int .i64 p.d.v.k,.int .i64 p.d.v.n,.int .u64 p.d.v.f,.string p.d.v.s,.slice p.d.ad p.d.v.l.length p.d.cap,.slice p.d.bd p.d.v.e.length p.d.dap] 65)
 have hk1:=(hbl.cell (p:=⟨K,0,none⟩) hlt).trans hK
 have hx1:=(FcAt.box (heap_alloc_new w (.cells #[.string p.n,.bool p.o,.bool p.h,.int .i64 p.t.v.k,.int .i64 p.t.v.lo,.int .i64 p.t.v.hi,.slice p.t.xd p.t.v.x.length p.t.xc,.slice p.t.td p.t.v.t.length p.t.tc,.slice p.t.fd p.t.v.f.length p.t.fc,.string p.t.v.n,.int .i64 p.d.v.k,.int .i64 p.d.v.n,.int .u64 p.d.v.f,.string p.d.v.s,.slice p.d.ad p.d.v.l.length p.d.cap,.slice p.d.bd p.d.v.e.length p.d.dap] 65))).c0
 have HB:=hid hbl
 clear hK hlt hbl
 go_enter Tryz.func166,Tryz.ntmps166
 go_upto_region 1 with fail
 generalize hw2:World.alloc w _=w2 at HB hk1 hx1 ⊢
 clear hw2
 go_wp2_with fail
 try go_ret
 exact ⟨by rw [<-hb];rfl,HB.out⟩
theorem tab2_any (p:Ft) (K:Nat) (s:ByteArray) (w:World) (hK:w.cell? ⟨K,0,none⟩=some (.string s)) (b:Bool) (hb:(p.n.toList==s.toList)=b) :
 Calls Tryz.prog 168 #[p.val,.pointer (some ⟨K,0,none⟩)] w (KeyPostE b w):=by
 unfold Ft.val
 have hlt:=World.block_lt_of_cell? w _ hK
 have hbl:=(Below.refl w.heap.size w).alloc (Nat.le_refl _) (.cells #[.string p.n,.bool p.o,.bool p.h,.int .i64 p.t.v.k,.int .i64 p.t.v.lo,.int .i64 p.t.v.hi,.slice p.t.xd p.t.v.x.length p.t.xc,.slice p.t.td p.t.v.t.length p.t.tc,.slice p.t.fd p.t.v.f.length p.t.fc,.string p.t.v.n,.int .i64 p.d.v.k,.int .i64 p.d.v.n,.int .u64 p.d.v.f,.string p.d.v.s,.slice p.d.ad p.d.v.l.length p.d.cap,.slice p.d.bd p.d.v.e.length p.d.dap] 65)
 have hk1:=(hbl.cell (p:=⟨K,0,none⟩) hlt).trans hK
 have hx1:=(FcAt.box (heap_alloc_new w (.cells #[.string p.n,.bool p.o,.bool p.h,.int .i64 p.t.v.k,.int .i64 p.t.v.lo,.int .i64 p.t.v.hi,.slice p.t.xd p.t.v.x.length p.t.xc,.slice p.t.td p.t.v.t.length p.t.tc,.slice p.t.fd p.t.v.f.length p.t.fc,.string p.t.v.n,.int .i64 p.d.v.k,.int .i64 p.d.v.n,.int .u64 p.d.v.f,.string p.d.v.s,.slice p.d.ad p.d.v.l.length p.d.cap,.slice p.d.bd p.d.v.e.length p.d.dap] 65))).c0
 have HB:=hid hbl
 clear hK hlt hbl
 go_enter Tryz.func168,Tryz.ntmps168
 go_upto_region 1 with fail
 generalize hw2:World.alloc w _=w2 at HB hk1 hx1 ⊢
 clear hw2
 go_wp2_with fail
 try go_ret
 exact ⟨by rw [<-hb];rfl,HB.out⟩
theorem indexTab_any (fn:FuncId) (hfn:fn=166\/fn=168) (ad:Option Addr) (cap:Nat) (l:List (Fd Ty)) (K:Nat) (s:ByteArray) (w:World) (h:TRow w (fun _=>True) true l (.slice ad l.length cap)) (hK:w.cell? ⟨K,0,none⟩=some (.string s)) :
 Calls Tryz.prog 100 #[.slice ad l.length cap,.func (.func fn) #[] #[.pointer (some ⟨K,0,none⟩)]] w (IdxPostE (fpos s l) l.length w):=by
 have hltK:=World.block_lt_of_cell? w _ hK
 have HK:=hid hK
 have H:=hid h
 have hbn:=h.bound
 have HNO:=hid (fpos_no (s:=s) (l:=l))
 have HAT:=hid (fun k y=>fpos_at (s:=s) (l:=l) (k:=k) (y:=y))
 obtain ⟨n,hn⟩:∃ n,l.length=n:=⟨_,rfl⟩
 rw [hn] at hbn HNO ⊢
 have HN:=hid hn
 have HC:Hid (∀ (p:Ft) (W:World) (b:Bool),W.cell? ⟨K,0,none⟩=some (.string s)->(p.n.toList==s.toList)=b->Calls Tryz.prog fn #[p.val,.pointer (some ⟨K,0,none⟩)] W (KeyPostE b W)):=hid (by
  rcases hfn with rfl|rfl
  ·exact fun p W b h1 h2=>tab1_any p K s W h1 b h2
  ·exact fun p W b h1 h2=>tab2_any p K s W h1 b h2)
 unfold Ft.val at HC
 clear h hK hn
 rcases hfn with rfl|rfl
 all_goals
  go_enter Tryz.func100,Tryz.ntmps100
  go_wp2_with fail
  go_loopw [5,8] (fun _ v wr=>∃ k:Nat,k<=n/\v=.int .i64 k/\Hid (∀ j z,j<k->l[j]?=some z->decide (z.n=s)=false)/\Hid (Below w.heap.size w wr)) (fun _ v _=>n - (intOf v).toNat)
  case atStart=>exact ⟨0,Nat.zero_le _,rfl,hid (fun j z h=>by omega),hid (Below.refl _ _)⟩
  case round =>
   obtain ⟨k,hk,rfl,HL,HB⟩:=hrel
   by_cases hlt:k<n
   ·obtain ⟨x,hx⟩:∃ x,l[k]?=some x:=⟨_,List.getElem?_eq_getElem (by rw [HN.out];exact hlt)⟩
    obtain ⟨b1,o1,hd1,-,hbl1,hcs1⟩:=H.out.fieldF (by rw [HN.out];omega)
    subst hd1
    obtain ⟨p,hp,-,-,-,hg⟩:=hcs1 k x hx
    obtain ⟨c0,c1,c2,c3,c4,c5,c6,c7,c8,c9,c10,c11,c12,c13,c14,c15⟩:=hg.through (w':=wr) (HB.out.block _ hbl1)
    obtain ⟨b,hb⟩:∃ b,(p.n.toList==s.toList)=b:=⟨_,rfl⟩
    have HC1:=hid (HC.out p wr b ((HB.out.cell (p:=⟨K,0,none⟩) hltK).trans HK.out) hb)
    have HX:=hid hx
    have HBB:Hid (decide (x.n=s)=b):=hid (by rw [<-name_eq,<-hp];exact hb)
    have r1:(0:Int)<=(k:Int):=by omega
    have r2:(k:Int)<(n:Int):=by omega
    clear hx hp hg hcs1 hb
    go_wp2_with fail
    (with_reducible refine HC1.out.mono ?_)
    rintro e w2 ⟨rfl,hb2⟩
    have HB2:=hid (HB.out.trans (hb2.mono HB.out.size))
    clear hb2 c0 c1 c2 c3 c4 c5 c6 c7 c8 c9 c10 c11 c12 c13 c14 c15
    cases b with
    | true =>
      have hf:=HAT.out k x HX.out HBB.out HL.out
      go_wp2_with fail
      try go_ret
      exact ⟨by rw [hf,if_pos hlt];rfl,HB2.out⟩
    | false =>
      have HL2:Hid (∀ j z,j<k+1->l[j]?=some z->decide (z.n=s)=false):=hid (fun j z hj hz=>by
       by_cases e:j=k
       ·subst e
        rw [HX.out] at hz
        cases hz
        exact HBB.out
       ·exact HL.out j z (by omega) hz)
      go_wp2_with fail
      go_roundw
      case rel=>exact ⟨k+1,by omega,by go_num,HL2,HB2⟩
      case measure=>simp [intOf];omega
   ·obtain rfl:k=n:=by omega
    have hf:=HNO.out HL.out
    go_wp2_with fail
    try go_ret
    exact ⟨by rw [hf,if_neg (Nat.lt_irrefl _)];rfl,HB.out⟩
theorem containsTab_any (ad:Option Addr) (cap:Nat) (l:List (Fd Ty)) (K:Nat) (s:ByteArray) (w:World) (h:TRow w (fun _=>True) true l (.slice ad l.length cap)) (hK:w.cell? ⟨K,0,none⟩=some (.string s)) :
 Calls Tryz.prog 167 #[.slice ad l.length cap,.func (.func 168) #[] #[.pointer (some ⟨K,0,none⟩)]] w (fun e w'=>e=.returned (.bool (decide (fpos s l<l.length)))/\Below w.heap.size w w'):=by
 have HC:=hid (indexTab_any 168 (.inr rfl) ad cap l K s w h hK)
 unfold IdxPostE at HC
 have hbn:=h.bound
 obtain ⟨i,hi⟩:∃ i,fpos s l=i:=⟨_,rfl⟩
 rw [hi] at HC ⊢
 clear h hK hi
 generalize l.length=n at *
 by_cases hlt:i<n
 ·rw [if_pos hlt] at HC
  rw [decide_eq_true hlt]
  clear hlt
  have z0:(0:Int)<=(i:Int):=by omega
  go_enter Tryz.func167,Tryz.ntmps167
  go_wp2_with fail
  (with_reducible refine HC.out.mono ?_)
  rintro e w2 ⟨rfl,hb2⟩
  have HB2:=hid hb2
  clear hb2
  go_wp2_with fail
  try go_ret
  exact ⟨rfl,HB2.out⟩
 ·rw [if_neg hlt] at HC
  rw [decide_eq_false hlt]
  clear hlt
  go_enter Tryz.func167,Tryz.ntmps167
  go_wp2_with fail
  (with_reducible refine HC.out.mono ?_)
  rintro e w2 ⟨rfl,hb2⟩
  have HB2:=hid hb2
  clear hb2
  go_wp2_with fail
  try go_ret
  exact ⟨rfl,HB2.out⟩
theorem wpl_assign {P:Program} {w:World} {ops:Array Oper} {rest:List Oper} {o:Oper} {ac:Act} {Q:Exit->Act->World->Prop} (hgd:o.guard=none) (x:Operand) (ho:o.op=.assign x) (v:Value) (hx:ac.eval x=v) (h:wpList P ops Q rest (ac.put o.dst v) w):wpList P ops Q (o::rest) ac w:=by
 refine wpList_plain hgd fun K hK=>?_
 unfold Oper.wp execOp
 simp only [ho,Sem.run_bind,Sem.run_pure,Result.andThen_ok,hx]
 exact hK _ _ h
structure TMade (w:World) (C:Nat->Prop) (xb:Nat) (wr:World) (q:Ft) (W:World):Prop where
 c:W.heap[xb]?=some (.cells #[.string q.n,.bool q.o,.bool q.h,.int .i64 q.t.v.k,.int .i64 q.t.v.lo,.int .i64 q.t.v.hi,.slice q.t.xd q.t.v.x.length q.t.xc,.slice q.t.td q.t.v.t.length q.t.tc,.slice q.t.fd q.t.v.f.length q.t.fc,.string q.t.v.n,.int .i64 q.d.v.k,.int .i64 q.d.v.n,.int .u64 q.d.v.f,.string q.d.v.s,.slice q.d.ad q.d.v.l.length q.d.cap,.slice q.d.bd q.d.v.e.length q.d.dap] 65)
 b:Below xb wr W
 t:TyAt W (fun b=>(C b/\b<w.heap.size)\/xb<=b) q.t
 d:VAt W (fun b=>(C b/\b<w.heap.size)\/xb<=b) q.d
 k:q.n.size<=140737488351232
theorem tab_made {w wr W:World} {X Y:Array Value} {C:Nat->Prop} {M n xb:Nat} {bo:Option Addr} {cq:Nat} {ps:List Ft} (h:TabL w X Y C M n bo cq ps wr) (hx:wr.heap.size=xb) (hM:w.heap.size+2<=M) (hn:n<=5000) {q:Ft} (hm:TMade w C xb wr q W) :
 ∃ ao7 c7 w7,(Builtin.append_ #[25,25] 25 #[.slice bo n cq,.slice (some ⟨W.heap.size,0,none⟩) 1 1]).run Tryz.prog (W.alloc (.cells #[.string q.n,.bool q.o,.bool q.h,.int .i64 q.t.v.k,.int .i64 q.t.v.lo,.int .i64 q.t.v.hi,.slice q.t.xd q.t.v.x.length q.t.xc,.slice q.t.td q.t.v.t.length q.t.tc,.slice q.t.fd q.t.v.f.length q.t.fc,.string q.t.v.n,.int .i64 q.d.v.k,.int .i64 q.d.v.n,.int .u64 q.d.v.f,.string q.d.v.s,.slice q.d.ad q.d.v.l.length q.d.cap,.slice q.d.bd q.d.v.e.length q.d.dap] 65))=.ok (.slice ao7 (n+1) c7) w7 /\
  TabL w X Y C M (n+1) ao7 c7 (ps++[q]) w7:=by
 subst hx
 exact tab_round h hM hn hm.b hm.t hm.d hm.k
theorem fldj_none {K:List ByteArray} {d:Nat} {a:Ty} {b:List (Fd Ty)} {f:Fd Ty} (ha:Pn K (d+1) a) (hk:a.k=10) (hf:f∈a.f) (hn:¬ fpos f.n b<b.length):FldJ K d b f { f with o:=true } :=
 ⟨⟨rfl,(ha.1.rec_inv hk).2.1 f hf,.inl ⟨fdOf_out hn,rfl,rfl⟩⟩,ha.fjn hk f hf⟩
theorem fldj_both {K:List ByteArray} {d:Nat} {a:Ty} {b:List (Fd Ty)} {f h:Fd Ty} {t:Ty} (ha:Pn K (d+1) a) (hk:a.k=10) (hf:f∈a.f) (hn:b[fpos f.n b]?=some h) (hj:JoinO K d f.t h.t t):FldJ K d b f { f with o:=f.o || h.o,t:=t } :=
 ⟨⟨rfl,(ha.1.rec_inv hk).2.1 f hf,.inr ⟨h,fdOf_pos hn,rfl,hj.ok⟩⟩,hj.jn⟩
theorem newF_snoc (a l:List (Fd Ty)) (g:Fd Ty):newF a (l++[g])=newF a l++if fpos g.n a<a.length then [] else [{ g with o:=true }]:=by
 unfold newF
 rw [List.filter_append,List.map_append]
 congr 1
 by_cases h:fpos g.n a<a.length
 ·have hs:(fdOf a g.n).isNone=false:=by rw [fdOf_fpos,List.getElem?_eq_getElem h];rfl
  rw [if_pos h,List.filter_cons,hs];rfl
 ·have hs:(fdOf a g.n).isNone=true:=by rw [fdOf_out h];rfl
  rw [if_neg h,List.filter_cons,hs];rfl
theorem tmade_both {w w5 W wr:World} {C:Nat->Prop} {xb:Nat} {p1:Ft} {z:Lt} {o:Bool} (hc:W.heap[xb]?=some (.cells #[.string p1.n,.bool o,.bool p1.h,.int .i64 z.v.k,.int .i64 z.v.lo,.int .i64 z.v.hi,.slice z.xd z.v.x.length z.xc,.slice z.td z.v.t.length z.tc,.slice z.fd z.v.f.length z.fc,.string z.v.n,.int .i64 p1.d.v.k,.int .i64 p1.d.v.n,.int .u64 p1.d.v.f,.string p1.d.v.s,.slice p1.d.ad p1.d.v.l.length p1.d.cap,.slice p1.d.bd p1.d.v.e.length p1.d.dap] 65)) (hg:w5.grownBy W (some xb)) (hb:Below xb wr w5) (hx:xb<=w5.heap.size)
 (hz:TyAt w5 (fun b=>(C b/\b<w.heap.size)\/xb<b) z) (hd:VAt w5 (fun b=>C b/\b<w.heap.size) p1.d) (hk:p1.n.size<=140737488351232) (hxw:w.heap.size<=xb):TMade w C xb wr ⟨p1.n,o,p1.h,z,p1.d⟩ W :=
 ⟨hc,hb.grown hg hx (fun k e=>by have:=Option.some.inj e;omega),(hz.grow hg (fun b e hb=>by have:=Option.some.inj e;omega)).weak (fun b hb _=>hb.imp id Nat.le_of_lt),(hd.grow hg (fun b e hb=>by have:=Option.some.inj e;omega)).weak (fun b hb _=>.inl hb),hk⟩
theorem ints_le:∀ {l K:List Int},l.Nodup->(∀ x∈l,x∈K)->l.length<=K.length
 | [],_,_,_=>Nat.zero_le _
 | x::l,K,hn,hK=>by
   rw [List.nodup_cons] at hn
   have hx:x∈K:=hK x List.mem_cons_self
   have ih:=ints_le (l:=l) (K:=K.filter fun y=>!decide (y=x)) hn.2 (fun y hy=>by
    have hne:y≠x:=fun e=>hn.1 (e▸hy)
    exact List.mem_filter.2 ⟨hK y (List.mem_cons_of_mem _ hy),by simp [hne]⟩)
   have h1:(K.filter fun y=>!decide (y=x)).length<K.length:=List.length_filter_lt_length_iff_exists.2 ⟨x,hx,by simp⟩
   rw [List.length_cons];omega
theorem Pts.len {l:List Ty} (h:Pts l):l.length<=7:=by
 have:=ints_le (K:=[2,3,4,5,6,8,10]) h.nd (fun k hk=>by
  obtain ⟨b,hb,rfl⟩:=List.mem_map.1 hk
  rcases h.p b hb with h|h|h|h|h|h|h<;>rw [h]<;>decide)
 rw [List.length_map] at this
 exact this
structure JL (K:List ByteArray) (d:Nat) (a:Ty) (bs l:List Ty):Prop where
 pts:Pts l
 pn:∀ c∈l,Pn K d c
 la:∀ v,LFit (partsT a) v->LFit l v
 lb:∀ v,LFit bs v->LFit l v
theorem JL.start {K:List ByteArray} {d:Nat} {a:Ty} (ha:Jn K d a):JL K d a [] (partsT a):=⟨parts_pts ha.1,ha.2,fun _ h=>h,fun _ h=>by obtain ⟨b,hb,-⟩:=h;cases hb⟩
theorem lfit_snoc {l:List Ty} {y:Ty} {v:V} (h:LFit (l++[y]) v):LFit l v\/Fit false y v:=by
 obtain ⟨b,hb,hf⟩:=h
 rcases List.mem_append.1 hb with hb|hb
 ·exact .inl ⟨b,hb,hf⟩
 ·rw [List.mem_singleton.1 hb] at hf;exact .inr hf
theorem JL.more {K:List ByteArray} {d:Nat} {a:Ty} {bs l:List Ty} {y:Ty} (h:JL K d a bs l) (hy:Pn K d y) (hn:∀ b∈l,b.k≠y.k):JL K d a (bs++[y]) (l++[y]):=by
 obtain ⟨p,h1,h2⟩:=parts_more h.pts hy.nm.1 hy.nm.2.ne.1 hn
 refine ⟨p,fun c hc=>?_,fun v hv=>h1 v (h.la v hv),fun v hv=>?_⟩
 ·rcases List.mem_append.1 hc with hc|hc
  ·exact h.pn c hc
  ·rw [List.mem_singleton.1 hc];exact hy
 ·rcases lfit_snoc hv with hv|hv
  ·exact h1 v (h.lb v hv)
  ·exact h2 v hv
theorem JL.both {K:List ByteArray} {d:Nat} {a:Ty} {bs l:List Ty} {i:Nat} {x y c:Ty} (h:JL K d a bs l) (hi:l[i]?=some x) (hc:JoinOk x y c) (hk:c.k=x.k) (hp:Pn K d c):JL K d a (bs++[y]) (l.set i c):=by
 obtain ⟨p,h1,h2⟩:=parts_both h.pts hi hc hk
 refine ⟨p,fun b hb=>?_,fun v hv=>h1 v (h.la v hv),fun v hv=>?_⟩
 ·rcases List.mem_or_eq_of_mem_set hb with hb|rfl
  ·exact h.pn b hb
  ·exact hp
 ·rcases lfit_snoc hv with hv|hv
  ·exact h1 v (h.lb v hv)
  ·exact h2 v hv
theorem JL.done {K:List ByteArray} {d:Nat} {a b c:Ty} {l:List Ty} (h:JL K d a (partsT b) l) (ha:Jn K d a) (hb:Jn K d b) (hu:UnionR l c):JoinO K d a b c:=by
 obtain ⟨m,hm,hc⟩:=hu
 obtain ⟨hn,hf⟩:=union_ok h.pts hm hc
 refine ⟨⟨hn,fun v hv=>hf v (h.la v (parts_fit ha.1 hv)),fun v hv=>hf v (h.lb v (parts_fit hb.1 hv))⟩,⟨hn,?_⟩⟩
 rcases hc with ⟨-,rfl⟩|⟨-,hk,ht⟩
 ·exact (h.pn c (hm.mem_iff.1 (List.mem_singleton_self _))).jn.2
 ·intro x hx
  unfold partsT at hx
  rw [if_pos hk,ht] at hx
  exact h.pn x (hm.mem_iff.1 hx)
theorem kind_pos {l:List Ty} {y:Ty} (hp:Pts l) (hy:Prt y.k) {i:Nat} {x:Ty} (hi:l[i]?=some x) (h:(kindV x.k==kindV y.k)=true):x.k=y.k:=prt_kindV (hp.p x (List.mem_of_getElem? hi)) hy (by simpa using h)
theorem kind_out {l:List Ty} {y:Ty} (h:¬ l.findIdx (fun z:Ty=>kindV z.k==kindV y.k)<l.length):∀ b∈l,b.k≠y.k:=fun b hb e=>h (List.findIdx_lt_length_of_exists ⟨b,hb,by simp [e]⟩)
theorem kind_at {l:List Ty} {y:Ty} (h:l.findIdx (fun z:Ty=>kindV z.k==kindV y.k)<l.length):∃ x,l[l.findIdx (fun z:Ty=>kindV z.k==kindV y.k)]?=some x/\(kindV x.k==kindV y.k)=true :=
 ⟨_,List.getElem?_eq_getElem h,List.findIdx_getElem (w:=h)⟩
theorem wpl_clear_eq {P:Program} {w:World} {ops:Array Oper} {rest:List Oper} {o:Oper} {ac:Act} {Q:Exit->Act->World->Prop} (hgd:o.guard=none) (x:Operand) (t:TypeId) (ho:o.op=.call { callee:=.builtin .clear,args:=#[x],argTypes:=#[t] })
 (v:Value) (hx:ac.eval x=v) {r:Value} {w':World} (hr:(Builtin.clear_ #[t] o.type #[v]).run P w=.ok r w') (h:wpList P ops Q rest (ac.put o.dst r) w'):wpList P ops Q (o::rest) ac w:=by
 refine wpList_plain hgd fun K hK=>?_
 unfold Oper.wp execOp
 simp only [ho,resolve,invoke,builtin,Sem.run_bind,Sem.run_pure,Result.andThen_ok,List.map_toArray,List.map_cons,List.map_nil,hx,hr]
 exact hK _ _ h
def DelPost (base g n cap i:Nat) (xs:List Value) (w:World) (e:Ending) (w':World):Prop:=e=.returned (.slice (some ⟨g,0,none⟩) (n - 1) cap)/\w'.ownsRow base 65 16 (.slice (some ⟨g,0,none⟩) (n - 1) cap) (n - 1) (xs.take (i * 16)++xs.drop ((i+1) * 16))/\w.grownBy w' (some g)
theorem deleteF_any {base g n cap i:Nat} {xs:List Value} (w:World) (h:w.ownsRow base 65 16 (.slice (some ⟨g,0,none⟩) n cap) n xs) (hi:i<n) (hn:n<=1000000) (h1:∀ u∈xs,u.oneCell'=true) :
 Calls Tryz.prog 75 #[.slice (some ⟨g,0,none⟩) n cap,.int .i64 (i:Int),.int .i64 ((i:Int)+1)] w (DelPost base g n cap i xs w):=by
 have hcap:n<=cap/\cap<=9223372036854775807:=by
  rcases h.2 with ⟨h0,-⟩|⟨g2,cap2,cur,hv,hb,hg,hn,hm,-⟩
  ·cases h0
  ·rw [Value.slice.injEq] at hv
   obtain ⟨-,-,rfl⟩:=hv
   unfold maxLen at hm
   exact ⟨hn,by omega⟩
 have hd:w.drew.ownsRow base 65 16 (.slice (some ⟨g,0,none⟩) n cap) n xs:=own_same h (fun _ _=>rfl)
 obtain ⟨hc1,hc2⟩:=hcap
 obtain ⟨ad,cc,hadc⟩:∃ (ad:Addr) (cc:Nat),(cap=i+1/\ad=⟨g,0,none⟩/\cc=0)\/(¬ cap=i+1/\ad=⟨g,(i+1) * 16,none⟩/\cc=cap - (i+1)):=by
  by_cases h:cap=i+1
  ·exact ⟨_,_,.inl ⟨h,rfl,rfl⟩⟩
  ·exact ⟨_,_,.inr ⟨h,rfl,rfl⟩⟩
 obtain ⟨w2,w3,hr1,hr2,ho3,hg3⟩:=del_row hd hi ad (fun hlt=>by
  rcases hadc with h|h
  ·omega
  ·exact h.2.1) cc h1
 have hpost:DelPost base g n cap i xs w (.returned (.slice (some ⟨g,0,none⟩) (n - 1) cap)) w3:=⟨rfl,ho3,⟨hg3.os,hg3.tape,hg3.output,hg3.size,hg3.block⟩⟩
 clear h hd h1 ho3 hg3
 rcases hadc with ⟨rfl,rfl,rfl⟩|⟨hci,rfl,rfl⟩
 ·obtain rfl:n=i+1:=by omega
  simp only [Nat.sub_self,Nat.add_sub_cancel,Nat.add_sub_cancel_left] at hr1 hr2
  have HR1:=hid hr1
  have HR2:=hid hr2
  have HPOST:=hid hpost
  clear hr1 hr2 hpost
  have z1:((i:Int)==(i:Int)+1)=false:=by simp;omega
  have b1:(0:Int)<=(i:Int):=by omega
  have b2:(i:Int)<=(i:Int)+1:=by omega
  have b3:(i:Int)+1<=((i+1:Nat):Int):=by omega
  have b4:((i+1:Nat):Int)<=((i+1:Nat):Int):=by omega
  have b5:(i:Int)<=((i+1:Nat):Int):=by omega
  have b6:((i:Int)+1).toNat=i+1:=by omega
  have b7:(0:Int)<=(i:Int)+1:=by omega
  go_enter Tryz.func75,Tryz.ntmps75
  go_upto_region 5 with fail
  go_still_tail 6,(by kernel_rfl)
  change wpList _ _ _ _ _ w.drew
  go_upto_region 6 with (at_builtin;refine wpl_append_eq rfl _ _ 25 25 rfl _ _ rfl rfl HR1.out ?_)
  apply wp_region_lit
  refine wpl_move rfl (.tmp 0) rfl (.slice (some ⟨g,0,none⟩) i (i+1)) rfl ?_
  refine wpl_move rfl (.tmp 0) rfl (.slice (some ⟨g,0,none⟩) i (i+1)) rfl ?_
  go_wp2_with (refine wpl_clear_eq rfl (.tmp 31) 25 rfl (.slice (some ⟨g,i * 16,none⟩) 1 1) rfl HR2.out ?_)
  try go_ret
  exact HPOST.out
 ·have HR1:=hid hr1
  have HR2:Hid ((Builtin.clear_ #[25] 0 #[.slice (some ⟨g,(n - 1) * 16,none⟩) (n - (n - 1)) (cap - (n - 1))]).run Tryz.prog w2=.ok (.tuple #[]) w3):=hid (by rw [show n - (n - 1)=1 by omega];exact hr2)
  have HPOST:=hid hpost
  clear hr1 hr2 hpost
  have z1:((i:Int)==(i:Int)+1)=false:=by simp;omega
  have b1:(0:Int)<=(i:Int):=by omega
  have b2:(i:Int)<=(i:Int)+1:=by omega
  have b3:(i:Int)+1<=(n:Int):=by omega
  have b4:(n:Int)<=(cap:Int):=by omega
  have b5:(i:Int)<=(cap:Int):=by omega
  have b6:((i:Int)+1).toNat=i+1:=by omega
  have b7:(0:Int)<=(i:Int)+1:=by omega
  go_enter Tryz.func75,Tryz.ntmps75
  go_upto_region 5 with fail
  go_still_tail 6,(by kernel_rfl)
  change wpList _ _ _ _ _ w.drew
  go_upto_region 6 with (at_builtin;refine wpl_append_eq rfl _ _ 25 25 rfl _ _ rfl rfl HR1.out ?_)
  apply wp_region_lit
  refine wpl_move rfl (.tmp 0) rfl (.slice (some ⟨g,0,none⟩) (n - 1) cap) rfl ?_
  refine wpl_move rfl (.tmp 0) rfl (.slice (some ⟨g,0,none⟩) (n - 1) cap) rfl ?_
  go_wp2_with (refine wpl_clear_eq rfl (.tmp 31) 25 rfl (.slice (some ⟨g,(n - 1) * 16,none⟩) (n - (n - 1)) (cap - (n - 1))) rfl HR2.out ?_)
  try go_ret
  exact HPOST.out
end Go.Proofs.YtgnonbdkmmkdgaaGreatDoor
