/-
  Lemmas for the statement: plain laws, and what functions answer; the conditions stand in each.
-/
import Derived.Test.YtgnonbdkmmkdgaaGreatDoorChainTypedAllQ25
set_option linter.unusedVariables false
set_option linter.unusedSimpArgs false
set_option maxHeartbeats 16000000
set_option maxRecDepth 100000
open Go.Lib (hid)
namespace Go.Proofs.YtgnonbdkmmkdgaaGreatDoor
open Go.RowKit Gx
def DefOk:Nat->Ty->Prop
 | 0,_=>False
 | d+1,a=>(∀ b∈a.t,DefOk d b)/\∀ f∈a.f,(f.h=true->Fit true f.t f.d)/\DefOk d f.t
def DefPost (P:Prop) (w:World) (e:Ending) (w':World):Prop:=∃ b:Bool,e=.returned (.bool b)/\(b=true↔P)/\Below w.heap.size w w'
theorem defaults_any {J:Nat} {r:Lt}:∀ (d:Nat) (T:Lt) (w:World),JAt w J r true->Tabs w->TyAt w (fun _=>True) T->Seen d T.v ->
 Calls Tryz.prog 25 #[.pointer (some ⟨J,0,none⟩),T.val] w (DefPost (DefOk d T.v) w):=by
 intro d
 induction d with
 | zero=>exact fun T w _ _ _ h=>h.elim
 | succ d ih =>
   intro T w hj hT hq hs
   have hb:=(Below.refl w.heap.size w).alloc (Nat.le_refl _) (.cells #[.int .i64 T.v.k,.int .i64 T.v.lo,.int .i64 T.v.hi,.slice T.xd T.v.x.length T.xc,.slice T.td T.v.t.length T.tc,.slice T.fd T.v.f.length T.fc,.string T.v.n] 27)
   have hc:=heap_alloc_new w (.cells #[.int .i64 T.v.k,.int .i64 T.v.lo,.int .i64 T.v.hi,.slice T.xd T.v.x.length T.xc,.slice T.td T.v.t.length T.tc,.slice T.fd T.v.f.length T.fc,.string T.v.n] 27)
   have HJ:=hid (hj.keep hb)
   have HTB:=hid (hT.keep hb)
   have HQ:=hid (hq.keep hb)
   have HB:=hid hb
   have HS:=hid hs
   have IH:=hid ih
   have htw:=hq.t.wide
   rw [tf_len] at htw
   have hfw:=hq.f.wide
   obtain ⟨nt,hnt⟩:∃ nt,T.v.t.length=nt:=⟨_,rfl⟩
   obtain ⟨nf,hnf⟩:∃ nf,T.v.f.length=nf:=⟨_,rfl⟩
   have HNT:=hid hnt
   have HNF:=hid hnf
   have HPOST:Hid (∀ W b,Below w.heap.size w W->(b=true↔DefOk (d+1) T.v)->DefPost (DefOk (d+1) T.v) w (.returned (.bool b)) W):=hid (fun W b h1 h2=>⟨b,rfl,h2,h1⟩)
   rw [hnt] at htw
   rw [hnf] at hfw
   rw [hnt,hnf] at hc HJ HTB HQ HB
   generalize hPP:DefPost (DefOk (d+1) T.v) w=PP at HPOST ⊢
   unfold Lt.val
   rw [hnt,hnf]
   generalize hta:T.td=ta at *
   generalize hfa:T.fd=fa at *
   have HTA:=hid hta
   have HFA:=hid hfa
   clear hb hj hT hq hs ih hnt hnf hPP hta hfa
   go_enter Tryz.func25,Tryz.ntmps25
   go_upto_region 1 with fail
   generalize World.alloc w _=w1 at hc HB HJ HTB HQ ⊢
   generalize hTb:w.heap.size=Tb at hc ⊢
   obtain ⟨c0,c1,c2,c3,c4,c5,c6,-⟩:=ty_cells hc
   have HTC:=hid hc
   clear hc hTb
   go_wp2_with fail
   clear c0 c1 c2 c3 c4 c5 c6
   go_loopw [14] (fun v14 wr=>∃ k:Nat,k<=nt/\v14=.int .i64 k/\Hid (∀ j y,j<k->T.v.t[j]?=some y->DefOk d y)/\Hid (Below w1.heap.size w1 wr)) (fun v14 _=>nt - (intOf v14).toNat)
   case atStart=>exact ⟨0,Nat.zero_le _,rfl,hid (fun j y h=>by omega),hid (Below.refl _ _)⟩
   case round =>
    obtain ⟨k,hkn,rfl,HFr,HBr⟩:=hrel
    by_cases hlt:k<nt
    ·obtain ⟨x,hx⟩:∃ x,T.v.t[k]?=some x:=⟨_,List.getElem?_eq_getElem (by rw [HNT.out];exact hlt)⟩
     obtain ⟨b1,o1,hd1,-,hbl1,hcs1⟩:=HQ.out.t.elem (by rw [HNT.out];omega)
     rw [HTA.out] at hd1
     subst hd1
     obtain ⟨q1,hq1,hv1,hg1⟩:=hcs1 k x hx
     obtain ⟨d0,d1,d2,d3,d4,d5,d6⟩:=hg1.through (HBr.out.block _ hbl1)
     have hba:=(Below.refl wr.heap.size wr).alloc (Nat.le_refl _) (.cells #[.int .i64 q1.v.k,.int .i64 q1.v.lo,.int .i64 q1.v.hi,.slice q1.xd q1.v.x.length q1.xc,.slice q1.td q1.v.t.length q1.tc,.slice q1.fd q1.v.f.length q1.fc,.string q1.v.n] 27)
     have hxb:=heap_alloc_new wr (.cells #[.int .i64 q1.v.k,.int .i64 q1.v.lo,.int .i64 q1.v.hi,.slice q1.xd q1.v.x.length q1.xc,.slice q1.td q1.v.t.length q1.tc,.slice q1.fd q1.v.f.length q1.fc,.string q1.v.n] 27)
     have HBa:=hid (HBr.out.trans (hba.mono HBr.out.size))
     have hmem:x∈T.v.t:=List.mem_of_getElem? hx
     have HCD:Hid (∀ W,Below w1.heap.size w1 W->Calls Tryz.prog 25 #[.pointer (some ⟨J,0,none⟩),q1.val] W (DefPost (DefOk d x) W)):=hid (fun W hW=>by
      have:=IH.out q1 W (HJ.out.keep hW) (HTB.out.keep hW) (hv1.keep hW) (by rw [hq1];exact HS.out.2 x (kids_t hmem))
      rwa [hq1] at this)
     unfold Lt.val at HCD
     have r1:(0:Int)<=(k:Int):=by omega
     have r2:(k:Int)<(nt:Int):=by omega
     have HX:=hid hx
     have HM:=hid hmem
     clear hcs1 hx hq1 hv1 hba hg1 hmem HBr
     go_upto_region 4 with fail
     generalize World.alloc wr _=wx at hxb HBa ⊢
     generalize hxbe:wr.heap.size=xb at hxb ⊢
     clear hxbe d0 d1 d2 d3 d4 d5 d6
     obtain ⟨e0,e1,e2,e3,e4,e5,e6,-⟩:=ty_cells hxb
     clear hxb
     go_wp2_with fail
     (with_reducible refine (HCD.out _ HBa.out).mono ?_)
     rintro e w2 ⟨b,rfl,hbb,hb2⟩
     have HB2:=hid (HBa.out.trans (hb2.mono HBa.out.size))
     have HBB:=hid hbb
     clear e0 e1 e2 e3 e4 e5 e6 hb2 hbb HCD HBa
     cases b with
     | true =>
       have H1:Hid (∀ j y,j<k+1->T.v.t[j]?=some y->DefOk d y):=hid (fun j y hj hy=>by
        by_cases e:j=k
        ·subst e;rw [HX.out] at hy;cases hy;exact HBB.out.1 rfl
        ·exact HFr.out j y (by omega) hy)
       clear HFr HX HM HBB
       go_wp2_with fail
       go_roundw
       case rel=>exact ⟨k+1,by omega,by go_num,H1,HB2⟩
       case measure=>simp [intOf];omega
     | false =>
       have HR:=hid (HPOST.out w2 false (HB.out.trans (HB2.out.mono HB.out.size)) ⟨fun h=>(by cases h),fun h=>absurd (HBB.out.2 (h.1 x HM.out)) (by decide)⟩)
       clear HFr HX HM HBB HB2 HPOST IH HS HQ
       go_wp2_with fail
       try go_ret
       exact HR.out
    ·obtain rfl:k=nt:=by omega
     have HALL:Hid (∀ y∈T.v.t,DefOk d y):=hid (fun y hy=>by
      obtain ⟨j,hj⟩:=List.getElem?_of_mem hy
      exact HFr.out j y (by have:=(List.getElem?_eq_some_iff.1 hj).1;rw [HNT.out] at this;exact this) hj)
     obtain ⟨c0,c1,c2,c3,c4,c5,c6,-⟩:=ty_cells ((HBr.out.block _ (Array.getElem?_eq_some_iff.1 HTC.out).1).trans HTC.out)
     have HBL:Hid (Below w1.heap.size w1 wr):=HBr
     clear HFr HBr
     go_wp2_with fail
     clear c0 c1 c2 c3 c4 c5 c6
     go_loopw [26] (fun v26 wr2=>∃ k:Nat,k<=nf/\v26=.int .i64 k/\Hid (∀ j y,j<k->T.v.f[j]?=some y->(y.h=true->Fit true y.t y.d)/\DefOk d y.t)/\Hid (Below w1.heap.size w1 wr2)) (fun v26 _=>nf - (intOf v26).toNat)
     case atStart=>exact ⟨0,Nat.zero_le _,rfl,hid (fun j y h=>by omega),HBL⟩
     case round =>
      obtain ⟨k,hkn,rfl,HFr,HBr⟩:=hrel
      by_cases hlt:k<nf
      ·obtain ⟨x,hx⟩:∃ x,T.v.f[k]?=some x:=⟨_,List.getElem?_eq_getElem (by rw [HNF.out];exact hlt)⟩
       obtain ⟨b1,o1,hd1,-,hbl1,hcs1⟩:=HQ.out.f.fieldF (by rw [HNF.out];omega)
       rw [HFA.out] at hd1
       subst hd1
       obtain ⟨p,hp,hpt,hpd,-,hpc⟩:=hcs1 k x hx
       obtain ⟨d0,d1,d2,d3,d4,d5,d6,d7,d8,d9,d10,d11,d12,d13,d14,d15⟩:=hpc.through (w':=wr) (HBr.out.block _ hbl1)
       have hba:=(Below.refl wr.heap.size wr).alloc (Nat.le_refl _) (.cells #[.string p.n,.bool p.o,.bool p.h,.int .i64 p.t.v.k,.int .i64 p.t.v.lo,.int .i64 p.t.v.hi,.slice p.t.xd p.t.v.x.length p.t.xc,.slice p.t.td p.t.v.t.length p.t.tc,.slice p.t.fd p.t.v.f.length p.t.fc,.string p.t.v.n,.int .i64 p.d.v.k,.int .i64 p.d.v.n,.int .u64 p.d.v.f,.string p.d.v.s,.slice p.d.ad p.d.v.l.length p.d.cap,.slice p.d.bd p.d.v.e.length p.d.dap] 65)
       have hfb:=heap_alloc_new wr (.cells #[.string p.n,.bool p.o,.bool p.h,.int .i64 p.t.v.k,.int .i64 p.t.v.lo,.int .i64 p.t.v.hi,.slice p.t.xd p.t.v.x.length p.t.xc,.slice p.t.td p.t.v.t.length p.t.tc,.slice p.t.fd p.t.v.f.length p.t.fc,.string p.t.v.n,.int .i64 p.d.v.k,.int .i64 p.d.v.n,.int .u64 p.d.v.f,.string p.d.v.s,.slice p.d.ad p.d.v.l.length p.d.cap,.slice p.d.bd p.d.v.e.length p.d.dap] 65)
       have HBa:=hid (HBr.out.trans (hba.mono HBr.out.size))
       have hmem:x∈T.v.f:=List.mem_of_getElem? hx
       have hxt:p.t.v=x.t:=by rw [<-hp];rfl
       have hxd:p.d.v=x.d:=by rw [<-hp];rfl
       have hxh:p.h=x.h:=by rw [<-hp];rfl
       have hsx:=HS.out.2 x.t (kids_f hmem)
       have hgd:=HS.out.gd x hmem
       have HCD:Hid (∀ W,Below w1.heap.size w1 W->Calls Tryz.prog 25 #[.pointer (some ⟨J,0,none⟩),p.t.val] W (DefPost (DefOk d x.t) W)):=hid (fun W hW=>by
        have:=IH.out p.t W (HJ.out.keep hW) (HTB.out.keep hW) (hpt.keep hW) (by rw [hxt];exact hsx)
        rwa [hxt] at this)
       have HCW:Hid (∀ W,Below w1.heap.size w1 W->Calls Tryz.prog 30 #[.pointer (some ⟨J,0,none⟩),p.t.val,p.d.val] W (FitPost (Fit true x.t x.d) 20 W)):=hid (fun W hW=>by
        have:=wrong_any 20 (by omega) p.t p.d W ⟨HJ.out.keep hW,HTB.out.keep hW,hpt.keep hW,hpd.keep hW⟩ (by rw [hxt];exact hsx.tok) (by rw [hxd];exact hgd)
        rwa [hxt,hxd] at this)
       unfold Lt.val at HCD HCW
       unfold Loc.val at HCW
       have r1:(0:Int)<=(k:Int):=by omega
       have r2:(k:Int)<(nf:Int):=by omega
       have HX:=hid hx
       have HM:=hid hmem
       have HXH:=hid hxh
       clear hcs1 hx hp hpt hpd hpc hba hmem hxt hxd hxh hsx hgd HBr
       go_upto_region 10 with fail
       generalize World.alloc wr _=wx at hfb HBa ⊢
       generalize hxbe:wr.heap.size=xb at hfb ⊢
       clear hxbe d0 d1 d2 d3 d4 d5 d6 d7 d8 d9 d10 d11 d12 d13 d14 d15
       obtain ⟨z0,z1,z2,z3,z4,z5,z6,z7,z8,z9,z10,z11,z12,z13,z14,z15⟩:=FcAt.box hfb
       have HFB:=hid hfb
       obtain ⟨ph,hph⟩:∃ ph,p.h=ph:=⟨_,rfl⟩
       rw [hph] at z2
       have HPH:Hid (x.h=ph):=hid (by rw [<-HXH.out];exact hph)
       have HEND:Hid (∀ b:Bool,(b=true↔DefOk d x.t)->(x.h=true->Fit true x.t x.d)->b=true->∀ j y,j<k+1->T.v.f[j]?=some y->(y.h=true->Fit true y.t y.d)/\DefOk d y.t):=hid (fun b hb hfit hbt j y hj hy=>by
        by_cases e:j=k
        ·subst e;rw [HX.out] at hy;cases hy;exact ⟨hfit,hb.1 hbt⟩
        ·exact HFr.out j y (by omega) hy)
       have HNO:Hid (∀ W,Below w1.heap.size w1 W->¬ ((x.h=true->Fit true x.t x.d)/\DefOk d x.t)->PP (.returned (.bool false)) W):=hid (fun W hW hn=>HPOST.out W false (HB.out.trans (hW.mono HB.out.size)) ⟨fun h=>(by cases h),fun h=>absurd (h.2 x HM.out) hn⟩)
       clear hfb HFr HX HM HXH hph
       cases ph with
       | false =>
         have hfit:x.h=true->Fit true x.t x.d:=fun h=>by rw [HPH.out] at h;cases h
         have HFIT:=hid hfit
         clear hfit HCW
         go_wp2_with fail
         (with_reducible refine (HCD.out _ HBa.out).mono ?_)
         rintro e w2 ⟨b,rfl,hbb,hb2⟩
         have HB2:=hid (HBa.out.trans (hb2.mono HBa.out.size))
         have HBB:=hid hbb
         clear hb2 hbb HCD HBa z0 z1 z2 z3 z4 z5 z6 z7 z8 z9 z10 z11 z12 z13 z14 z15
         cases b with
         | true =>
           have H1:=hid (HEND.out true HBB.out HFIT.out rfl)
           clear HEND HNO HBB HFIT
           go_wp2_with fail
           go_roundw
           case rel=>exact ⟨k+1,by omega,by go_num,H1,HB2⟩
           case measure=>simp [intOf];omega
         | false =>
           have HR:=hid (HNO.out w2 HB2.out (fun h=>absurd (HBB.out.2 h.2) (by decide)))
           clear HEND HNO HBB HFIT HPOST IH HS HQ HB2
           go_wp2_with fail
           try go_ret
           exact HR.out
       | true =>
         go_wp2_with fail
         (with_reducible refine (HCW.out _ HBa.out).mono ?_)
         rintro e w2 ⟨ad,pl,pc,bad,rfl,hbad,-,hb2⟩
         have HB2:=hid (HBa.out.trans (hb2.mono HBa.out.size))
         have HBAD:=hid hbad
         have hfb2:=(hb2.block _ (Array.getElem?_eq_some_iff.1 HFB.out).1).trans HFB.out
         clear hb2 hbad HCW HBa z0 z1 z2 z3 z4 z5 z6 z7 z8 z9 z10 z11 z12 z13 z14 z15
         cases bad with
         | true =>
           have HR:=hid (HNO.out w2 HB2.out (fun h=>absurd (HBAD.out.2 (h.1 HPH.out)) (by decide)))
           clear HEND HNO HBAD HPOST IH HS HQ HB2 hfb2
           go_wp2_with fail
           try go_ret
           exact HR.out
         | false =>
           have HFIT:Hid (x.h=true->Fit true x.t x.d):=hid (fun _=>HBAD.out.1 rfl)
           obtain ⟨z0,z1,z2,z3,z4,z5,z6,z7,z8,z9,z10,z11,z12,z13,z14,z15⟩:=FcAt.box hfb2
           clear HBAD hfb2
           go_wp2_with fail
           (with_reducible refine (HCD.out _ HB2.out).mono ?_)
           rintro e w3 ⟨b,rfl,hbb,hb3⟩
           have HB3:=hid (HB2.out.trans (hb3.mono HB2.out.size))
           have HBB:=hid hbb
           clear hb3 hbb HCD HB2 z0 z1 z2 z3 z4 z5 z6 z7 z8 z9 z10 z11 z12 z13 z14 z15
           cases b with
           | true =>
             have H1:=hid (HEND.out true HBB.out HFIT.out rfl)
             clear HEND HNO HBB HFIT
             go_wp2_with fail
             go_roundw
             case rel=>exact ⟨k+1,by omega,by go_num,H1,HB3⟩
             case measure=>simp [intOf];omega
           | false =>
             have HR:=hid (HNO.out w3 HB3.out (fun h=>absurd (HBB.out.2 h.2) (by decide)))
             clear HEND HNO HBB HFIT HPOST IH HS HQ HB3
             go_wp2_with fail
             try go_ret
             exact HR.out
      ·obtain rfl:k=nf:=by omega
       have HR:=hid (HPOST.out wr true (HB.out.trans (HBr.out.mono HB.out.size)) ⟨fun _=>⟨HALL.out,fun f hf=>by
        obtain ⟨j,hj⟩:=List.getElem?_of_mem hf
        exact HFr.out j f (by have:=(List.getElem?_eq_some_iff.1 hj).1;rw [HNF.out] at this;exact this) hj⟩,fun _=>rfl⟩)
       clear HFr HBr HALL HPOST IH HS HQ
       go_wp2_with fail
       try go_ret
       exact HR.out
end Go.Proofs.YtgnonbdkmmkdgaaGreatDoor
