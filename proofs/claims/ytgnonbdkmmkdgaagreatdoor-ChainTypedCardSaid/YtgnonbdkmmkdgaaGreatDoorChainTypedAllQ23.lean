/-
  Lemmas for the statement: plain laws, and what functions answer; the conditions stand in each.
-/
import Derived.Test.YtgnonbdkmmkdgaaGreatDoorChainTypedAllQ21
set_option linter.unusedVariables false
set_option linter.unusedSimpArgs false
set_option maxHeartbeats 16000000
set_option maxRecDepth 100000
open Go.Lib (hid)
namespace Go.Proofs.YtgnonbdkmmkdgaaGreatDoor
open Go.RowKit Gx
theorem of_list_any (K:List ByteArray) (hKn:K.length<=2000) (d:Nat) (IH:OfC K d) (q:Loc) (w:World) (hg:Gd (d+1) q.v) (hki:KIn K (d+1) q.v) (hq:VAt w (fun _=>True) q) (hT:Tabs w) (h5:q.v.k=5):Calls Tryz.prog 95 #[q.val] w (OfPost K (d+1) q.v w):=by
 have hIH:=hid IH
 have HK:=hid h5
 clear h5 IH
 have hom:=OM.start w #[.int .i64 q.v.k,.int .i64 q.v.n,.int .u64 q.v.f,.string q.v.s,.slice q.ad q.v.l.length q.cap,.slice q.bd q.v.e.length q.dap]
 have hok:=hg.ok
 unfold Loc.val
 obtain ⟨nl,hnl⟩:∃ m,q.v.l.length=m:=⟨_,rfl⟩
 obtain ⟨ne,hne⟩:∃ m,q.v.e.length=m:=⟨_,rfl⟩
 rw [hnl,hne] at hom ⊢
 have HNL:=hid hnl
 have HNE:=hid hne
 have HQ:=hid hq
 have HT:=hid hT
 have HG:=hid hg
 have HKI:=hid hki
 have HOK:=hid hok
 clear hnl hne hq hT hg hki hok
 go_enter Tryz.func95,Tryz.ntmps95
 go_upto_region 1 with fail
 generalize World.alloc (World.alloc w _) _=w1 at hom ⊢
 have HO:=hid hom
 clear hom
 have hl200:=(ownV_zero HG.out.1).2.2.1
 rw [HNL.out] at hl200
 obtain ⟨qb,hqb⟩:∃ m,q.ad=m:=⟨_,rfl⟩
 rw [hqb] at HO
 have HQB:=hid hqb
 clear hqb
 obtain ⟨a0,a1,a2,a3,a4,a5,-⟩:=six_cells HO.out.bx
 rw [HK.out] at a0
 have hnb:=(Below.refl w1.heap.size w1).alloc (Nat.le_refl _) (.cells #[.int .i64 11,.int .i64 0,.int .i64 0,.slice none 0 0,.slice none 0 0,.slice none 0 0,.string ⟨#[]⟩] 27)
 have hnc:=heap_alloc_new w1 (.cells #[.int .i64 11,.int .i64 0,.int .i64 0,.slice none 0 0,.slice none 0 0,.slice none 0 0,.string ⟨#[]⟩] 27)
 have HS0:Hid (OLs w #[.int .i64 q.v.k,.int .i64 q.v.n,.int .u64 q.v.f,.string q.v.s,.slice qb nl q.cap,.slice q.bd ne q.dap] w1.heap.size ⟨.mk 11 0 0 [] [] [] ⟨#[]⟩,none,0,none,0,none,0⟩ (w1.alloc (.cells #[.int .i64 11,.int .i64 0,.int .i64 0,.slice none 0 0,.slice none 0 0,.slice none 0 0,.string ⟨#[]⟩] 27))):=hid ⟨HO.out.keep hnb,hnc,⟨wf11 [],.nil _ _,.nil _ _ _,.nil _ _ _⟩,HO.out.vlt⟩
 clear hnb hnc
 go_upto_region 14 with fail
 generalize World.alloc w1 _=w2 at HS0 ⊢
 obtain ⟨tb,htb⟩:∃ tb,w1.heap.size=tb:=⟨_,rfl⟩
 rw [htb] at HS0 ⊢
 clear htb a0 a1 a2 a3 a4 a5 HO
 obtain ⟨a0,a1,a2,a3,a4,a5,-⟩:=six_cells HS0.out.rb.bx
 go_wp2_with fail
 clear a0 a1 a2 a3 a4 a5
 have HJ0:Hid (Jn K d (Ty.mk 11 0 0 [] [] [] ⟨#[]⟩)):=hid (jn_none rfl rfl)
 go_loopw [44] (fun v44 wr=>∃ (j:Nat) (t:Lt),j<=nl/\v44=.int .i64 j/\Hid (OLs w #[.int .i64 q.v.k,.int .i64 q.v.n,.int .u64 q.v.f,.string q.v.s,.slice qb nl q.cap,.slice q.bd ne q.dap] tb t wr)/\Hid (Jn K d t.v)/\Hid (∀ i z,i<j->q.v.l[i]?=some z->Fit false t.v z)) (fun v44 _=>nl - (intOf v44).toNat)
 case atStart=>exact ⟨0,_,Nat.zero_le _,rfl,HS0,HJ0,hid (fun i z h=>by omega)⟩
 case round =>
  obtain ⟨j,t,hj,rfl,HS,HJ,HF⟩:=hrel
  clear HS0 HJ0
  by_cases hlt:j<nl
  ·obtain ⟨x0,hx0⟩:∃ f,q.v.l[j]?=some f:=⟨_,List.getElem?_eq_getElem (by rw [HNL.out];exact hlt)⟩
   obtain ⟨b1,o1,hd1,-,hbl1,hcs1⟩:=HQ.out.l.elem (by rw [HNL.out];omega)
   obtain rfl:qb=some ⟨b1,o1,none⟩:=by rw [<-HQB.out];exact hd1
   obtain ⟨p1,hp1,hpa1,hpc1⟩:=hcs1 j x0 hx0
   have hg:=HS.out.rb.g
   obtain ⟨d0,d1,d2,d3,d4,d5⟩:=hpc1.through (hg.block _ hbl1)
   have r1:(0:Int)<=(j:Int):=by omega
   have r2:(j:Int)<(nl:Int):=by omega
   have r4:(j:Int).toNat=j:=rfl
   have hba:=(Below.refl wr.heap.size wr).alloc (Nat.le_refl _) (.cells #[.int .i64 p1.v.k,.int .i64 p1.v.n,.int .u64 p1.v.f,.string p1.v.s,.slice p1.ad p1.v.l.length p1.cap,.slice p1.bd p1.v.e.length p1.dap] 32)
   have hcb:=heap_alloc_new wr (.cells #[.int .i64 p1.v.k,.int .i64 p1.v.n,.int .u64 p1.v.f,.string p1.v.s,.slice p1.ad p1.v.l.length p1.cap,.slice p1.bd p1.v.e.length p1.dap] 32)
   have HX0:Hid (OX w #[.int .i64 q.v.k,.int .i64 q.v.n,.int .u64 q.v.f,.string q.v.s,.slice (some ⟨b1,o1,none⟩) nl q.cap,.slice q.bd ne q.dap] tb t wr.heap.size p1 (wr.alloc (.cells #[.int .i64 p1.v.k,.int .i64 p1.v.n,.int .u64 p1.v.f,.string p1.v.s,.slice p1.ad p1.v.l.length p1.cap,.slice p1.bd p1.v.e.length p1.dap] 32))):=hid ⟨HS.out.keep hba,hcb⟩
   have hgx:Gd d p1.v:=by rw [hp1];exact HG.out.l x0 (List.mem_of_getElem? hx0)
   have hkx:KIn K d p1.v:=by rw [hp1];exact HKI.out.2 x0 (List.mem_append_left _ (List.mem_of_getElem? hx0))
   have HOF:Hid (∀ W,OX w #[.int .i64 q.v.k,.int .i64 q.v.n,.int .u64 q.v.f,.string q.v.s,.slice (some ⟨b1,o1,none⟩) nl q.cap,.slice q.bd ne q.dap] tb t wr.heap.size p1 W->Calls Tryz.prog 95 #[.agg #[.int .i64 p1.v.k,.int .i64 p1.v.n,.int .u64 p1.v.f,.string p1.v.s,.slice p1.ad p1.v.l.length p1.cap,.slice p1.bd p1.v.e.length p1.dap]] W (OfPost K d p1.v W)):=hid (fun W hW=>hIH.out p1 W hgx hkx (hpa1.keep hW.s.rb.g) (HT.out.keep hW.s.rb.g))
   have HX1:=hid hx0
   have HP1:=hid hp1
   clear hcs1 hx0 hp1 hpa1 hpc1 hg hba hcb hgx hkx hd1
   go_upto_region 17 with fail
   clear d0 d1 d2 d3 d4 d5
   generalize World.alloc wr _=wx at HX0 ⊢
   obtain ⟨xb,hxb⟩:∃ xb,wr.heap.size=xb:=⟨_,rfl⟩
   rw [hxb] at HX0 HOF ⊢
   clear hxb
   have HXd:Hid (OX w #[.int .i64 q.v.k,.int .i64 q.v.n,.int .u64 q.v.f,.string q.v.s,.slice (some ⟨b1,o1,none⟩) nl q.cap,.slice q.bd ne q.dap] tb t xb p1 wx.drew):=hid (HX0.out.keep (Gx.drewN_below wx 1 _))
   unfold OfPost at HOF
   have HJC:Hid (∀ (jv:Value) (y:Lt) (W:World),OX w #[.int .i64 q.v.k,.int .i64 q.v.n,.int .u64 q.v.f,.string q.v.s,.slice (some ⟨b1,o1,none⟩) nl q.cap,.slice q.bd ne q.dap] tb t xb p1 W->OfK K d p1.v y.v->TyAt W (fun b=>w.heap.size+1<b/\b≠tb) y->Calls Tryz.prog 114 #[jv,.agg #[.int .i64 t.v.k,.int .i64 t.v.lo,.int .i64 t.v.hi,.slice t.xd t.v.x.length t.xc,.slice t.td t.v.t.length t.tc,.slice t.fd t.v.f.length t.fc,.string t.v.n],.agg #[.int .i64 y.v.k,.int .i64 y.v.lo,.int .i64 y.v.hi,.slice y.xd y.v.x.length y.xc,.slice y.td y.v.t.length y.tc,.slice y.fd y.v.f.length y.fc,.string y.v.n]] W (JoinPost K d t.v y.v (fun b=>w.heap.size+1<b/\b≠tb) W)):=hid (fun jv y W hW hy hya=>joinC_all K hKn d jv t y (fun b=>w.heap.size+1<b/\b≠tb) W HJ.out hy.p.jn hW.s.ht hya (fun b hb=>by
    have h1:=hW.s.rb.vlt
    have h2:=(Array.getElem?_eq_some_iff.1 hW.s.bt).1
    exact ⟨by omega,by omega⟩))
   unfold JoinPost at HJC
   obtain ⟨e0,e1,e2,e3,e4,e5,-⟩:=six_cells HX0.out.x
   refine wp_region_held_drew (S:=fun w'=>World.cell? w' ⟨xb,0,none⟩=some (.int .i64 p1.v.k)/\World.cell? w' ⟨xb,1,none⟩=some (.int .i64 p1.v.n)/\World.cell? w' ⟨xb,2,none⟩=some (.int .u64 p1.v.f)/\World.cell? w' ⟨xb,3,none⟩=some (.string p1.v.s)/\World.cell? w' ⟨xb,4,none⟩=some (.slice p1.ad p1.v.l.length p1.cap)/\World.cell? w' ⟨xb,5,none⟩=some (.slice p1.bd p1.v.e.length p1.dap)) (by kernel_rfl) ⟨e0,e1,e2,e3,e4,e5⟩ (fun hHeld=>?_)
   generalize World.drew wx=wd at HXd hHeld ⊢
   clear e0 e1 e2 e3 e4 e5 HX0
   refine wpAnyH_take (i:=2) (v:=.agg #[.int .i64 p1.v.k,.int .i64 p1.v.n,.int .u64 p1.v.f,.string p1.v.s,.slice p1.ad p1.v.l.length p1.cap,.slice p1.bd p1.v.e.length p1.dap]) rfl (by kernel_rfl) (by kernel_rfl) (by kernel_rfl) (fun _ _ _ h=>h) (Or.inl ⟨by kernel_rfl,fun w' hSw=>?_⟩) (by assumption) ?_
   ·obtain ⟨s0,s1,s2,s3,s4,s5⟩:=hSw;clear hHeld;go_simp;try rfl
   try simp only [Act.put,Go.setq]
   refine wpAnyH_ready (rs:=[0,1,3]) (by kernel_rfl) (by simp) ?_
   refine AllReadyH.cons rfl (fun KK hK=>?_) (AllReadyH.cons rfl (fun KK hK=>?_) (AllReadyH.cons rfl (fun KK hK=>?_) AllReadyH.nil))
   ·skip
    go_simp
    have HXa1:=hid (HXd.out.keep ((Below.refl _ _).alloc (Nat.le_refl _) (.cells #[.bool false] 172)))
    generalize hwa1:World.alloc _ (.cells #[.bool false] 172)=wa1 at HXa1 ⊢
    clear hwa1
    refine hK.out _ _ (by obtain ⟨s0,s1,s2,s3,s4,s5,-⟩:=six_cells HXa1.out.x;exact ⟨s0,s1,s2,s3,s4,s5⟩) (fun hHeld=>?_)
    clear hK KK
    try simp only [Act.put,Go.setq]
    refine wpAnyH_ready (rs:=[1,3]) (by kernel_rfl) (by simp) ?_
    refine AllReadyH.cons rfl (fun KK hK=>?_) (AllReadyH.cons rfl (fun KK hK=>?_) AllReadyH.nil)
    ·skip
     obtain ⟨m0,m1,m2,m3,m4,m5,m6,-⟩:=ty_cells HXa1.out.s.bt
     go_simp
     clear m0 m1 m2 m3 m4 m5 m6
     refine hK.out _ _ (by obtain ⟨s0,s1,s2,s3,s4,s5,-⟩:=six_cells HXa1.out.x;exact ⟨s0,s1,s2,s3,s4,s5⟩) (fun hHeld=>?_)
     clear hK KK
     try simp only [Act.put,Go.setq]
     refine wpAnyH_ready (rs:=[3]) (by kernel_rfl) (by simp) ?_
     refine AllReadyH.cons rfl (fun KK hK=>?_) AllReadyH.nil
     go_simp
     (with_reducible refine (HOF.out _ HXa1.out).mono ?_)
     rintro e wb3 ⟨y,rfl,hyk,hya,hyb⟩
     have HXb3:=hid (HXa1.out.keep hyb)
     have HYK:=hid hyk
     have HYA3:=hid (hya.weak (C:=fun b=>w.heap.size+1<b/\b≠tb) (fun b hb _=>by have h1:=HXa1.out.s.rb.vlt;have h2:=(Array.getElem?_eq_some_iff.1 HXa1.out.s.bt).1;exact ⟨by omega,by omega⟩))
     clear hyk hya hyb
     try simp only [Lt.val]
     refine hK.out _ _ (by obtain ⟨s0,s1,s2,s3,s4,s5,-⟩:=six_cells HXb3.out.x;exact ⟨s0,s1,s2,s3,s4,s5⟩) (fun hHeld=>?_)
     clear hK KK
     try simp only [Act.put,Go.setq]
     refine wpAnyH_ready (rs:=[4]) (by kernel_rfl) (by simp) ?_
     refine AllReadyH.cons rfl (fun KK hK=>?_) AllReadyH.nil
     go_simp
     (with_reducible refine (HJC.out _ y _ HXb3.out HYK.out HYA3.out).mono ?_)
     rintro e wz ⟨z,rfl,hjo,hz,hb5⟩
     have HXz:=hid (HXb3.out.keep hb5)
     have HJO:=hid hjo
     have HZ:=hid hz
     clear hjo hz hb5
     try simp only [Lt.val]
     refine hK.out _ _ (by obtain ⟨s0,s1,s2,s3,s4,s5,-⟩:=six_cells HXz.out.x;exact ⟨s0,s1,s2,s3,s4,s5⟩) (fun hHeld=>?_)
     clear hK KK
     try simp only [Act.put,Go.setq]
     refine wpAnyH_ready (rs:=[5]) (by kernel_rfl) (by simp) ?_
     refine AllReadyH.cons rfl (fun KK hK=>?_) AllReadyH.nil
     obtain ⟨m0,m1,m2,m3,m4,m5,m6,mf⟩:=ty_cells HXz.out.s.bt
     have mf0:=mf 0
     have mf1:=mf 1
     have mf2:=mf 2
     have mf3:=mf 3
     have mf4:=mf 4
     have mf5:=mf 5
     have mf6:=mf 6
     obtain ⟨W9,hW9,hr9,hg9⟩:=seven_all HXz.out.s.bt (.int .i64 z.v.k) (.int .i64 z.v.lo) (.int .i64 z.v.hi) (.slice z.xd z.v.x.length z.xc) (.slice z.td z.v.t.length z.tc) (.slice z.fd z.v.f.length z.fc) (.string z.v.n)
     have HW9:=hid hW9
     have HR9:=hid hr9
     have HG9:=hid hg9
     clear mf hW9 hr9 hg9
     go_simp
     rw [<-HW9.out]
     clear m0 m1 m2 m3 m4 m5 m6 mf0 mf1 mf2 mf3 mf4 mf5 mf6
     have hxtb:tb≠xb:=by
      intro e
      have h1:=HXz.out.x
      rw [<-e,HXz.out.s.bt] at h1
      simp at h1
     have hx9:=(HG9.out.block xb (Array.getElem?_eq_some_iff.1 HXz.out.x).1 (fun e=>hxtb (Option.some.inj e).symm)).trans HXz.out.x
     refine hK.out _ _ (by obtain ⟨s0,s1,s2,s3,s4,s5,-⟩:=six_cells hx9;exact ⟨s0,s1,s2,s3,s4,s5⟩) (fun hHeld2=>?_)
     clear hK KK
     try simp only [Act.put,Go.setq]
     refine wpAnyH_done (by kernel_rfl) ?_ _
     have HS9:Hid (OLs w #[.int .i64 q.v.k,.int .i64 q.v.n,.int .u64 q.v.f,.string q.v.s,.slice (some ⟨b1,o1,none⟩) nl q.cap,.slice q.bd ne q.dap] tb z W9):=hid ⟨HXz.out.s.rb.grow HG9.out (fun b e=>by have:=Option.some.inj e;have:=HXz.out.s.lt;omega),HR9.out,HZ.out.grow HG9.out (fun b e hb=>hb.2 (Option.some.inj e).symm),HXz.out.s.lt⟩
     have HJ9:=hid HJO.out.jn
     have HF9:Hid (∀ i c,i<j+1->q.v.l[i]?=some c->Fit false z.v c):=hid (fun i c hi hc=>by
      by_cases e:i=j
      ·subst e
       rw [HX1.out] at hc
       have e1:=Option.some.inj hc
       rw [<-e1,<-HP1.out]
       exact HJO.out.ok.r _ HYK.out.o.f
      ·exact HJO.out.ok.l _ (HF.out i c (by omega) hc))
     clear hx9 hHeld2 HR9 HG9 HXz HYK HJO HZ HW9
     go_wp2_with fail
     go_roundw
     case rel=>exact ⟨j+1,z,by omega,by go_num,HS9,HJ9,HF9⟩
     case measure=>simp [intOf];omega
    ·skip
     go_simp
     (with_reducible refine (HOF.out _ HXa1.out).mono ?_)
     rintro e wb4 ⟨y,rfl,hyk,hya,hyb⟩
     have HXb4:=hid (HXa1.out.keep hyb)
     have HYK:=hid hyk
     have HYA4:=hid (hya.weak (C:=fun b=>w.heap.size+1<b/\b≠tb) (fun b hb _=>by have h1:=HXa1.out.s.rb.vlt;have h2:=(Array.getElem?_eq_some_iff.1 HXa1.out.s.bt).1;exact ⟨by omega,by omega⟩))
     clear hyk hya hyb
     try simp only [Lt.val]
     refine hK.out _ _ (by obtain ⟨s0,s1,s2,s3,s4,s5,-⟩:=six_cells HXb4.out.x;exact ⟨s0,s1,s2,s3,s4,s5⟩) (fun hHeld=>?_)
     clear hK KK
     try simp only [Act.put,Go.setq]
     refine wpAnyH_ready (rs:=[1]) (by kernel_rfl) (by simp) ?_
     refine AllReadyH.cons rfl (fun KK hK=>?_) AllReadyH.nil
     obtain ⟨m0,m1,m2,m3,m4,m5,m6,-⟩:=ty_cells HXb4.out.s.bt
     go_simp
     clear m0 m1 m2 m3 m4 m5 m6
     refine hK.out _ _ (by obtain ⟨s0,s1,s2,s3,s4,s5,-⟩:=six_cells HXb4.out.x;exact ⟨s0,s1,s2,s3,s4,s5⟩) (fun hHeld=>?_)
     clear hK KK
     try simp only [Act.put,Go.setq]
     refine wpAnyH_ready (rs:=[4]) (by kernel_rfl) (by simp) ?_
     refine AllReadyH.cons rfl (fun KK hK=>?_) AllReadyH.nil
     go_simp
     (with_reducible refine (HJC.out _ y _ HXb4.out HYK.out HYA4.out).mono ?_)
     rintro e wz ⟨z,rfl,hjo,hz,hb5⟩
     have HXz:=hid (HXb4.out.keep hb5)
     have HJO:=hid hjo
     have HZ:=hid hz
     clear hjo hz hb5
     try simp only [Lt.val]
     refine hK.out _ _ (by obtain ⟨s0,s1,s2,s3,s4,s5,-⟩:=six_cells HXz.out.x;exact ⟨s0,s1,s2,s3,s4,s5⟩) (fun hHeld=>?_)
     clear hK KK
     try simp only [Act.put,Go.setq]
     refine wpAnyH_ready (rs:=[5]) (by kernel_rfl) (by simp) ?_
     refine AllReadyH.cons rfl (fun KK hK=>?_) AllReadyH.nil
     obtain ⟨m0,m1,m2,m3,m4,m5,m6,mf⟩:=ty_cells HXz.out.s.bt
     have mf0:=mf 0
     have mf1:=mf 1
     have mf2:=mf 2
     have mf3:=mf 3
     have mf4:=mf 4
     have mf5:=mf 5
     have mf6:=mf 6
     obtain ⟨W9,hW9,hr9,hg9⟩:=seven_all HXz.out.s.bt (.int .i64 z.v.k) (.int .i64 z.v.lo) (.int .i64 z.v.hi) (.slice z.xd z.v.x.length z.xc) (.slice z.td z.v.t.length z.tc) (.slice z.fd z.v.f.length z.fc) (.string z.v.n)
     have HW9:=hid hW9
     have HR9:=hid hr9
     have HG9:=hid hg9
     clear mf hW9 hr9 hg9
     go_simp
     rw [<-HW9.out]
     clear m0 m1 m2 m3 m4 m5 m6 mf0 mf1 mf2 mf3 mf4 mf5 mf6
     have hxtb:tb≠xb:=by
      intro e
      have h1:=HXz.out.x
      rw [<-e,HXz.out.s.bt] at h1
      simp at h1
     have hx9:=(HG9.out.block xb (Array.getElem?_eq_some_iff.1 HXz.out.x).1 (fun e=>hxtb (Option.some.inj e).symm)).trans HXz.out.x
     refine hK.out _ _ (by obtain ⟨s0,s1,s2,s3,s4,s5,-⟩:=six_cells hx9;exact ⟨s0,s1,s2,s3,s4,s5⟩) (fun hHeld2=>?_)
     clear hK KK
     try simp only [Act.put,Go.setq]
     refine wpAnyH_done (by kernel_rfl) ?_ _
     have HS9:Hid (OLs w #[.int .i64 q.v.k,.int .i64 q.v.n,.int .u64 q.v.f,.string q.v.s,.slice (some ⟨b1,o1,none⟩) nl q.cap,.slice q.bd ne q.dap] tb z W9):=hid ⟨HXz.out.s.rb.grow HG9.out (fun b e=>by have:=Option.some.inj e;have:=HXz.out.s.lt;omega),HR9.out,HZ.out.grow HG9.out (fun b e hb=>hb.2 (Option.some.inj e).symm),HXz.out.s.lt⟩
     have HJ9:=hid HJO.out.jn
     have HF9:Hid (∀ i c,i<j+1->q.v.l[i]?=some c->Fit false z.v c):=hid (fun i c hi hc=>by
      by_cases e:i=j
      ·subst e
       rw [HX1.out] at hc
       have e1:=Option.some.inj hc
       rw [<-e1,<-HP1.out]
       exact HJO.out.ok.r _ HYK.out.o.f
      ·exact HJO.out.ok.l _ (HF.out i c (by omega) hc))
     clear hx9 hHeld2 HR9 HG9 HXz HYK HJO HZ HW9
     go_wp2_with fail
     go_roundw
     case rel=>exact ⟨j+1,z,by omega,by go_num,HS9,HJ9,HF9⟩
     case measure=>simp [intOf];omega
   ·skip
    obtain ⟨m0,m1,m2,m3,m4,m5,m6,-⟩:=ty_cells HXd.out.s.bt
    go_simp
    clear m0 m1 m2 m3 m4 m5 m6
    refine hK.out _ _ (by obtain ⟨s0,s1,s2,s3,s4,s5,-⟩:=six_cells HXd.out.x;exact ⟨s0,s1,s2,s3,s4,s5⟩) (fun hHeld=>?_)
    clear hK KK
    try simp only [Act.put,Go.setq]
    refine wpAnyH_ready (rs:=[0,3]) (by kernel_rfl) (by simp) ?_
    refine AllReadyH.cons rfl (fun KK hK=>?_) (AllReadyH.cons rfl (fun KK hK=>?_) AllReadyH.nil)
    ·skip
     go_simp
     have HXa7:=hid (HXd.out.keep ((Below.refl _ _).alloc (Nat.le_refl _) (.cells #[.bool false] 172)))
     generalize hwa7:World.alloc _ (.cells #[.bool false] 172)=wa7 at HXa7 ⊢
     clear hwa7
     refine hK.out _ _ (by obtain ⟨s0,s1,s2,s3,s4,s5,-⟩:=six_cells HXa7.out.x;exact ⟨s0,s1,s2,s3,s4,s5⟩) (fun hHeld=>?_)
     clear hK KK
     try simp only [Act.put,Go.setq]
     refine wpAnyH_ready (rs:=[3]) (by kernel_rfl) (by simp) ?_
     refine AllReadyH.cons rfl (fun KK hK=>?_) AllReadyH.nil
     go_simp
     (with_reducible refine (HOF.out _ HXa7.out).mono ?_)
     rintro e wb8 ⟨y,rfl,hyk,hya,hyb⟩
     have HXb8:=hid (HXa7.out.keep hyb)
     have HYK:=hid hyk
     have HYA8:=hid (hya.weak (C:=fun b=>w.heap.size+1<b/\b≠tb) (fun b hb _=>by have h1:=HXa7.out.s.rb.vlt;have h2:=(Array.getElem?_eq_some_iff.1 HXa7.out.s.bt).1;exact ⟨by omega,by omega⟩))
     clear hyk hya hyb
     try simp only [Lt.val]
     refine hK.out _ _ (by obtain ⟨s0,s1,s2,s3,s4,s5,-⟩:=six_cells HXb8.out.x;exact ⟨s0,s1,s2,s3,s4,s5⟩) (fun hHeld=>?_)
     clear hK KK
     try simp only [Act.put,Go.setq]
     refine wpAnyH_ready (rs:=[4]) (by kernel_rfl) (by simp) ?_
     refine AllReadyH.cons rfl (fun KK hK=>?_) AllReadyH.nil
     go_simp
     (with_reducible refine (HJC.out _ y _ HXb8.out HYK.out HYA8.out).mono ?_)
     rintro e wz ⟨z,rfl,hjo,hz,hb5⟩
     have HXz:=hid (HXb8.out.keep hb5)
     have HJO:=hid hjo
     have HZ:=hid hz
     clear hjo hz hb5
     try simp only [Lt.val]
     refine hK.out _ _ (by obtain ⟨s0,s1,s2,s3,s4,s5,-⟩:=six_cells HXz.out.x;exact ⟨s0,s1,s2,s3,s4,s5⟩) (fun hHeld=>?_)
     clear hK KK
     try simp only [Act.put,Go.setq]
     refine wpAnyH_ready (rs:=[5]) (by kernel_rfl) (by simp) ?_
     refine AllReadyH.cons rfl (fun KK hK=>?_) AllReadyH.nil
     obtain ⟨m0,m1,m2,m3,m4,m5,m6,mf⟩:=ty_cells HXz.out.s.bt
     have mf0:=mf 0
     have mf1:=mf 1
     have mf2:=mf 2
     have mf3:=mf 3
     have mf4:=mf 4
     have mf5:=mf 5
     have mf6:=mf 6
     obtain ⟨W9,hW9,hr9,hg9⟩:=seven_all HXz.out.s.bt (.int .i64 z.v.k) (.int .i64 z.v.lo) (.int .i64 z.v.hi) (.slice z.xd z.v.x.length z.xc) (.slice z.td z.v.t.length z.tc) (.slice z.fd z.v.f.length z.fc) (.string z.v.n)
     have HW9:=hid hW9
     have HR9:=hid hr9
     have HG9:=hid hg9
     clear mf hW9 hr9 hg9
     go_simp
     rw [<-HW9.out]
     clear m0 m1 m2 m3 m4 m5 m6 mf0 mf1 mf2 mf3 mf4 mf5 mf6
     have hxtb:tb≠xb:=by
      intro e
      have h1:=HXz.out.x
      rw [<-e,HXz.out.s.bt] at h1
      simp at h1
     have hx9:=(HG9.out.block xb (Array.getElem?_eq_some_iff.1 HXz.out.x).1 (fun e=>hxtb (Option.some.inj e).symm)).trans HXz.out.x
     refine hK.out _ _ (by obtain ⟨s0,s1,s2,s3,s4,s5,-⟩:=six_cells hx9;exact ⟨s0,s1,s2,s3,s4,s5⟩) (fun hHeld2=>?_)
     clear hK KK
     try simp only [Act.put,Go.setq]
     refine wpAnyH_done (by kernel_rfl) ?_ _
     have HS9:Hid (OLs w #[.int .i64 q.v.k,.int .i64 q.v.n,.int .u64 q.v.f,.string q.v.s,.slice (some ⟨b1,o1,none⟩) nl q.cap,.slice q.bd ne q.dap] tb z W9):=hid ⟨HXz.out.s.rb.grow HG9.out (fun b e=>by have:=Option.some.inj e;have:=HXz.out.s.lt;omega),HR9.out,HZ.out.grow HG9.out (fun b e hb=>hb.2 (Option.some.inj e).symm),HXz.out.s.lt⟩
     have HJ9:=hid HJO.out.jn
     have HF9:Hid (∀ i c,i<j+1->q.v.l[i]?=some c->Fit false z.v c):=hid (fun i c hi hc=>by
      by_cases e:i=j
      ·subst e
       rw [HX1.out] at hc
       have e1:=Option.some.inj hc
       rw [<-e1,<-HP1.out]
       exact HJO.out.ok.r _ HYK.out.o.f
      ·exact HJO.out.ok.l _ (HF.out i c (by omega) hc))
     clear hx9 hHeld2 HR9 HG9 HXz HYK HJO HZ HW9
     go_wp2_with fail
     go_roundw
     case rel=>exact ⟨j+1,z,by omega,by go_num,HS9,HJ9,HF9⟩
     case measure=>simp [intOf];omega
    ·skip
     go_simp
     (with_reducible refine (HOF.out _ HXd.out).mono ?_)
     rintro e wb9 ⟨y,rfl,hyk,hya,hyb⟩
     have HXb9:=hid (HXd.out.keep hyb)
     have HYK:=hid hyk
     have HYA9:=hid (hya.weak (C:=fun b=>w.heap.size+1<b/\b≠tb) (fun b hb _=>by have h1:=HXd.out.s.rb.vlt;have h2:=(Array.getElem?_eq_some_iff.1 HXd.out.s.bt).1;exact ⟨by omega,by omega⟩))
     clear hyk hya hyb
     try simp only [Lt.val]
     refine hK.out _ _ (by obtain ⟨s0,s1,s2,s3,s4,s5,-⟩:=six_cells HXb9.out.x;exact ⟨s0,s1,s2,s3,s4,s5⟩) (fun hHeld=>?_)
     clear hK KK
     try simp only [Act.put,Go.setq]
     refine wpAnyH_ready (rs:=[0]) (by kernel_rfl) (by simp) ?_
     refine AllReadyH.cons rfl (fun KK hK=>?_) AllReadyH.nil
     go_simp
     have HXa10:=hid (HXb9.out.keep ((Below.refl _ _).alloc (Nat.le_refl _) (.cells #[.bool false] 172)))
     generalize hwa10:World.alloc _ (.cells #[.bool false] 172)=wa10 at HXa10 ⊢
     have HYA10:=hid (by have h:=HYA9.out.keep ((Below.refl _ _).alloc (Nat.le_refl _) (.cells #[.bool false] 172));rw [hwa10] at h;exact h)
     clear hwa10
     refine hK.out _ _ (by obtain ⟨s0,s1,s2,s3,s4,s5,-⟩:=six_cells HXa10.out.x;exact ⟨s0,s1,s2,s3,s4,s5⟩) (fun hHeld=>?_)
     clear hK KK
     try simp only [Act.put,Go.setq]
     refine wpAnyH_ready (rs:=[4]) (by kernel_rfl) (by simp) ?_
     refine AllReadyH.cons rfl (fun KK hK=>?_) AllReadyH.nil
     go_simp
     (with_reducible refine (HJC.out _ y _ HXa10.out HYK.out HYA10.out).mono ?_)
     rintro e wz ⟨z,rfl,hjo,hz,hb5⟩
     have HXz:=hid (HXa10.out.keep hb5)
     have HJO:=hid hjo
     have HZ:=hid hz
     clear hjo hz hb5
     try simp only [Lt.val]
     refine hK.out _ _ (by obtain ⟨s0,s1,s2,s3,s4,s5,-⟩:=six_cells HXz.out.x;exact ⟨s0,s1,s2,s3,s4,s5⟩) (fun hHeld=>?_)
     clear hK KK
     try simp only [Act.put,Go.setq]
     refine wpAnyH_ready (rs:=[5]) (by kernel_rfl) (by simp) ?_
     refine AllReadyH.cons rfl (fun KK hK=>?_) AllReadyH.nil
     obtain ⟨m0,m1,m2,m3,m4,m5,m6,mf⟩:=ty_cells HXz.out.s.bt
     have mf0:=mf 0
     have mf1:=mf 1
     have mf2:=mf 2
     have mf3:=mf 3
     have mf4:=mf 4
     have mf5:=mf 5
     have mf6:=mf 6
     obtain ⟨W9,hW9,hr9,hg9⟩:=seven_all HXz.out.s.bt (.int .i64 z.v.k) (.int .i64 z.v.lo) (.int .i64 z.v.hi) (.slice z.xd z.v.x.length z.xc) (.slice z.td z.v.t.length z.tc) (.slice z.fd z.v.f.length z.fc) (.string z.v.n)
     have HW9:=hid hW9
     have HR9:=hid hr9
     have HG9:=hid hg9
     clear mf hW9 hr9 hg9
     go_simp
     rw [<-HW9.out]
     clear m0 m1 m2 m3 m4 m5 m6 mf0 mf1 mf2 mf3 mf4 mf5 mf6
     have hxtb:tb≠xb:=by
      intro e
      have h1:=HXz.out.x
      rw [<-e,HXz.out.s.bt] at h1
      simp at h1
     have hx9:=(HG9.out.block xb (Array.getElem?_eq_some_iff.1 HXz.out.x).1 (fun e=>hxtb (Option.some.inj e).symm)).trans HXz.out.x
     refine hK.out _ _ (by obtain ⟨s0,s1,s2,s3,s4,s5,-⟩:=six_cells hx9;exact ⟨s0,s1,s2,s3,s4,s5⟩) (fun hHeld2=>?_)
     clear hK KK
     try simp only [Act.put,Go.setq]
     refine wpAnyH_done (by kernel_rfl) ?_ _
     have HS9:Hid (OLs w #[.int .i64 q.v.k,.int .i64 q.v.n,.int .u64 q.v.f,.string q.v.s,.slice (some ⟨b1,o1,none⟩) nl q.cap,.slice q.bd ne q.dap] tb z W9):=hid ⟨HXz.out.s.rb.grow HG9.out (fun b e=>by have:=Option.some.inj e;have:=HXz.out.s.lt;omega),HR9.out,HZ.out.grow HG9.out (fun b e hb=>hb.2 (Option.some.inj e).symm),HXz.out.s.lt⟩
     have HJ9:=hid HJO.out.jn
     have HF9:Hid (∀ i c,i<j+1->q.v.l[i]?=some c->Fit false z.v c):=hid (fun i c hi hc=>by
      by_cases e:i=j
      ·subst e
       rw [HX1.out] at hc
       have e1:=Option.some.inj hc
       rw [<-e1,<-HP1.out]
       exact HJO.out.ok.r _ HYK.out.o.f
      ·exact HJO.out.ok.l _ (HF.out i c (by omega) hc))
     clear hx9 hHeld2 HR9 HG9 HXz HYK HJO HZ HW9
     go_wp2_with fail
     go_roundw
     case rel=>exact ⟨j+1,z,by omega,by go_num,HS9,HJ9,HF9⟩
     case measure=>simp [intOf];omega
   ·skip
    go_simp
    (with_reducible refine (HOF.out _ HXd.out).mono ?_)
    rintro e wb11 ⟨y,rfl,hyk,hya,hyb⟩
    have HXb11:=hid (HXd.out.keep hyb)
    have HYK:=hid hyk
    have HYA11:=hid (hya.weak (C:=fun b=>w.heap.size+1<b/\b≠tb) (fun b hb _=>by have h1:=HXd.out.s.rb.vlt;have h2:=(Array.getElem?_eq_some_iff.1 HXd.out.s.bt).1;exact ⟨by omega,by omega⟩))
    clear hyk hya hyb
    try simp only [Lt.val]
    refine hK.out _ _ (by obtain ⟨s0,s1,s2,s3,s4,s5,-⟩:=six_cells HXb11.out.x;exact ⟨s0,s1,s2,s3,s4,s5⟩) (fun hHeld=>?_)
    clear hK KK
    try simp only [Act.put,Go.setq]
    refine wpAnyH_ready (rs:=[0,1]) (by kernel_rfl) (by simp) ?_
    refine AllReadyH.cons rfl (fun KK hK=>?_) (AllReadyH.cons rfl (fun KK hK=>?_) AllReadyH.nil)
    ·skip
     go_simp
     have HXa12:=hid (HXb11.out.keep ((Below.refl _ _).alloc (Nat.le_refl _) (.cells #[.bool false] 172)))
     generalize hwa12:World.alloc _ (.cells #[.bool false] 172)=wa12 at HXa12 ⊢
     have HYA12:=hid (by have h:=HYA11.out.keep ((Below.refl _ _).alloc (Nat.le_refl _) (.cells #[.bool false] 172));rw [hwa12] at h;exact h)
     clear hwa12
     refine hK.out _ _ (by obtain ⟨s0,s1,s2,s3,s4,s5,-⟩:=six_cells HXa12.out.x;exact ⟨s0,s1,s2,s3,s4,s5⟩) (fun hHeld=>?_)
     clear hK KK
     try simp only [Act.put,Go.setq]
     refine wpAnyH_ready (rs:=[1]) (by kernel_rfl) (by simp) ?_
     refine AllReadyH.cons rfl (fun KK hK=>?_) AllReadyH.nil
     obtain ⟨m0,m1,m2,m3,m4,m5,m6,-⟩:=ty_cells HXa12.out.s.bt
     go_simp
     clear m0 m1 m2 m3 m4 m5 m6
     refine hK.out _ _ (by obtain ⟨s0,s1,s2,s3,s4,s5,-⟩:=six_cells HXa12.out.x;exact ⟨s0,s1,s2,s3,s4,s5⟩) (fun hHeld=>?_)
     clear hK KK
     try simp only [Act.put,Go.setq]
     refine wpAnyH_ready (rs:=[4]) (by kernel_rfl) (by simp) ?_
     refine AllReadyH.cons rfl (fun KK hK=>?_) AllReadyH.nil
     go_simp
     (with_reducible refine (HJC.out _ y _ HXa12.out HYK.out HYA12.out).mono ?_)
     rintro e wz ⟨z,rfl,hjo,hz,hb5⟩
     have HXz:=hid (HXa12.out.keep hb5)
     have HJO:=hid hjo
     have HZ:=hid hz
     clear hjo hz hb5
     try simp only [Lt.val]
     refine hK.out _ _ (by obtain ⟨s0,s1,s2,s3,s4,s5,-⟩:=six_cells HXz.out.x;exact ⟨s0,s1,s2,s3,s4,s5⟩) (fun hHeld=>?_)
     clear hK KK
     try simp only [Act.put,Go.setq]
     refine wpAnyH_ready (rs:=[5]) (by kernel_rfl) (by simp) ?_
     refine AllReadyH.cons rfl (fun KK hK=>?_) AllReadyH.nil
     obtain ⟨m0,m1,m2,m3,m4,m5,m6,mf⟩:=ty_cells HXz.out.s.bt
     have mf0:=mf 0
     have mf1:=mf 1
     have mf2:=mf 2
     have mf3:=mf 3
     have mf4:=mf 4
     have mf5:=mf 5
     have mf6:=mf 6
     obtain ⟨W9,hW9,hr9,hg9⟩:=seven_all HXz.out.s.bt (.int .i64 z.v.k) (.int .i64 z.v.lo) (.int .i64 z.v.hi) (.slice z.xd z.v.x.length z.xc) (.slice z.td z.v.t.length z.tc) (.slice z.fd z.v.f.length z.fc) (.string z.v.n)
     have HW9:=hid hW9
     have HR9:=hid hr9
     have HG9:=hid hg9
     clear mf hW9 hr9 hg9
     go_simp
     rw [<-HW9.out]
     clear m0 m1 m2 m3 m4 m5 m6 mf0 mf1 mf2 mf3 mf4 mf5 mf6
     have hxtb:tb≠xb:=by
      intro e
      have h1:=HXz.out.x
      rw [<-e,HXz.out.s.bt] at h1
      simp at h1
     have hx9:=(HG9.out.block xb (Array.getElem?_eq_some_iff.1 HXz.out.x).1 (fun e=>hxtb (Option.some.inj e).symm)).trans HXz.out.x
     refine hK.out _ _ (by obtain ⟨s0,s1,s2,s3,s4,s5,-⟩:=six_cells hx9;exact ⟨s0,s1,s2,s3,s4,s5⟩) (fun hHeld2=>?_)
     clear hK KK
     try simp only [Act.put,Go.setq]
     refine wpAnyH_done (by kernel_rfl) ?_ _
     have HS9:Hid (OLs w #[.int .i64 q.v.k,.int .i64 q.v.n,.int .u64 q.v.f,.string q.v.s,.slice (some ⟨b1,o1,none⟩) nl q.cap,.slice q.bd ne q.dap] tb z W9):=hid ⟨HXz.out.s.rb.grow HG9.out (fun b e=>by have:=Option.some.inj e;have:=HXz.out.s.lt;omega),HR9.out,HZ.out.grow HG9.out (fun b e hb=>hb.2 (Option.some.inj e).symm),HXz.out.s.lt⟩
     have HJ9:=hid HJO.out.jn
     have HF9:Hid (∀ i c,i<j+1->q.v.l[i]?=some c->Fit false z.v c):=hid (fun i c hi hc=>by
      by_cases e:i=j
      ·subst e
       rw [HX1.out] at hc
       have e1:=Option.some.inj hc
       rw [<-e1,<-HP1.out]
       exact HJO.out.ok.r _ HYK.out.o.f
      ·exact HJO.out.ok.l _ (HF.out i c (by omega) hc))
     clear hx9 hHeld2 HR9 HG9 HXz HYK HJO HZ HW9
     go_wp2_with fail
     go_roundw
     case rel=>exact ⟨j+1,z,by omega,by go_num,HS9,HJ9,HF9⟩
     case measure=>simp [intOf];omega
    ·skip
     obtain ⟨m0,m1,m2,m3,m4,m5,m6,-⟩:=ty_cells HXb11.out.s.bt
     go_simp
     clear m0 m1 m2 m3 m4 m5 m6
     refine hK.out _ _ (by obtain ⟨s0,s1,s2,s3,s4,s5,-⟩:=six_cells HXb11.out.x;exact ⟨s0,s1,s2,s3,s4,s5⟩) (fun hHeld=>?_)
     clear hK KK
     try simp only [Act.put,Go.setq]
     refine wpAnyH_ready (rs:=[0]) (by kernel_rfl) (by simp) ?_
     refine AllReadyH.cons rfl (fun KK hK=>?_) AllReadyH.nil
     go_simp
     have HXa15:=hid (HXb11.out.keep ((Below.refl _ _).alloc (Nat.le_refl _) (.cells #[.bool false] 172)))
     generalize hwa15:World.alloc _ (.cells #[.bool false] 172)=wa15 at HXa15 ⊢
     have HYA15:=hid (by have h:=HYA11.out.keep ((Below.refl _ _).alloc (Nat.le_refl _) (.cells #[.bool false] 172));rw [hwa15] at h;exact h)
     clear hwa15
     refine hK.out _ _ (by obtain ⟨s0,s1,s2,s3,s4,s5,-⟩:=six_cells HXa15.out.x;exact ⟨s0,s1,s2,s3,s4,s5⟩) (fun hHeld=>?_)
     clear hK KK
     try simp only [Act.put,Go.setq]
     refine wpAnyH_ready (rs:=[4]) (by kernel_rfl) (by simp) ?_
     refine AllReadyH.cons rfl (fun KK hK=>?_) AllReadyH.nil
     go_simp
     (with_reducible refine (HJC.out _ y _ HXa15.out HYK.out HYA15.out).mono ?_)
     rintro e wz ⟨z,rfl,hjo,hz,hb5⟩
     have HXz:=hid (HXa15.out.keep hb5)
     have HJO:=hid hjo
     have HZ:=hid hz
     clear hjo hz hb5
     try simp only [Lt.val]
     refine hK.out _ _ (by obtain ⟨s0,s1,s2,s3,s4,s5,-⟩:=six_cells HXz.out.x;exact ⟨s0,s1,s2,s3,s4,s5⟩) (fun hHeld=>?_)
     clear hK KK
     try simp only [Act.put,Go.setq]
     refine wpAnyH_ready (rs:=[5]) (by kernel_rfl) (by simp) ?_
     refine AllReadyH.cons rfl (fun KK hK=>?_) AllReadyH.nil
     obtain ⟨m0,m1,m2,m3,m4,m5,m6,mf⟩:=ty_cells HXz.out.s.bt
     have mf0:=mf 0
     have mf1:=mf 1
     have mf2:=mf 2
     have mf3:=mf 3
     have mf4:=mf 4
     have mf5:=mf 5
     have mf6:=mf 6
     obtain ⟨W9,hW9,hr9,hg9⟩:=seven_all HXz.out.s.bt (.int .i64 z.v.k) (.int .i64 z.v.lo) (.int .i64 z.v.hi) (.slice z.xd z.v.x.length z.xc) (.slice z.td z.v.t.length z.tc) (.slice z.fd z.v.f.length z.fc) (.string z.v.n)
     have HW9:=hid hW9
     have HR9:=hid hr9
     have HG9:=hid hg9
     clear mf hW9 hr9 hg9
     go_simp
     rw [<-HW9.out]
     clear m0 m1 m2 m3 m4 m5 m6 mf0 mf1 mf2 mf3 mf4 mf5 mf6
     have hxtb:tb≠xb:=by
      intro e
      have h1:=HXz.out.x
      rw [<-e,HXz.out.s.bt] at h1
      simp at h1
     have hx9:=(HG9.out.block xb (Array.getElem?_eq_some_iff.1 HXz.out.x).1 (fun e=>hxtb (Option.some.inj e).symm)).trans HXz.out.x
     refine hK.out _ _ (by obtain ⟨s0,s1,s2,s3,s4,s5,-⟩:=six_cells hx9;exact ⟨s0,s1,s2,s3,s4,s5⟩) (fun hHeld2=>?_)
     clear hK KK
     try simp only [Act.put,Go.setq]
     refine wpAnyH_done (by kernel_rfl) ?_ _
     have HS9:Hid (OLs w #[.int .i64 q.v.k,.int .i64 q.v.n,.int .u64 q.v.f,.string q.v.s,.slice (some ⟨b1,o1,none⟩) nl q.cap,.slice q.bd ne q.dap] tb z W9):=hid ⟨HXz.out.s.rb.grow HG9.out (fun b e=>by have:=Option.some.inj e;have:=HXz.out.s.lt;omega),HR9.out,HZ.out.grow HG9.out (fun b e hb=>hb.2 (Option.some.inj e).symm),HXz.out.s.lt⟩
     have HJ9:=hid HJO.out.jn
     have HF9:Hid (∀ i c,i<j+1->q.v.l[i]?=some c->Fit false z.v c):=hid (fun i c hi hc=>by
      by_cases e:i=j
      ·subst e
       rw [HX1.out] at hc
       have e1:=Option.some.inj hc
       rw [<-e1,<-HP1.out]
       exact HJO.out.ok.r _ HYK.out.o.f
      ·exact HJO.out.ok.l _ (HF.out i c (by omega) hc))
     clear hx9 hHeld2 HR9 HG9 HXz HYK HJO HZ HW9
     go_wp2_with fail
     go_roundw
     case rel=>exact ⟨j+1,z,by omega,by go_num,HS9,HJ9,HF9⟩
     case measure=>simp [intOf];omega
  ·obtain rfl:j=nl:=by omega
   obtain ⟨a0,a1,a2,a3,a4,a5,-⟩:=six_cells HS.out.rb.bx
   obtain ⟨m0,m1,m2,m3,m4,m5,m6,-⟩:=ty_cells HS.out.bt
   have hal:=(Below.refl wr.heap.size wr).alloc (Nat.le_refl _) (.cells #[.int .i64 t.v.k,.int .i64 t.v.lo,.int .i64 t.v.hi,.slice t.xd t.v.x.length t.xc,.slice t.td t.v.t.length t.tc,.slice t.fd t.v.f.length t.fc,.string t.v.n] 27)
   have hn2:=heap_alloc_new wr (.cells #[.int .i64 t.v.k,.int .i64 t.v.lo,.int .i64 t.v.hi,.slice t.xd t.v.x.length t.xc,.slice t.td t.v.t.length t.tc,.slice t.fd t.v.f.length t.fc,.string t.v.n] 27)
   have HO:Hid (OM w #[.int .i64 q.v.k,.int .i64 q.v.n,.int .u64 q.v.f,.string q.v.s,.slice qb j q.cap,.slice q.bd ne q.dap] (wr.alloc (.cells #[.int .i64 t.v.k,.int .i64 t.v.lo,.int .i64 t.v.hi,.slice t.xd t.v.x.length t.xc,.slice t.td t.v.t.length t.tc,.slice t.fd t.v.f.length t.fc,.string t.v.n] 27))):=hid (HS.out.rb.keep hal)
   have HN2:=hid hn2
   have HTA:=hid ((HS.out.ht.weak (C:=fun b=>w.heap.size+1<b) (fun b hb _=>hb.1)).keep hal)
   have HVL:=hid HS.out.rb.vlt
   have HLEN:Hid ((j:Int)=(q.v.l.length:Int)):=hid (by rw [HNL.out])
   have HFT:Hid (∀ c∈q.v.l,Fit false t.v c):=hid (fun c hc=>by
    obtain ⟨i,hi⟩:=List.getElem?_of_mem hc
    exact HF.out i c (by have:=(List.getElem?_eq_some_iff.1 hi).1;rw [HNL.out] at this;exact this) hi)
   have hj4:(j:Int)<=200:=by omega
   clear hal hn2 HS HF
   go_upto_region 20 with fail
   obtain ⟨p0,p1,p2,p3,p4,p5,p6,pf⟩:=ty_cells HO.out.res
   have pf0:=pf 0
   have pf1:=pf 1
   have pf2:=pf 2
   have pf3:=pf 3
   have pf4:=pf 4
   have pf5:=pf 5
   have pf6:=pf 6
   obtain ⟨W9,hW9,hr9,hg9⟩:=seven_all HO.out.res (.int .i64 8) (.int .i64 (j:Int)) (.int .i64 (j:Int)) (.slice none 0 0) (.slice (some ⟨wr.heap.size,0,none⟩) 1 1) (.slice none 0 0) (.string ⟨#[]⟩)
   obtain ⟨q0,q1,q2,q3,q4,q5,q6,-⟩:=ty_cells hr9
   have HW9:=hid hW9
   have HPOST:Hid (OfPost K (d+1) q.v w (.returned (.agg #[.int .i64 8,.int .i64 (j:Int),.int .i64 (j:Int),.slice none 0 0,.slice (some ⟨wr.heap.size,0,none⟩) 1 1,.slice none 0 0,.string ⟨#[]⟩])) W9):=hid (by
    refine ⟨⟨.mk 8 j j [] [t.v] [] ⟨#[]⟩,none,0,some ⟨wr.heap.size,0,none⟩,1,none,0⟩,rfl,ofK_list rfl HK.out HLEN.out HLEN.out rfl rfl HJ.out HFT.out,⟨wfT 8 j j (by decide) (by decide) (by omega) (by omega) (by omega) (by omega) _ _ _,.nil _ _,?_,.nil _ _ _⟩,HO.out.g.grown hg9 (by have:=HO.out.vlt;omega) (fun b e=>by have:=Option.some.inj e;omega)⟩
    have h1:=TRow.one (B:=fun b=>w.heap.size+1<b) HTA.out HN2.out HVL.out
    exact (h1.grow hg9 (fun b e hb=>by have:=Option.some.inj e;omega)).weak (fun b hb _=>by omega))
   clear hW9 hr9 hg9 pf
   go_wp2_with fail
   rw [<-HW9.out]
   exact bodyPost_ret (v:=.agg #[.int .i64 8,.int .i64 (j:Int),.int .i64 (j:Int),.slice none 0 0,.slice (some ⟨wr.heap.size,0,none⟩) 1 1,.slice none 0 0,.string ⟨#[]⟩]) (by simp [results,Tryz.results95,go_sem,q0,q1,q2,q3,q4,q5,q6]) rfl HPOST.out
end Go.Proofs.YtgnonbdkmmkdgaaGreatDoor
