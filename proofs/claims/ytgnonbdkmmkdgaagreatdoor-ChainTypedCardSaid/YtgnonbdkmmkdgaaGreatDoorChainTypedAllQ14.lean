/-
  Lemmas for the statement: plain laws, and what functions answer; the conditions stand in each.
-/
import Derived.Test.YtgnonbdkmmkdgaaGreatDoorChainTypedAllPartH
set_option linter.unusedVariables false
set_option linter.unusedSimpArgs false
set_option maxHeartbeats 16000000
set_option maxRecDepth 100000
open Go.Lib (hid)
namespace Go.Proofs.YtgnonbdkmmkdgaaGreatDoor
open Go.RowKit Gx
def EntsTo (full:Bool) (l:List (Fd Ty)) (e:List (ByteArray×V)) (k:Nat):Prop:=∀ j c,j<k->e[j]?=some c->∃ f,fdOf l c.1=some f/\Fit full f.t c.2
def FldsTo (full:Bool) (l:List (Fd Ty)) (e:List (ByteArray×V)) (k:Nat):Prop:=∀ j f,j<k->l[j]?=some f->askF full f=true->f.n∈e.map Prod.fst
theorem rec_all {full:Bool} {l:List (Fd Ty)} {e:List (ByteArray×V)} (h:EntsTo full l e e.length) (g:FldsTo full l e l.length):RecFit full l e:=by
 have h':∀ c∈e,∃ f,fdOf l c.1=some f/\Fit full f.t c.2:=fun c hc=>by
  obtain ⟨j,hj⟩:=List.getElem?_of_mem hc
  exact h j c (List.getElem?_eq_some_iff.1 hj).1 hj
 refine ⟨fun c hc=>?_,fun c hc f hf=>?_,fun f hf ha=>?_⟩
 ·obtain ⟨f,hf,-⟩:=h' c hc
  rw [hf];rfl
 ·obtain ⟨f',hf',h2⟩:=h' c hc
  rw [hf] at hf';cases hf';exact h2
 ·obtain ⟨j,hj⟩:=List.getElem?_of_mem hf
  exact g j f (List.getElem?_eq_some_iff.1 hj).1 hj ha
theorem path_one {w:World} {b:Nat} {u0 u1:Value} {t:TypeId} (h:w.heap[b]?=some (.cells #[u0,u1] t)) (h0:u0.oneCell'=true) (h1:u1.oneCell'=true) (n:Nat):PathR w (n+1) (.slice (some ⟨b,0,none⟩) 1 1):=by
 refine .row b 1 1 [u0,u1] (by omega) (by omega) rfl (Array.getElem?_eq_some_iff.1 h).1 (fun j u hj=>?_) (fun u hu=>?_)
 ·simp only [World.cell?,h]
  simpa using hj
 ·simp only [List.mem_cons,List.not_mem_nil,or_false] at hu
  rcases hu with rfl|rfl
  ·exact h0
  ·exact h1
theorem two_at {w:World} {b:Nat} {ty:TypeId} {a0 a1:Value} (h:w.heap[b]?=some (.cells #[a0,a1] ty)):w.cell? ⟨b,0,none⟩=some a0/\w.cell? ⟨b,1,none⟩=some a1:=⟨by simp [World.cell?,h],by simp [World.cell?,h]⟩
theorem record_any {J:Nat} {r:Lt} {full:Bool} {d:Nat} (hon:OnAll J r full d) (T:Lt) (q:Loc) (w:World) (ha:Asked J r full T q w) (hk:TOk T.v) (hg:Gd (d+1) q.v) :
 Calls Tryz.prog 83 #[.pointer (some ⟨J,0,none⟩),.slice T.fd T.v.f.length T.fc,q.val] w (FitPost (RecFit full T.v.f q.v.e) (d+1) w):=by
 have hb2:=(Below.refl w.heap.size w).alloc (Nat.le_refl _) (.cells #[.int .i64 q.v.k,.int .i64 q.v.n,.int .u64 q.v.f,.string q.v.s,.slice q.ad q.v.l.length q.cap,.slice q.bd q.v.e.length q.dap] 32)
 have hc2:=heap_alloc_new w (.cells #[.int .i64 q.v.k,.int .i64 q.v.n,.int .u64 q.v.f,.string q.v.s,.slice q.ad q.v.l.length q.cap,.slice q.bd q.v.e.length q.dap] 32)
 have hA2:=ha.keep hb2
 have HON:=hid hon
 have HK:=hid hk
 have HG:=hid hg
 have he200:=(ownV_zero hg.1).2.2.2.1
 have hfb:=ha.t.f.bound
 unfold Loc.val
 obtain ⟨ne,hne⟩:∃ ne,q.v.e.length=ne:=⟨_,rfl⟩
 obtain ⟨nf,hnf⟩:∃ nf,T.v.f.length=nf:=⟨_,rfl⟩
 obtain ⟨qb,hqb⟩:∃ qb,q.bd=qb:=⟨_,rfl⟩
 obtain ⟨fa,hfa⟩:∃ fa,T.fd=fa:=⟨_,rfl⟩
 have HNE:=hid hne
 have HNF:=hid hnf
 have HQB:=hid hqb
 have HFA:=hid hfa
 rw [hne,hqb] at hc2 hb2 hA2
 rw [hne,hqb,hnf,hfa]
 rw [hne] at he200
 rw [hnf] at hfb
 clear hon hk hg ha hne hnf hqb hfa
 go_enter Tryz.func83,Tryz.ntmps83
 go_upto_region 1 with fail
 generalize World.alloc w _=w2 at hc2 hb2 hA2 ⊢
 generalize hqx:w.heap.size=qx at hc2 ⊢
 obtain ⟨v0,v1,v2,v3,v4,v5⟩:=six_at hc2
 have HQX:=hid hc2
 have HA2:=hid hA2
 have HB2:Hid (Below w.heap.size w w2):=hid hb2
 clear hc2 hA2 hb2 hqx
 go_wp2_with fail
 clear v0 v1 v2 v3 v4 v5
 go_loopw [20] (fun v20 wr=>∃ k:Nat,k<=ne/\v20=.int .i64 k/\Hid (EntsTo full T.v.f q.v.e k)/\Hid (Below w2.heap.size w2 wr)) (fun v20 _=>ne - (intOf v20).toNat)
 case atStart=>exact ⟨0,Nat.zero_le _,rfl,hid (fun j y h=>by omega),hid (Below.refl _ _)⟩
 case round =>
  obtain ⟨k,hkn,rfl,HFr,HBr⟩:=hrel
  by_cases hlt:k<ne
  ·obtain ⟨x,hx⟩:∃ x,q.v.e[k]?=some x:=⟨_,List.getElem?_eq_getElem (by rw [HNE.out];exact hlt)⟩
   obtain ⟨b1,o1,hd1,-,hbl1,hcs1⟩:=HA2.out.v.e.entry (by rw [HNE.out];omega)
   try simp only at hd1
   rw [HQB.out] at hd1
   subst hd1
   obtain ⟨-,gk1,q1,hq1,hv1,hg1⟩:=hcs1 k x hx
   have k1:wr.cell? ⟨b1,o1+k * 7,none⟩=some (.string x.1):=(HBr.out.cell (p:=⟨b1,_,none⟩) hbl1).trans gk1
   obtain ⟨d0,d1,d2,d3,d4,d5⟩:=(hg1.through (HBr.out.block _ hbl1)).seven
   have hmem:x∈q.v.e:=List.mem_of_getElem? hx
   have hba:=((Below.refl wr.heap.size wr).alloc (Nat.le_refl _) (.cells #[.string x.1,.int .i64 q1.v.k,.int .i64 q1.v.n,.int .u64 q1.v.f,.string q1.v.s,.slice q1.ad q1.v.l.length q1.cap,.slice q1.bd q1.v.e.length q1.dap] 96)).alloc (by simp) (.cells #[.string x.1,.int .i64 (-1)] 147)
   have hxe:((wr.alloc (.cells #[.string x.1,.int .i64 q1.v.k,.int .i64 q1.v.n,.int .u64 q1.v.f,.string q1.v.s,.slice q1.ad q1.v.l.length q1.cap,.slice q1.bd q1.v.e.length q1.dap] 96)).alloc (.cells #[.string x.1,.int .i64 (-1)] 147)).heap[wr.heap.size]?=_:=(Below.heap_alloc _ _ _ (by simp)).trans (heap_alloc_new wr (.cells #[.string x.1,.int .i64 q1.v.k,.int .i64 q1.v.n,.int .u64 q1.v.f,.string q1.v.s,.slice q1.ad q1.v.l.length q1.cap,.slice q1.bd q1.v.e.length q1.dap] 96))
   have hxs:=heap_alloc_new (wr.alloc (.cells #[.string x.1,.int .i64 q1.v.k,.int .i64 q1.v.n,.int .u64 q1.v.f,.string q1.v.s,.slice q1.ad q1.v.l.length q1.cap,.slice q1.bd q1.v.e.length q1.dap] 96)) (.cells #[.string x.1,.int .i64 (-1)] 147)
   rw [World.size_alloc] at hxs
   have HBa:Hid (Below w2.heap.size w2 ((wr.alloc (.cells #[.string x.1,.int .i64 q1.v.k,.int .i64 q1.v.n,.int .u64 q1.v.f,.string q1.v.s,.slice q1.ad q1.v.l.length q1.cap,.slice q1.bd q1.v.e.length q1.dap] 96)).alloc (.cells #[.string x.1,.int .i64 (-1)] 147))):=hid (HBr.out.trans (hba.mono HBr.out.size))
   have r1:(0:Int)<=(k:Int):=by omega
   have r2:(k:Int)<(ne:Int):=by omega
   have HX:=hid hx
   have HMEM:=hid hmem
   have HQ1:=hid hq1
   have HV1:=hid hv1
   clear hcs1 hx hmem hq1 hv1 hba gk1 hg1
   go_upto_region 4 with fail
   obtain ⟨y0,y1,y2,y3,y4,y5,y6⟩:=seven_cells (heap_alloc_new wr (.cells #[.string x.1,.int .i64 q1.v.k,.int .i64 q1.v.n,.int .u64 q1.v.f,.string q1.v.s,.slice q1.ad q1.v.l.length q1.cap,.slice q1.bd q1.v.e.length q1.dap] 96))
   go_upto_region 5 with fail
   clear y0 y1 y2 y3 y4 y5 y6
   generalize World.alloc (World.alloc wr _) _=wx at hxe hxs HBa ⊢
   generalize hxbe:wr.heap.size=xb at hxe hxs ⊢
   clear hxbe d0 d1 d2 d3 d4 d5 k1
   obtain ⟨y0,y1,y2,y3,y4,y5,y6⟩:=seven_cells hxe
   have hcall:=indexFd_any 105 (.inl rfl) T.fd T.fc T.v.f xb x.1 wx (HA2.out.t.keep HBa.out).f y0
   rw [HNF.out,HFA.out] at hcall
   have HC1:=hid hcall
   have HXE:=hid hxe
   have HXS:=hid hxs
   clear hcall hxe hxs
   go_wp2_with fail
   (with_reducible refine HC1.out.mono ?_)
   rintro e w3 ⟨rfl,hb3⟩
   have hxe3:=(hb3.block _ (Array.getElem?_eq_some_iff.1 HXE.out).1).trans HXE.out
   have hxs3:=(hb3.block _ (Array.getElem?_eq_some_iff.1 HXS.out).1).trans HXS.out
   have HB3:=hid (HBa.out.trans (hb3.mono HBa.out.size))
   clear hb3 HXE HXS HC1 y0 y1 y2 y3 y4 y5 y6
   by_cases hi:fpos x.1 T.v.f<nf
   ·rw [if_pos hi]
    obtain ⟨i,hii⟩:∃ i,fpos x.1 T.v.f=i:=⟨_,rfl⟩
    rw [hii] at hi ⊢
    obtain ⟨f,hf⟩:∃ f,T.v.f[i]?=some f:=⟨_,List.getElem?_eq_getElem (by rw [HNF.out];exact hi)⟩
    have hfd:fdOf T.v.f x.1=some f:=by rw [fdOf_fpos,hii];exact hf
    obtain ⟨b2,o2,hd2,-,hbl2,hcs2⟩:=HA2.out.t.f.fieldF (by rw [HNF.out];omega)
    try simp only at hd2
    rw [HFA.out] at hd2
    subst hd2
    obtain ⟨p,hp,hpt,-,-,hpc⟩:=hcs2 i f hf
    have hpf:p.t.v=f.t:=by rw [<-hp];rfl
    have r3:(0:Int)<=(i:Int):=by omega
    have r5:(i:Int)<(nf:Int):=by omega
    have n1:¬ ((i:Int)<0):=by omega
    have hBd:Below w2.heap.size w2 w3.drew:=HB3.out.trans ((Gx.drewN_below w3 1 _).mono HB3.out.size)
    have hkeep:∀ W,Below w3.heap.size w3 W->(fun w'=>w'.cell? ⟨b2,o2+i * 16+3,none⟩=some (.int .i64 p.t.v.k)/\w'.cell? ⟨b2,o2+i * 16+4,none⟩=some (.int .i64 p.t.v.lo)/\w'.cell? ⟨b2,o2+i * 16+5,none⟩=some (.int .i64 p.t.v.hi)/\w'.cell? ⟨b2,o2+i * 16+6,none⟩=some (.slice p.t.xd p.t.v.x.length p.t.xc)/\w'.cell? ⟨b2,o2+i * 16+7,none⟩=some (.slice p.t.td p.t.v.t.length p.t.tc)/\w'.cell? ⟨b2,o2+i * 16+8,none⟩=some (.slice p.t.fd p.t.v.f.length p.t.fc)/\w'.cell? ⟨b2,o2+i * 16+9,none⟩=some (.string p.t.v.n)/\w'.cell? ⟨xb,1,none⟩=some (.int .i64 q1.v.k)/\w'.cell? ⟨xb,2,none⟩=some (.int .i64 q1.v.n)/\w'.cell? ⟨xb,3,none⟩=some (.int .u64 q1.v.f)/\w'.cell? ⟨xb,4,none⟩=some (.string q1.v.s)/\w'.cell? ⟨xb,5,none⟩=some (.slice q1.ad q1.v.l.length q1.cap)/\w'.cell? ⟨xb,6,none⟩=some (.slice q1.bd q1.v.e.length q1.dap)/\w'.cell? ⟨xb+1,0,none⟩=some (.string x.1)/\w'.cell? ⟨xb+1,1,none⟩=some (.int .i64 (-1))) W:=fun W hW=>by
     obtain ⟨y0,y1,y2,y3,y4,y5,y6⟩:=seven_cells ((hW.block _ (Array.getElem?_eq_some_iff.1 hxe3).1).trans hxe3)
     obtain ⟨s0,s1⟩:=two_at ((hW.block _ (Array.getElem?_eq_some_iff.1 hxs3).1).trans hxs3)
     obtain ⟨-,-,-,c3,c4,c5,c6,c7,c8,c9,-⟩:=hpc.through (w':=W) ((HB3.out.trans (hW.mono HB3.out.size)).block _ hbl2)
     exact ⟨c3,c4,c5,c6,c7,c8,c9,y1,y2,y3,y4,y5,y6,s0,s1⟩
    have hk0:=hkeep w3.drew (Gx.drewN_below w3 1 _)
    have HKEEP:=hid hkeep
    have hcall:=HON.out p.t q1 x.1 (-1) w3.drew ⟨HA2.out.j.keep hBd,HA2.out.u.keep hBd,hpt.keep hBd,HV1.out.keep hBd⟩ (by rw [hpf];exact HK.out.f f (List.mem_of_getElem? hf)) (by rw [HQ1.out];have hg:=HG.out;have hmem:=HMEM.out;exact hg.e x hmem)
    rw [hpf,HQ1.out] at hcall
    unfold Lt.val Loc.val at hcall
    have HCALL:=hid hcall
    have HBd:=hid hBd
    have HDW:=hid (Gx.drewN_below w3 1 w3.heap.size)
    have HFD:=hid hfd
    clear hkeep hcall hBd hxe3 hxs3 hii hf hfd hp hpt hpc hpf hcs2
    go_upto_region 8 with fail
    go_region_held3 (fun w'=>w'.cell? ⟨b2,o2+i * 16+3,none⟩=some (.int .i64 p.t.v.k)/\w'.cell? ⟨b2,o2+i * 16+4,none⟩=some (.int .i64 p.t.v.lo)/\w'.cell? ⟨b2,o2+i * 16+5,none⟩=some (.int .i64 p.t.v.hi)/\w'.cell? ⟨b2,o2+i * 16+6,none⟩=some (.slice p.t.xd p.t.v.x.length p.t.xc)/\w'.cell? ⟨b2,o2+i * 16+7,none⟩=some (.slice p.t.td p.t.v.t.length p.t.tc)/\w'.cell? ⟨b2,o2+i * 16+8,none⟩=some (.slice p.t.fd p.t.v.f.length p.t.fc)/\w'.cell? ⟨b2,o2+i * 16+9,none⟩=some (.string p.t.v.n)/\w'.cell? ⟨xb,1,none⟩=some (.int .i64 q1.v.k)/\w'.cell? ⟨xb,2,none⟩=some (.int .i64 q1.v.n)/\w'.cell? ⟨xb,3,none⟩=some (.int .u64 q1.v.f)/\w'.cell? ⟨xb,4,none⟩=some (.string q1.v.s)/\w'.cell? ⟨xb,5,none⟩=some (.slice q1.ad q1.v.l.length q1.cap)/\w'.cell? ⟨xb,6,none⟩=some (.slice q1.bd q1.v.e.length q1.dap)/\w'.cell? ⟨xb+1,0,none⟩=some (.string x.1)/\w'.cell? ⟨xb+1,1,none⟩=some (.int .i64 (-1))) (first|exact hk0|exact hk1|go_keep)
     (first
       | (go_simp;(with_reducible refine HCALL.out.mono ?_);rintro e w4 ⟨ad,pl,pc,bad,rfl,hbad,hp,hb4⟩;have hk1:=HKEEP.out w4 (HDW.out.trans (hb4.mono HDW.out.size));have HBAD:=hid hbad;have HP4:=hid hp;have HB4:=hid (HBd.out.trans (hb4.mono HBd.out.size));clear hbad hp hb4))
    clear hk0 hk1 HCALL HKEEP HDW HBd
    cases bad with
    | true =>
      have HF:Hid (FitPost (RecFit full T.v.f q.v.e) (d+1) w (.returned (.tuple #[.slice ad pl pc,.bool true])) w4):=hid ⟨ad,pl,pc,true,rfl,by
       refine ⟨fun h=>(by cases h),fun h=>absurd (h.f x HMEM.out f HFD.out) (fun hf=>by have:=HBAD.out.2 hf;cases this)⟩,HP4.out,HB2.out.trans (HB4.out.mono HB2.out.size)⟩
      clear HBAD HP4 HB4 HB2 HB3 HFr HBr HBa HX HMEM HQ1 HV1 HA2 HON HK HG HFD
      go_wp2_with fail
      exact bodyPost_ret (v:=.tuple #[.slice ad pl pc,.bool true]) (by simp [results,Tryz.results83,go_sem]) rfl HF.out
    | false =>
      have H1:Hid (EntsTo full T.v.f q.v.e (k+1)):=hid (fun j y hj hy=>by
       by_cases e:j=k
       ·subst e;rw [HX.out] at hy;cases hy;exact ⟨f,HFD.out,HBAD.out.1 rfl⟩
       ·exact HFr.out j y (by omega) hy)
      clear HBAD HP4 HB3 HFr HBr HBa HX HMEM HQ1 HV1 HFD
      go_wp2_with fail
      go_roundw
      case rel=>exact ⟨k+1,by omega,by go_num,H1,HB4⟩
      case measure=>simp [intOf];omega
   ·rw [if_neg hi]
    have hnone:fdOf T.v.f x.1=none:=by
     rw [fdOf_fpos]
     exact List.getElem?_eq_none (by rw [HNF.out];omega)
    obtain ⟨s0,s1⟩:=two_at hxs3
    have hba:=(Below.refl w3.heap.size w3).alloc (Nat.le_refl _) (.cells #[.string x.1,.int .i64 (-1)] 147)
    have HF:Hid (FitPost (RecFit full T.v.f q.v.e) (d+1) w (.returned (.tuple #[.slice (some ⟨w3.heap.size,0,none⟩) 1 1,.bool true])) (w3.alloc (.cells #[.string x.1,.int .i64 (-1)] 147))):=hid ⟨_,1,1,true,rfl,by
     refine ⟨fun h=>(by cases h),fun h=>absurd (h.r x HMEM.out) (by rw [hnone];decide)⟩,path_one (heap_alloc_new w3 (.cells #[.string x.1,.int .i64 (-1)] 147)) rfl rfl d,HB2.out.trans ((HB3.out.trans (hba.mono HB3.out.size)).mono HB2.out.size)⟩
    clear hba hxe3 hxs3 hnone hi HB2 HB3 HFr HBr HBa HX HMEM HQ1 HV1 HA2 HON HK HG
    go_wp2_with fail
    exact bodyPost_ret (v:=.tuple #[.slice (some ⟨w3.heap.size,0,none⟩) 1 1,.bool true]) (by simp [results,Tryz.results83,go_sem]) rfl HF.out
  ·obtain rfl:k=ne:=by omega
   have HENT:Hid (EntsTo full T.v.f q.v.e q.v.e.length):=hid (by rw [HNE.out];exact HFr.out)
   have HBL:Hid (Below w2.heap.size w2 wr):=HBr
   clear HFr HBr
   go_wp2_with fail
   go_loopw [52] (fun v52 wr=>∃ j:Nat,j<=nf/\v52=.int .i64 j/\Hid (FldsTo full T.v.f q.v.e j)/\Hid (Below w2.heap.size w2 wr)) (fun v52 _=>nf - (intOf v52).toNat)
   case atStart=>exact ⟨0,Nat.zero_le _,rfl,hid (fun j y h=>by omega),HBL⟩
   case round =>
    obtain ⟨j,hjn,rfl,HFl,HBm⟩:=hrel
    by_cases hlt:j<nf
    ·obtain ⟨f,hf⟩:∃ f,T.v.f[j]?=some f:=⟨_,List.getElem?_eq_getElem (by rw [HNF.out];exact hlt)⟩
     obtain ⟨b2,o2,hd2,-,hbl2,hcs2⟩:=HA2.out.t.f.fieldF (by rw [HNF.out];omega)
     try simp only at hd2
     rw [HFA.out] at hd2
     subst hd2
     obtain ⟨p,hp,-,-,-,hpc⟩:=hcs2 j f hf
     obtain ⟨c0,c1,c2,c3,c4,c5,c6,c7,c8,c9,c10,c11,c12,c13,c14,c15⟩:=hpc.through (w':=wr) (HBm.out.block _ hbl2)
     have hba:=(Below.refl wr.heap.size wr).alloc (Nat.le_refl _) (.cells #[.string p.n,.bool p.o,.bool p.h,.int .i64 p.t.v.k,.int .i64 p.t.v.lo,.int .i64 p.t.v.hi,.slice p.t.xd p.t.v.x.length p.t.xc,.slice p.t.td p.t.v.t.length p.t.tc,.slice p.t.fd p.t.v.f.length p.t.fc,.string p.t.v.n,.int .i64 p.d.v.k,.int .i64 p.d.v.n,.int .u64 p.d.v.f,.string p.d.v.s,.slice p.d.ad p.d.v.l.length p.d.cap,.slice p.d.bd p.d.v.e.length p.d.dap] 65)
     have hfx:=heap_alloc_new wr (.cells #[.string p.n,.bool p.o,.bool p.h,.int .i64 p.t.v.k,.int .i64 p.t.v.lo,.int .i64 p.t.v.hi,.slice p.t.xd p.t.v.x.length p.t.xc,.slice p.t.td p.t.v.t.length p.t.tc,.slice p.t.fd p.t.v.f.length p.t.fc,.string p.t.v.n,.int .i64 p.d.v.k,.int .i64 p.d.v.n,.int .u64 p.d.v.f,.string p.d.v.s,.slice p.d.ad p.d.v.l.length p.d.cap,.slice p.d.bd p.d.v.e.length p.d.dap] 65)
     have HBa:Hid (Below w2.heap.size w2 (wr.alloc (.cells #[.string p.n,.bool p.o,.bool p.h,.int .i64 p.t.v.k,.int .i64 p.t.v.lo,.int .i64 p.t.v.hi,.slice p.t.xd p.t.v.x.length p.t.xc,.slice p.t.td p.t.v.t.length p.t.tc,.slice p.t.fd p.t.v.f.length p.t.fc,.string p.t.v.n,.int .i64 p.d.v.k,.int .i64 p.d.v.n,.int .u64 p.d.v.f,.string p.d.v.s,.slice p.d.ad p.d.v.l.length p.d.cap,.slice p.d.bd p.d.v.e.length p.d.dap] 65))):=hid (HBm.out.trans (hba.mono HBm.out.size))
     have r1:(0:Int)<=(j:Int):=by omega
     have r2:(j:Int)<(nf:Int):=by omega
     have HX:=hid hf
     have HPN:Hid (p.n=f.n):=hid (by rw [<-hp];rfl)
     have HASK:Hid (askF full f=((!p.o && !p.h) || (full && p.h))):=hid (by rw [<-hp];rfl)
     clear hcs2 hf hp hpc hba
     go_upto_region 15 with fail
     generalize World.alloc wr _=wx at hfx HBa ⊢
     generalize hxbe:wr.heap.size=xb at hfx ⊢
     clear hxbe c0 c1 c2 c3 c4 c5 c6 c7 c8 c9 c10 c11 c12 c13 c14 c15
     obtain ⟨z0,z1,z2,-⟩:=FcAt.box hfx
     have hj8:wx.cell? ⟨J,8,none⟩=some (.bool full):=by
      have:=HA2.out.j.keep HBa.out
      unfold JAt at this
      simp [World.cell?,this]
     obtain ⟨-,-,-,-,-,v5⟩:=six_at ((HBa.out.block _ (Array.getElem?_eq_some_iff.1 HQX.out).1).trans HQX.out)
     obtain ⟨po,hpo⟩:∃ po,p.o=po:=⟨_,rfl⟩
     obtain ⟨ph,hph⟩:∃ ph,p.h=ph:=⟨_,rfl⟩
     obtain ⟨fb,hfb⟩:∃ fb,full=fb:=⟨_,rfl⟩
     rw [hpo] at z1
     rw [hph] at z2
     rw [hfb] at hj8
     obtain ⟨ask,hask⟩:∃ ask,askF full f=ask:=⟨_,rfl⟩
     have HAV:Hid (ask=((!po && !ph) || (fb && ph))):=hid (by rw [<-hask,HASK.out,hpo,hph,<-hfb])
     have HAS:=hid hask
     rw [HPN.out] at z0
     have hcall:=find_any q.bd q.dap q.v.e f.n wx (HA2.out.v.keep HBa.out).e
     unfold IdxPostE at hcall
     rw [HNE.out,HQB.out] at hcall
     have HCF:=hid hcall
     clear hcall hfx hpo hph hfb hask HASK HPN
     have HNEXT:Hid (ask=false\/fidx f.n q.v.e<k->FldsTo full T.v.f q.v.e (j+1)):=hid (fun h j' y hj' hy ha=>by
      by_cases e:j'=j
      ·subst e
       rw [HX.out] at hy
       cases hy
       rcases h with h|h
       ·rw [HAS.out,h] at ha;cases ha
       ·rw [<-HNE.out] at h;exact fidx_lt.1 h
      ·exact HFl.out j' y (by omega) hy ha)
     have HNOT:Hid (∀ W,Below w2.heap.size w2 W->ask=true->¬ fidx f.n q.v.e<k->FitPost (RecFit full T.v.f q.v.e) (d+1) w (.returned (.tuple #[.slice none 0 0,.bool true])) W):=hid (fun W hW h1 h2=>fit_post true (by
      refine ⟨fun h=>(by cases h),fun h=>absurd (h.a f (List.mem_of_getElem? HX.out) (by rw [HAS.out,h1])) (fun hm=>h2 (by rw [<-HNE.out];exact fidx_lt.2 hm))⟩) (HB2.out.trans (hW.mono HB2.out.size)))
     clear HFl HBm HX HAS HENT HBL HB2 HON HK HG HA2
     by_cases hi:fidx f.n q.v.e<k
     ·rw [if_pos hi] at HCF
      have H1:Hid (FldsTo full T.v.f q.v.e (j+1)):=hid (HNEXT.out (.inr hi))
      obtain ⟨i,hii⟩:∃ i,fidx f.n q.v.e=i:=⟨_,rfl⟩
      rw [hii] at HCF
      have n1:¬ ((i:Int)<0):=by omega
      clear hii hi HNEXT HNOT HAV
      cases po<;>cases ph<;>cases fb
      all_goals
       go_wp2_with fail
       first
       | ((with_reducible refine HCF.out.mono ?_)
          rintro e w3 ⟨rfl,hb3⟩
          have HB3:=hid (HBa.out.trans (hb3.mono HBa.out.size))
          clear hb3 HCF HBa
          go_wp2_with fail
          go_roundw
          case rel=>exact ⟨j+1,by omega,by go_num,H1,HB3⟩
          case measure=>simp [intOf];omega)
       | (go_roundw
          case rel=>exact ⟨j+1,by omega,by go_num,H1,HBa⟩
          case measure=>simp [intOf];omega)
     ·rw [if_neg hi] at HCF
      cases po<;>cases ph<;>cases fb
      all_goals
       have hask:=HAV.out
       simp only [Bool.not_true,Bool.not_false,Bool.and_true,Bool.and_false,Bool.true_and,Bool.false_and,Bool.or_true,Bool.or_false,Bool.true_or,Bool.false_or] at hask
       first
       | (have H1:Hid (FldsTo full T.v.f q.v.e (j+1)):=hid (HNEXT.out (.inl hask))
          clear hask hi HNEXT HNOT HAV HCF
          go_wp2_with fail
          go_roundw
          case rel=>exact ⟨j+1,by omega,by go_num,H1,HBa⟩
          case measure=>simp [intOf];omega)
       | (have HF:Hid (∀ w3,Below wx.heap.size wx w3->FitPost (RecFit full T.v.f q.v.e) (d+1) w (.returned (.tuple #[.slice none 0 0,.bool true])) w3):=hid (fun w3 hb3=>HNOT.out w3 (HBa.out.trans (hb3.mono HBa.out.size)) hask hi)
          clear hask hi HNEXT HNOT HAV HBa
          go_wp2_with fail
          (with_reducible refine HCF.out.mono ?_)
          rintro e w3 ⟨rfl,hb3⟩
          have HF3:=hid (HF.out w3 hb3)
          clear hb3 HCF HF
          go_wp2_with fail
          exact bodyPost_ret (v:=.tuple #[.slice none 0 0,.bool true]) (by simp [results,Tryz.results83,go_sem]) rfl HF3.out)
    ·obtain rfl:j=nf:=by omega
     have HF:Hid (FitPost (RecFit full T.v.f q.v.e) (d+1) w (.returned (.tuple #[.slice none 0 0,.bool false])) wr):=hid (fit_post false ⟨fun _=>rec_all HENT.out (by rw [HNF.out];exact HFl.out),fun _=>rfl⟩ (HB2.out.trans (HBm.out.mono HB2.out.size)))
     clear HFl HBm HENT HBL HB2 HON HK HG HA2
     go_wp2_with fail
     exact bodyPost_ret (v:=.tuple #[.slice none 0 0,.bool false]) (by simp [results,Tryz.results83,go_sem]) rfl HF.out
end Go.Proofs.YtgnonbdkmmkdgaaGreatDoor
