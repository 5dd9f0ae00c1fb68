/-
  Lemmas for the statement: plain laws, and what functions answer; the conditions stand in each.
-/
import Derived.Test.YtgnonbdkmmkdgaaGreatDoorChainTypedAllPartH
set_option linter.unusedVariables false
set_option linter.unusedSimpArgs false
set_option maxHeartbeats 16000000
set_option maxRecDepth 100000
open Go.Lib (hid)
namespace Go.Proofs.YtgnonbdkmmkdgaaGreatDoor
open Go.RowKit Gx
theorem part_list {J:Nat} {r:Lt} {full:Bool} {d:Nat} (hon:OnAll J r full d) (T:Lt) (q:Loc) (w:World) (ha:Asked J r full T q w) (hk:TOk T.v) (hg:Gd (d+1) q.v) (hkd:T.v.k=8) :
 Calls Tryz.prog 53 #[.pointer (some ⟨J,0,none⟩),T.val,q.val] w (FitPost (PartFit full T.v q.v) (d+1) w):=by
 obtain ⟨htq,hb2⟩:=tq_start w T q
 have hA2:=ha.keep hb2
 have HKD:=hid hkd
 clear hkd
 unfold Lt.val Loc.val
 go_enter Tryz.func53,Tryz.ntmps53
 go_upto_region 1 with fail
 generalize World.alloc (World.alloc w _) _=w2 at htq hb2 hA2 ⊢
 have hkd:=HKD.out
 obtain ⟨c0,c1,c2,c3,c4,c5,c6,-⟩:=ty_cells htq.t
 obtain ⟨v0,v1,v2,v3,v4,v5⟩:=six_at htq.q
 rw [hkd] at c0
 obtain ⟨nl,hnl⟩:∃ nl,q.v.l.length=nl:=⟨_,rfl⟩
 have hone:=hk.one (by omega)
 obtain ⟨tb,t0,htd,-,htbl,htcs⟩:=hA2.t.t.elem (by omega)
 try simp only at htd
 obtain ⟨p0,hp0,hpt0,hpc0⟩:=htcs 0 (T.v.t.getD 0 default) (by rw [List.getD_eq_getElem?_getD,List.getElem?_eq_getElem (by omega)];rfl)
 have hp0m:p0.v∈T.v.t:=by rw [hp0,List.getD_eq_getElem?_getD,List.getElem?_eq_getElem (by omega)];exact List.getElem_mem (by omega)
 rw [Nat.zero_mul,Nat.add_zero] at hpc0
 have HC:=hid (fun W=>between_any (q.v.l.length:Int) T.v.lo T.v.hi W)
 rw [hnl] at HC
 by_cases hin:T.v.lo<=(nl:Int)/\(nl:Int)<=T.v.hi
 rotate_left
 ·have hbb:(decide (T.v.lo<=(nl:Int)) && decide ((nl:Int)<=T.v.hi))=false:=by simpa using hin
  rw [hbb] at HC
  have HF:Hid (FitPost (PartFit full T.v q.v) (d+1) w (.returned (.tuple #[.slice none 0 0,.bool true])) w2):=hid (fit_post true (by
   rw [part8 hkd,hnl]
   exact ⟨fun h=>(by cases h),fun h=>absurd h.1 hin⟩) hb2)
  clear hkd htq hb2 hA2 ha hk hg hon hone htcs hp0 hpt0 hpc0 hp0m htbl hin hbb
  go_wp2_with fail
  (with_reducible refine (HC.out _).mono ?_)
  rintro e w3 ⟨rfl,rfl⟩
  go_wp2_with fail
  exact bodyPost_ret (v:=.tuple #[.slice none 0 0,.bool true]) (by simp [results,Tryz.results53,go_sem]) rfl HF.out
 have hbb:(decide (T.v.lo<=(nl:Int)) && decide ((nl:Int)<=T.v.hi))=true:=by simpa using hin
 rw [hbb] at HC
 have HIN:=hid hin
 clear hin hbb
 have HG:=hid hg
 have HK:=hid hk
 have HON:=hid hon
 have HTQ:=hid htq
 have HA2:=hid hA2
 have HB2:=hid hb2
 have HNL:=hid hnl
 have HP0:=hid hp0
 have HPT:=hid hpt0
 have HPC:=hid hpc0
 have HPM:=hid hp0m
 have HTBL:=hid htbl
 have HTD:=hid htd
 have HONE:=hid hone
 rw [hnl] at v4
 have hnl63:nl<=100000000000:=by have:=(ownV_zero hg.1);omega
 clear hkd htq hb2 hA2 ha hk hg hon hone htcs hp0 hpt0 hpc0 hp0m hnl htbl htd
 go_wp2_with fail
 (with_reducible refine (HC.out _).mono ?_)
 rintro e w3 ⟨rfl,rfl⟩
 go_wp2_with fail
 clear c0 c1 c2 c3 c4 c5 c6 v0 v1 v2 v3 v4 v5
 generalize hqa:q.ad=qa
 have HQA:=hid hqa
 clear hqa
 go_loopw [68] (fun v68 wr=>∃ k:Nat,k<=nl/\v68=.int .i64 k/\Hid (∀ j y,j<k->q.v.l[j]?=some y->Fit full (T.v.t.getD 0 default) y)/\Hid (Below w2.heap.size w2 wr)) (fun v68 _=>nl - (intOf v68).toNat)
 case atStart=>exact ⟨0,Nat.zero_le _,rfl,hid (fun j y h=>by omega),hid (Below.refl _ _)⟩
 case round =>
  obtain ⟨k,hkn,rfl,HFr,HBr⟩:=hrel
  by_cases hlt:k<nl
  ·obtain ⟨x,hx⟩:∃ x,q.v.l[k]?=some x:=⟨_,List.getElem?_eq_getElem (by rw [HNL.out];exact hlt)⟩
   obtain ⟨b1,o1,hd1,-,hbl1,hcs1⟩:=HA2.out.v.l.elem (by rw [HNL.out];omega)
   try simp only at hd1
   rw [HQA.out] at hd1
   subst hd1
   obtain ⟨q1,hq1,hv1,hg1⟩:=hcs1 k x hx
   have hg2:=hg1.through (HBr.out.block _ hbl1)
   obtain ⟨d0,d1,d2,d3,d4,d5⟩:=hg2
   have hmem:x∈q.v.l:=List.mem_of_getElem? hx
   have hba:=(Below.refl wr.heap.size wr).alloc (Nat.le_refl _) (.cells #[.int .i64 q1.v.k,.int .i64 q1.v.n,.int .u64 q1.v.f,.string q1.v.s,.slice q1.ad q1.v.l.length q1.cap,.slice q1.bd q1.v.e.length q1.dap] 32)
   have hxb:=heap_alloc_new wr (.cells #[.int .i64 q1.v.k,.int .i64 q1.v.n,.int .u64 q1.v.f,.string q1.v.s,.slice q1.ad q1.v.l.length q1.cap,.slice q1.bd q1.v.e.length q1.dap] 32)
   have HBa:Hid (Below w2.heap.size w2 (wr.alloc (.cells #[.int .i64 q1.v.k,.int .i64 q1.v.n,.int .u64 q1.v.f,.string q1.v.s,.slice q1.ad q1.v.l.length q1.cap,.slice q1.bd q1.v.e.length q1.dap] 32))):=hid (HBr.out.trans (hba.mono HBr.out.size))
   have r1:(0:Int)<=(k:Int):=by omega
   have r2:(k:Int)<(nl:Int):=by omega
   have r4:(k:Int).toNat=k:=rfl
   have HX:=hid hx
   have HMEM:=hid hmem
   have HQ1:=hid hq1
   have HV1:=hid hv1
   clear hcs1 hx hmem hq1 hv1 hba
   go_upto_region 15 with fail
   generalize World.alloc wr _=wx at hxb HBa ⊢
   generalize hxbe:wr.heap.size=xb at hxb ⊢
   clear hxbe d0 d1 d2 d3 d4 d5
   have hBd:Below w2.heap.size w2 wx.drew:=HBa.out.trans ((Gx.drewN_below wx 1 _).mono HBa.out.size)
   have hxlt:=(Array.getElem?_eq_some_iff.1 hxb).1
   have hkeep:∀ W,Below wx.heap.size wx W->(fun w'=>w'.cell? ⟨w.heap.size,4,none⟩=some (.slice (some ⟨tb,t0,none⟩) 1 T.tc)/\w'.cell? ⟨tb,t0,none⟩=some (.int .i64 p0.v.k)/\w'.cell? ⟨tb,t0+1,none⟩=some (.int .i64 p0.v.lo)/\w'.cell? ⟨tb,t0+2,none⟩=some (.int .i64 p0.v.hi)/\w'.cell? ⟨tb,t0+3,none⟩=some (.slice p0.xd p0.v.x.length p0.xc)/\w'.cell? ⟨tb,t0+4,none⟩=some (.slice p0.td p0.v.t.length p0.tc)/\w'.cell? ⟨tb,t0+5,none⟩=some (.slice p0.fd p0.v.f.length p0.fc)/\w'.cell? ⟨tb,t0+6,none⟩=some (.string p0.v.n)/\w'.cell? ⟨xb,0,none⟩=some (.int .i64 q1.v.k)/\w'.cell? ⟨xb,1,none⟩=some (.int .i64 q1.v.n)/\w'.cell? ⟨xb,2,none⟩=some (.int .u64 q1.v.f)/\w'.cell? ⟨xb,3,none⟩=some (.string q1.v.s)/\w'.cell? ⟨xb,4,none⟩=some (.slice q1.ad q1.v.l.length q1.cap)/\w'.cell? ⟨xb,5,none⟩=some (.slice q1.bd q1.v.e.length q1.dap)) W:=fun W hW=>by
    have hT:=(HTQ.out.keep (HBa.out.trans (hW.mono HBa.out.size))).t
    obtain ⟨-,-,-,-,z4,-⟩:=ty_cells hT
    obtain ⟨e0,e1,e2,e3,e4,e5,e6⟩:=HPC.out.through (w':=W) ((HBa.out.trans (hW.mono HBa.out.size)).block _ HTBL.out)
    obtain ⟨y0,y1,y2,y3,y4,y5⟩:=six_at ((hW.block _ hxlt).trans hxb)
    rw [HTD.out,HONE.out] at z4
    exact ⟨z4,e0,e1,e2,e3,e4,e5,e6,y0,y1,y2,y3,y4,y5⟩
   have hk0:=hkeep wx.drew (Gx.drewN_below wx 1 _)
   have HKEEP:=hid hkeep
   have hcall:=HON.out p0 q1 ⟨#[]⟩ k wx.drew ⟨HA2.out.j.keep hBd,HA2.out.u.keep hBd,HPT.out.keep hBd,HV1.out.keep hBd⟩ (HK.out.t _ HPM.out) (by rw [HQ1.out];have hg:=HG.out;have hmem:=HMEM.out;exact hg.l x hmem)
   unfold Lt.val Loc.val at hcall
   have HCALL:=hid hcall
   have HBd:=hid hBd
   have HDW:=hid (Gx.drewN_below wx 1 wx.heap.size)
   clear hkeep hcall hBd hxb hxlt
   go_region_held3 (fun w'=>w'.cell? ⟨w.heap.size,4,none⟩=some (.slice (some ⟨tb,t0,none⟩) 1 T.tc)/\w'.cell? ⟨tb,t0,none⟩=some (.int .i64 p0.v.k)/\w'.cell? ⟨tb,t0+1,none⟩=some (.int .i64 p0.v.lo)/\w'.cell? ⟨tb,t0+2,none⟩=some (.int .i64 p0.v.hi)/\w'.cell? ⟨tb,t0+3,none⟩=some (.slice p0.xd p0.v.x.length p0.xc)/\w'.cell? ⟨tb,t0+4,none⟩=some (.slice p0.td p0.v.t.length p0.tc)/\w'.cell? ⟨tb,t0+5,none⟩=some (.slice p0.fd p0.v.f.length p0.fc)/\w'.cell? ⟨tb,t0+6,none⟩=some (.string p0.v.n)/\w'.cell? ⟨xb,0,none⟩=some (.int .i64 q1.v.k)/\w'.cell? ⟨xb,1,none⟩=some (.int .i64 q1.v.n)/\w'.cell? ⟨xb,2,none⟩=some (.int .u64 q1.v.f)/\w'.cell? ⟨xb,3,none⟩=some (.string q1.v.s)/\w'.cell? ⟨xb,4,none⟩=some (.slice q1.ad q1.v.l.length q1.cap)/\w'.cell? ⟨xb,5,none⟩=some (.slice q1.bd q1.v.e.length q1.dap)) (first|exact hk0|exact hk1|go_keep)
    (first
      | (go_simp;(with_reducible refine HCALL.out.mono ?_);rintro e w3 ⟨ad,pl,pc,bad,rfl,hbad,hp,hb3⟩;have hk1:=HKEEP.out w3 (HDW.out.trans (hb3.mono HDW.out.size));have HBAD:=hid hbad;have HP3:=hid hp;have HB3:=hid (HBd.out.trans (hb3.mono HBd.out.size));clear hbad hp hb3))
   clear hk0 hk1 HCALL HKEEP HDW HBd
   rw [HQ1.out,HP0.out] at HBAD
   cases bad with
   | true =>
     have HF:Hid (FitPost (PartFit full T.v q.v) (d+1) w (.returned (.tuple #[.slice ad pl pc,.bool true])) w3):=hid ⟨ad,pl,pc,true,rfl,by
      have hkd:=HKD.out
      rw [part8 hkd]
      refine ⟨fun h=>(by cases h),fun h=>absurd (h.2 x HMEM.out) (fun hf=>by have:=HBAD.out.2 hf;cases this)⟩,HP3.out,HB2.out.trans (HB3.out.mono HB2.out.size)⟩
     clear HBAD HP3 HB3 HB2 HFr HBr HBa HX HMEM HQ1 HV1 HA2 HTQ HON HK HG HPT HPC HPM HP0 HNL HTD HTBL HKD
     go_wp2_with fail
     exact bodyPost_ret (v:=.tuple #[.slice ad pl pc,.bool true]) (by simp [results,Tryz.results53,go_sem]) rfl HF.out
   | false =>
     have H1:Hid (∀ j y,j<k+1->q.v.l[j]?=some y->Fit full (T.v.t.getD 0 default) y):=hid (fun j y hj hy=>by
      by_cases e:j=k
      ·subst e;rw [HX.out] at hy;cases hy;exact HBAD.out.1 rfl
      ·exact HFr.out j y (by omega) hy)
     clear HBAD HP3 HFr HBr HBa HX HMEM HQ1 HV1
     go_wp2_with fail
     go_roundw
     case rel=>exact ⟨k+1,by omega,by go_num,H1,HB3⟩
     case measure=>simp [intOf];omega
  ·obtain rfl:k=nl:=by omega
   have HF:Hid (FitPost (PartFit full T.v q.v) (d+1) w (.returned (.tuple #[.slice none 0 0,.bool false])) wr):=hid (fit_post false (by
    have hkd:=HKD.out
    rw [part8 hkd]
    have hall:∀ y∈q.v.l,Fit full (T.v.t.getD 0 default) y:=fun y hy=>by
     obtain ⟨j,hj⟩:=List.getElem?_of_mem hy
     exact HFr.out j y (by have:=(List.getElem?_eq_some_iff.1 hj).1;rw [HNL.out] at this;exact this) hj
    exact ⟨fun _=>⟨by rw [HNL.out];exact HIN.out,hall⟩,fun _=>rfl⟩) (HB2.out.trans (HBr.out.mono HB2.out.size)))
   clear HFr HBr HB2 HA2 HTQ HON HK HG HPT HPC HPM HP0 HNL HTD HTBL HKD
   go_wp2_with fail
   exact bodyPost_ret (v:=.tuple #[.slice none 0 0,.bool false]) (by simp [results,Tryz.results53,go_sem]) rfl HF.out
theorem part_map {J:Nat} {r:Lt} {full:Bool} {d:Nat} (hon:OnAll J r full d) (T:Lt) (q:Loc) (w:World) (ha:Asked J r full T q w) (hk:TOk T.v) (hg:Gd (d+1) q.v) (hkd:T.v.k=9) :
 Calls Tryz.prog 53 #[.pointer (some ⟨J,0,none⟩),T.val,q.val] w (FitPost (PartFit full T.v q.v) (d+1) w):=by
 obtain ⟨htq,hb2⟩:=tq_start w T q
 have hA2:=ha.keep hb2
 have HKD:=hid hkd
 clear hkd
 unfold Lt.val Loc.val
 go_enter Tryz.func53,Tryz.ntmps53
 go_upto_region 1 with fail
 generalize World.alloc (World.alloc w _) _=w2 at htq hb2 hA2 ⊢
 have hkd:=HKD.out
 obtain ⟨c0,c1,c2,c3,c4,c5,c6,-⟩:=ty_cells htq.t
 obtain ⟨v0,v1,v2,v3,v4,v5⟩:=six_at htq.q
 rw [hkd] at c0
 obtain ⟨nl,hnl⟩:∃ nl,q.v.e.length=nl:=⟨_,rfl⟩
 have hone:=hk.one (by omega)
 obtain ⟨tb,t0,htd,-,htbl,htcs⟩:=hA2.t.t.elem (by omega)
 try simp only at htd
 obtain ⟨p0,hp0,hpt0,hpc0⟩:=htcs 0 (T.v.t.getD 0 default) (by rw [List.getD_eq_getElem?_getD,List.getElem?_eq_getElem (by omega)];rfl)
 have hp0m:p0.v∈T.v.t:=by rw [hp0,List.getD_eq_getElem?_getD,List.getElem?_eq_getElem (by omega)];exact List.getElem_mem (by omega)
 rw [Nat.zero_mul,Nat.add_zero] at hpc0
 have HG:=hid hg
 have HK:=hid hk
 have HON:=hid hon
 have HTQ:=hid htq
 have HA2:=hid hA2
 have HB2:=hid hb2
 have HNL:=hid hnl
 have HP0:=hid hp0
 have HPT:=hid hpt0
 have HPC:=hid hpc0
 have HPM:=hid hp0m
 have HTBL:=hid htbl
 have HTD:=hid htd
 have HONE:=hid hone
 rw [hnl] at v5
 have hnl63:nl<=100000000000:=by have:=(ownV_zero hg.1);omega
 clear hkd htq hb2 hA2 ha hk hg hon hone htcs hp0 hpt0 hpc0 hp0m hnl htbl htd
 go_wp2_with fail
 clear c0 c1 c2 c3 c4 c5 c6 v0 v1 v2 v3 v4 v5
 generalize hqa:q.bd=qa
 have HQA:=hid hqa
 clear hqa
 go_loopw [93] (fun v68 wr=>∃ k:Nat,k<=nl/\v68=.int .i64 k/\Hid (∀ j y,j<k->q.v.e[j]?=some y->Fit full (T.v.t.getD 0 default) y.2)/\Hid (Below w2.heap.size w2 wr)) (fun v68 _=>nl - (intOf v68).toNat)
 case atStart=>exact ⟨0,Nat.zero_le _,rfl,hid (fun j y h=>by omega),hid (Below.refl _ _)⟩
 case round =>
  obtain ⟨k,hkn,rfl,HFr,HBr⟩:=hrel
  by_cases hlt:k<nl
  ·obtain ⟨x,hx⟩:∃ x,q.v.e[k]?=some x:=⟨_,List.getElem?_eq_getElem (by rw [HNL.out];exact hlt)⟩
   obtain ⟨b1,o1,hd1,-,hbl1,hcs1⟩:=HA2.out.v.e.entry (by rw [HNL.out];omega)
   try simp only at hd1
   rw [HQA.out] at hd1
   subst hd1
   obtain ⟨-,gk1,q1,hq1,hv1,hg1⟩:=hcs1 k x hx
   have k1:wr.cell? ⟨b1,o1+k * 7,none⟩=some (.string x.1):=(HBr.out.cell (p:=⟨b1,_,none⟩) hbl1).trans gk1
   obtain ⟨d0,d1,d2,d3,d4,d5⟩:=(hg1.through (HBr.out.block _ hbl1)).seven
   have hmem:x∈q.v.e:=List.mem_of_getElem? hx
   have hba:=(Below.refl wr.heap.size wr).alloc (Nat.le_refl _) (.cells #[.string x.1,.int .i64 q1.v.k,.int .i64 q1.v.n,.int .u64 q1.v.f,.string q1.v.s,.slice q1.ad q1.v.l.length q1.cap,.slice q1.bd q1.v.e.length q1.dap] 96)
   have hxb:=heap_alloc_new wr (.cells #[.string x.1,.int .i64 q1.v.k,.int .i64 q1.v.n,.int .u64 q1.v.f,.string q1.v.s,.slice q1.ad q1.v.l.length q1.cap,.slice q1.bd q1.v.e.length q1.dap] 96)
   have HBa:Hid (Below w2.heap.size w2 (wr.alloc (.cells #[.string x.1,.int .i64 q1.v.k,.int .i64 q1.v.n,.int .u64 q1.v.f,.string q1.v.s,.slice q1.ad q1.v.l.length q1.cap,.slice q1.bd q1.v.e.length q1.dap] 96))):=hid (HBr.out.trans (hba.mono HBr.out.size))
   have r1:(0:Int)<=(k:Int):=by omega
   have r2:(k:Int)<(nl:Int):=by omega
   have r4:(k:Int).toNat=k:=rfl
   have HX:=hid hx
   have HMEM:=hid hmem
   have HQ1:=hid hq1
   have HV1:=hid hv1
   clear hcs1 hx hmem hq1 hv1 hba
   go_upto_region 23 with fail
   generalize World.alloc wr _=wx at hxb HBa ⊢
   generalize hxbe:wr.heap.size=xb at hxb ⊢
   clear hxbe d0 d1 d2 d3 d4 d5 k1
   have hBd:Below w2.heap.size w2 wx.drew:=HBa.out.trans ((Gx.drewN_below wx 1 _).mono HBa.out.size)
   have hxlt:=(Array.getElem?_eq_some_iff.1 hxb).1
   have hkeep:∀ W,Below wx.heap.size wx W->(fun w'=>w'.cell? ⟨w.heap.size,4,none⟩=some (.slice (some ⟨tb,t0,none⟩) 1 T.tc)/\w'.cell? ⟨tb,t0,none⟩=some (.int .i64 p0.v.k)/\w'.cell? ⟨tb,t0+1,none⟩=some (.int .i64 p0.v.lo)/\w'.cell? ⟨tb,t0+2,none⟩=some (.int .i64 p0.v.hi)/\w'.cell? ⟨tb,t0+3,none⟩=some (.slice p0.xd p0.v.x.length p0.xc)/\w'.cell? ⟨tb,t0+4,none⟩=some (.slice p0.td p0.v.t.length p0.tc)/\w'.cell? ⟨tb,t0+5,none⟩=some (.slice p0.fd p0.v.f.length p0.fc)/\w'.cell? ⟨tb,t0+6,none⟩=some (.string p0.v.n)/\w'.cell? ⟨xb,0,none⟩=some (.string x.1)/\w'.cell? ⟨xb,1,none⟩=some (.int .i64 q1.v.k)/\w'.cell? ⟨xb,2,none⟩=some (.int .i64 q1.v.n)/\w'.cell? ⟨xb,3,none⟩=some (.int .u64 q1.v.f)/\w'.cell? ⟨xb,4,none⟩=some (.string q1.v.s)/\w'.cell? ⟨xb,5,none⟩=some (.slice q1.ad q1.v.l.length q1.cap)/\w'.cell? ⟨xb,6,none⟩=some (.slice q1.bd q1.v.e.length q1.dap)) W:=fun W hW=>by
    have hT:=(HTQ.out.keep (HBa.out.trans (hW.mono HBa.out.size))).t
    obtain ⟨-,-,-,-,z4,-⟩:=ty_cells hT
    obtain ⟨e0,e1,e2,e3,e4,e5,e6⟩:=HPC.out.through (w':=W) ((HBa.out.trans (hW.mono HBa.out.size)).block _ HTBL.out)
    obtain ⟨y0,y1,y2,y3,y4,y5,y6⟩:=seven_cells ((hW.block _ hxlt).trans hxb)
    rw [HTD.out,HONE.out] at z4
    exact ⟨z4,e0,e1,e2,e3,e4,e5,e6,y0,y1,y2,y3,y4,y5,y6⟩
   have hk0:=hkeep wx.drew (Gx.drewN_below wx 1 _)
   have HKEEP:=hid hkeep
   have hcall:=HON.out p0 q1 x.1 (-1) wx.drew ⟨HA2.out.j.keep hBd,HA2.out.u.keep hBd,HPT.out.keep hBd,HV1.out.keep hBd⟩ (HK.out.t _ HPM.out) (by rw [HQ1.out];have hg:=HG.out;have hmem:=HMEM.out;exact hg.e x hmem)
   unfold Lt.val Loc.val at hcall
   have HCALL:=hid hcall
   have HBd:=hid hBd
   have HDW:=hid (Gx.drewN_below wx 1 wx.heap.size)
   clear hkeep hcall hBd hxb hxlt
   go_region_held3 (fun w'=>w'.cell? ⟨w.heap.size,4,none⟩=some (.slice (some ⟨tb,t0,none⟩) 1 T.tc)/\w'.cell? ⟨tb,t0,none⟩=some (.int .i64 p0.v.k)/\w'.cell? ⟨tb,t0+1,none⟩=some (.int .i64 p0.v.lo)/\w'.cell? ⟨tb,t0+2,none⟩=some (.int .i64 p0.v.hi)/\w'.cell? ⟨tb,t0+3,none⟩=some (.slice p0.xd p0.v.x.length p0.xc)/\w'.cell? ⟨tb,t0+4,none⟩=some (.slice p0.td p0.v.t.length p0.tc)/\w'.cell? ⟨tb,t0+5,none⟩=some (.slice p0.fd p0.v.f.length p0.fc)/\w'.cell? ⟨tb,t0+6,none⟩=some (.string p0.v.n)/\w'.cell? ⟨xb,0,none⟩=some (.string x.1)/\w'.cell? ⟨xb,1,none⟩=some (.int .i64 q1.v.k)/\w'.cell? ⟨xb,2,none⟩=some (.int .i64 q1.v.n)/\w'.cell? ⟨xb,3,none⟩=some (.int .u64 q1.v.f)/\w'.cell? ⟨xb,4,none⟩=some (.string q1.v.s)/\w'.cell? ⟨xb,5,none⟩=some (.slice q1.ad q1.v.l.length q1.cap)/\w'.cell? ⟨xb,6,none⟩=some (.slice q1.bd q1.v.e.length q1.dap)) (first|exact hk0|exact hk1|go_keep)
    (first
      | (go_simp;(with_reducible refine HCALL.out.mono ?_);rintro e w3 ⟨ad,pl,pc,bad,rfl,hbad,hp,hb3⟩;have hk1:=HKEEP.out w3 (HDW.out.trans (hb3.mono HDW.out.size));have HBAD:=hid hbad;have HP3:=hid hp;have HB3:=hid (HBd.out.trans (hb3.mono HBd.out.size));clear hbad hp hb3))
   clear hk0 hk1 HCALL HKEEP HDW HBd
   rw [HQ1.out,HP0.out] at HBAD
   cases bad with
   | true =>
     have HF:Hid (FitPost (PartFit full T.v q.v) (d+1) w (.returned (.tuple #[.slice ad pl pc,.bool true])) w3):=hid ⟨ad,pl,pc,true,rfl,by
      have hkd:=HKD.out
      rw [part9 hkd]
      refine ⟨fun h=>(by cases h),fun h=>absurd (h x HMEM.out) (fun hf=>by have:=HBAD.out.2 hf;cases this)⟩,HP3.out,HB2.out.trans (HB3.out.mono HB2.out.size)⟩
     clear HBAD HP3 HB3 HB2 HFr HBr HBa HX HMEM HQ1 HV1 HA2 HTQ HON HK HG HPT HPC HPM HP0 HNL HTD HTBL HKD
     go_wp2_with fail
     exact bodyPost_ret (v:=.tuple #[.slice ad pl pc,.bool true]) (by simp [results,Tryz.results53,go_sem]) rfl HF.out
   | false =>
     have H1:Hid (∀ j y,j<k+1->q.v.e[j]?=some y->Fit full (T.v.t.getD 0 default) y.2):=hid (fun j y hj hy=>by
      by_cases e:j=k
      ·subst e;rw [HX.out] at hy;cases hy;exact HBAD.out.1 rfl
      ·exact HFr.out j y (by omega) hy)
     clear HBAD HP3 HFr HBr HBa HX HMEM HQ1 HV1
     go_wp2_with fail
     go_roundw
     case rel=>exact ⟨k+1,by omega,by go_num,H1,HB3⟩
     case measure=>simp [intOf];omega
  ·obtain rfl:k=nl:=by omega
   have HF:Hid (FitPost (PartFit full T.v q.v) (d+1) w (.returned (.tuple #[.slice none 0 0,.bool false])) wr):=hid (fit_post false (by
    have hkd:=HKD.out
    rw [part9 hkd]
    have hall:∀ y∈q.v.e,Fit full (T.v.t.getD 0 default) y.2:=fun y hy=>by
     obtain ⟨j,hj⟩:=List.getElem?_of_mem hy
     exact HFr.out j y (by have:=(List.getElem?_eq_some_iff.1 hj).1;rw [HNL.out] at this;exact this) hj
    exact ⟨fun _=>hall,fun _=>rfl⟩) (HB2.out.trans (HBr.out.mono HB2.out.size)))
   clear HFr HBr HB2 HA2 HTQ HON HK HG HPT HPC HPM HP0 HNL HTD HTBL HKD
   go_wp2_with fail
   exact bodyPost_ret (v:=.tuple #[.slice none 0 0,.bool false]) (by simp [results,Tryz.results53,go_sem]) rfl HF.out
end Go.Proofs.YtgnonbdkmmkdgaaGreatDoor
