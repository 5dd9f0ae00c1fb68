/-
  Lemmas for the statement: plain laws, and what functions answer; the conditions stand in each.
-/
import Derived.Test.YtgnonbdkmmkdgaaGreatDoorChainTypedAllQ22
import Derived.Test.YtgnonbdkmmkdgaaGreatDoorChainTypedAllQ25
set_option linter.unusedVariables false
set_option linter.unusedSimpArgs false
set_option maxHeartbeats 16000000
set_option maxRecDepth 100000
open Go.Lib (hid)
namespace Go.Proofs.YtgnonbdkmmkdgaaGreatDoor
open Go.RowKit Gx
theorem rec_name (d:Nat) (q:Lt) (m:Lm) (w:World) (S C:Nat->Prop) (hq:OwnT w S q) (hs:Seen d q.v) (hk:q.v.k=10) (hm:MvAt w (fun _=>True) m) (hT:Tabs w) (hSC:∀ b,S b->C b) (hC:∀ b,w.heap.size<=b->C b) (f:Fd Ty) (h3:m.k≠3) (hn:fdOf q.v.f m.key=some f) (ho:f.o=false) (hh:f.h=false) (h1:m.k=1) :
 Calls Tryz.prog 49 #[q.val,m.val] w (TypedPost (fun u=>RecR m.mv q.v u) S C w):=by
 obtain ⟨h10x,h10t,h200⟩:=hs.ten hk
 have hrb:=RB.start w (fun _=>False) #[.int .i64 q.v.k,.int .i64 q.v.lo,.int .i64 q.v.hi,.slice q.xd q.v.x.length q.xc,.slice q.td q.v.t.length q.tc,.slice q.fd q.v.f.length q.fc,.string q.v.n] #[.int .i64 m.k,.slice m.pd m.p.length m.pc,.string m.key,.string m.dst,.int .i64 m.q.v.k,.int .i64 m.q.v.n,.int .u64 m.q.v.f,.string m.q.v.s,.slice m.q.ad m.q.v.l.length m.q.cap,.slice m.q.bd m.q.v.e.length m.q.dap]
 have hqt:TyAt w (fun _=>True) q:=hq.at_.weak (fun _ _ _=>trivial)
 unfold Lt.val Lm.val
 obtain ⟨nx,hnx⟩:∃ m,q.v.x.length=m:=⟨_,rfl⟩
 obtain ⟨nt,hnt⟩:∃ m,q.v.t.length=m:=⟨_,rfl⟩
 obtain ⟨nf,hnf⟩:∃ m,q.v.f.length=m:=⟨_,rfl⟩
 rw [hnx,hnt,hnf] at hrb ⊢
 have HNX:=hid hnx
 have HNT:=hid hnt
 have HNF:=hid hnf
 have HQ:=hid hq
 have HQT:=hid hqt
 have HM:=hid hm
 have HT:=hid hT
 have HS:=hid hs
 have HSC:=hid hSC
 have HC:=hid hC
 have HX0:=hid h10x
 have HT0:=hid h10t
 have H200:nf<=200:=by rw [<-hnf];exact h200
 clear hnx hnt hnf hq hqt hm hT hs hSC hC hk h10x h10t h200
 have hask1:=askedF_some hn
 rw [ho,hh] at hask1
 have hin:=(fpos_some hn).1
 obtain ⟨g,ps,Sd,hrec⟩:=(HQ.out.weak (C:=fun b=>S b/\b<w.heap.size) (fun b h hl=>⟨h,hl⟩)).recAt (by have:=(fpos_some hn).1;omega)
 obtain ⟨p,hp,hpf⟩:=hrec.get hn
 have hbare:=HS.out.bare f (List.mem_of_getElem? (fpos_some hn).2) hh
 have hpl:ps.length=nf:=by rw [hrec.len];exact HNF.out
 have hfd:=hrec.fd
 have hpt:f.t=p.t.v:=by rw [<-hpf];rfl
 have hpdv:f.d=p.d.v:=by rw [<-hpf];rfl
 rw [hpdv] at hbare
 obtain ⟨ii,hii⟩:∃ ii,fpos m.key q.v.f=ii:=⟨_,rfl⟩
 rw [hii] at hp hask1
 have r3:ii<nf:=by rw [<-hii,<-HNF.out];exact hin
 have hpt1:=hrec.ho ii p hp
 have h8:p.t.v.k=8->p.t.v.t.length=1:=fun h8=>by rw [<-hpt] at h8 ⊢;exact (HS.out.tok.f f (List.mem_of_getElem? (fpos_some hn).2)).one (.inl h8)
 have H8:=hid h8
 have hpd1:=hrec.hv ii p hp
 have HN:=hid hn
 have e3:(m.k==3)=false:=beq_eq_false_iff_ne.2 h3
 have H3:=hid h3
 have HA1:Hid (askedF q.v m.key=(ii:Int)):=hid hask1
 have HREC:=hid hrec
 have HP0:=hid hp
 have HPF:=hid hpf
 have HII:=hid hii
 have HPL:=hid hpl
 have HBA:=hid hbare
 have HFD:=hid hfd
 have HPT:=hid hpt
 have HPO:=hid hpt1
 have HPD:=hid hpd1
 have HFO:=hid ho
 have HFH:=hid hh
 have HGL:Hid (g<w.heap.size):=hid hrec.lt.2
 rw [hfd]
 have e1:((ii:Int)==-1)=false:=by rw [beq_eq_false_iff_ne];omega
 have e2:decide ((ii:Int)<0)=false:=decide_eq_false (by omega)
 have r1:(0:Int)<=(ii:Int):=by omega
 have r2:(ii:Int)<(nf:Int):=by omega
 have r4:(ii:Int).toNat=ii:=rfl
 rw [hfd] at hrb
 clear hn h3 ho hh hask1 hin hrec hp hpf hbare hpl hfd hpt hpdv hii hpt1 hpd1 h8
 have e0:(m.k==1)=true:=beq_iff_eq.2 h1
 have H1:=hid h1
 clear h1
 go_enter Tryz.func49,Tryz.ntmps49
 go_upto_region 1 with fail
 generalize World.alloc (World.alloc (World.alloc w _) _) _=w1 at hrb ⊢
 have HR:=hid hrb
 clear hrb
 obtain ⟨a0,a1,a2,a3,a4,a5,a6,-⟩:=ty_cells HR.out.bt
 obtain ⟨b0,b1,b2,b3,b4,b5,b6,b7,b8,b9⟩:=ten_cells HR.out.bm
 have hask:=asked_any q m.key w1 (HQT.out.keep HR.out.below)
 unfold IntB Lt.val at hask
 rw [HNX.out,HNT.out,HNF.out,HFD.out,HA1.out] at hask
 have HASK:=hid hask
 clear hask
 go_wp2_with fail
 (with_reducible refine HASK.out.mono ?_)
 rintro e w2 ⟨rfl,hb2⟩
 have HR2:=hid (HR.out.keep hb2)
 clear a0 a1 a2 a3 a4 a5 a6 b0 b1 b2 b3 b4 b5 b6 b7 b8 b9 hb2 HR HASK
 obtain ⟨a0,a1,a2,a3,a4,a5,a6,-⟩:=ty_cells HR2.out.bt
 obtain ⟨b0,b1,b2,b3,b4,b5,b6,b7,b8,b9⟩:=ten_cells HR2.out.bm
 have hcell:∀ j u,(cellsF true p)[j]?=some u->w2.cell? ⟨g,ii * 16+j,none⟩=some u:=fun j u hj=>(HR2.out.below.cell (p:=⟨g,ii * 16+j,none⟩) HGL.out).trans (HREC.out.cells HP0.out j u hj)
 have d0:w2.cell? ⟨g,ii * 16,none⟩=some (.string p.n):=hcell 0 _ rfl
 have d1:=hcell 1 (.bool p.o) rfl
 have d2:=hcell 2 (.bool p.h) rfl
 have d3:=hcell 3 (.int .i64 p.t.v.k) rfl
 have d4:=hcell 4 (.int .i64 p.t.v.lo) rfl
 have d5:=hcell 5 (.int .i64 p.t.v.hi) rfl
 have d6:=hcell 6 (.slice p.t.xd p.t.v.x.length p.t.xc) rfl
 have d7:=hcell 7 (.slice p.t.td p.t.v.t.length p.t.tc) rfl
 have d8:=hcell 8 (.slice p.t.fd p.t.v.f.length p.t.fc) rfl
 have d9:=hcell 9 (.string p.t.v.n) rfl
 have d10:=hcell 10 (.int .i64 p.d.v.k) rfl
 have d11:=hcell 11 (.int .i64 p.d.v.n) rfl
 have d12:=hcell 12 (.int .u64 p.d.v.f) rfl
 have d13:=hcell 13 (.string p.d.v.s) rfl
 have d14:=hcell 14 (.slice p.d.ad p.d.v.l.length p.d.cap) rfl
 have d15:=hcell 15 (.slice p.d.bd p.d.v.e.length p.d.dap) rfl
 have hba:=(Below.refl w2.heap.size w2).alloc (Nat.le_refl _) (.cells #[.string p.n,.bool p.o,.bool p.h,.int .i64 p.t.v.k,.int .i64 p.t.v.lo,.int .i64 p.t.v.hi,.slice p.t.xd p.t.v.x.length p.t.xc,.slice p.t.td p.t.v.t.length p.t.tc,.slice p.t.fd p.t.v.f.length p.t.fc,.string p.t.v.n,.int .i64 p.d.v.k,.int .i64 p.d.v.n,.int .u64 p.d.v.f,.string p.d.v.s,.slice p.d.ad p.d.v.l.length p.d.cap,.slice p.d.bd p.d.v.e.length p.d.dap] 65)
 have hcb:=heap_alloc_new w2 (.cells #[.string p.n,.bool p.o,.bool p.h,.int .i64 p.t.v.k,.int .i64 p.t.v.lo,.int .i64 p.t.v.hi,.slice p.t.xd p.t.v.x.length p.t.xc,.slice p.t.td p.t.v.t.length p.t.tc,.slice p.t.fd p.t.v.f.length p.t.fc,.string p.t.v.n,.int .i64 p.d.v.k,.int .i64 p.d.v.n,.int .u64 p.d.v.f,.string p.d.v.s,.slice p.d.ad p.d.v.l.length p.d.cap,.slice p.d.bd p.d.v.e.length p.d.dap] 65)
 have HR3:=hid (HR2.out.keep hba)
 have hxl:=HR2.out.s
 obtain ⟨xb,hxb⟩:∃ xb,w2.heap.size=xb:=⟨_,rfl⟩
 go_upto_region 13 with fail
 clear d0 d1 d2 d3 d4 d5 d6 d7 d8 d9 d10 d11 d12 d13 d14 d15 a0 a1 a2 a3 a4 a5 a6 b0 b1 b2 b3 b4 b5 b6 b7 b8 b9 hcell hba
 generalize World.alloc w2 _=w3 at HR3 hcb ⊢
 rw [hxb] at hcb hxl
 try rw [hxb]
 have HCB:=hid hcb
 clear hxb hcb HR2
 obtain ⟨a0,a1,a2,a3,a4,a5,a6,-⟩:=ty_cells HR3.out.bt
 obtain ⟨b0,b1,b2,b3,b4,b5,b6,b7,b8,b9⟩:=ten_cells HR3.out.bm
 obtain ⟨c0,c1,c2,c3,c4,c5,c6,c7,c8,c9,c10,c11,c12,c13,c14,c15⟩:=field_cells HCB.out
 go_upto_region 15 with fail
 go_cut [74] (fun v74 wx=>∃ bb:Bool,v74=.bool bb/\Hid (bb=false->m.dst≠m.key->fdOf q.v.f m.dst=none)/\Hid (RB w (fun _=>False) #[.int .i64 q.v.k,.int .i64 q.v.lo,.int .i64 q.v.hi,.slice q.xd nx q.xc,.slice q.td nt q.tc,.slice (some ⟨g,0,none⟩) nf q.fc,.string q.v.n] #[.int .i64 m.k,.slice m.pd m.p.length m.pc,.string m.key,.string m.dst,.int .i64 m.q.v.k,.int .i64 m.q.v.n,.int .u64 m.q.v.f,.string m.q.v.s,.slice m.q.ad m.q.v.l.length m.q.cap,.slice m.q.bd m.q.v.e.length m.q.dap] #[.int .i64 0,.int .i64 0,.int .i64 0,.slice none 0 0,.slice none 0 0,.slice none 0 0,.string ⟨#[]⟩] wx)/\Hid (wx.heap[xb]?=some (.cells #[.string p.n,.bool p.o,.bool p.h,.int .i64 p.t.v.k,.int .i64 p.t.v.lo,.int .i64 p.t.v.hi,.slice p.t.xd p.t.v.x.length p.t.xc,.slice p.t.td p.t.v.t.length p.t.tc,.slice p.t.fd p.t.v.f.length p.t.fc,.string p.t.v.n,.int .i64 p.d.v.k,.int .i64 p.d.v.n,.int .u64 p.d.v.f,.string p.d.v.s,.slice p.d.ad p.d.v.l.length p.d.cap,.slice p.d.bd p.d.v.e.length p.d.dap] 65)))
 case first =>
  by_cases hd:m.dst=m.key
  ·have h1:(m.dst.toList==m.key.toList)=true:=by rw [hd];simp
   have h2:(m.dst.toList != m.key.toList)=false:=by rw [hd];simp
   have HNO:Hid (m.dst≠m.key->fdOf q.v.f m.dst=none):=hid (fun h=>absurd hd h)
   clear hd
   go_wp2_with fail
   go_meet
   exact ⟨_,rfl,hid (fun _=>HNO.out),HR3,HCB⟩
  ·have h1:(m.dst.toList==m.key.toList)=false:=by rw [name_eq];exact decide_eq_false hd
   have h2:(m.dst.toList != m.key.toList)=true:=by unfold bne;rw [h1];rfl
   have hfi:=findF_any q.fd q.fc q.v.f m.dst w3 (HQT.out.keep HR3.out.below).f
   unfold IdxPostE at hfi
   rw [HNF.out,HFD.out] at hfi
   obtain ⟨J,hJ,hJ2⟩:∃ J:Int,(if fpos m.dst q.v.f<nf then (fpos m.dst q.v.f:Int) else -1)=J/\(decide (J ≥ 0)=false->fdOf q.v.f m.dst=none):=⟨_,rfl,fun h=>by
    rw [fdOf_fpos]
    by_cases hj:fpos m.dst q.v.f<nf
    ·rw [if_pos hj] at h;exact absurd (of_decide_eq_false h) (by omega)
    ·exact List.getElem?_eq_none (by rw [HNF.out];omega)⟩
   rw [hJ] at hfi
   have HFI:=hid hfi
   have HJ2:Hid (decide (J ≥ 0)=false->m.dst≠m.key->fdOf q.v.f m.dst=none):=hid (fun h _=>hJ2 h)
   clear hfi hd hJ hJ2
   go_wp2_with fail
   (with_reducible refine HFI.out.mono ?_)
   rintro e w4 ⟨rfl,hb4⟩
   have HR4:=hid (HR3.out.keep hb4)
   have HCB4:=hid ((hb4.block _ (Array.getElem?_eq_some_iff.1 HCB.out).1).trans HCB.out)
   clear hb4
   go_wp2_with fail
   go_meet
   exact ⟨_,rfl,HJ2,HR4,HCB4⟩
 case rest =>
  obtain ⟨bb,rfl,HNO,HRc,HCc⟩:=hcut
  clear HR3 HCB a0 a1 a2 a3 a4 a5 a6 b0 b1 b2 b3 b4 b5 b6 b7 b8 b9 c0 c1 c2 c3 c4 c5 c6 c7 c8 c9 c10 c11 c12 c13 c14 c15
  obtain ⟨a0,a1,a2,a3,a4,a5,a6,-⟩:=ty_cells HRc.out.bt
  cases bb
  case true =>
   obtain ⟨p0,p1,p2,p3,p4,p5,p6,pf⟩:=ty_cells HRc.out.res
   have pf0:=pf 0
   have pf1:=pf 1
   have pf2:=pf 2
   have pf3:=pf 3
   have pf4:=pf 4
   have pf5:=pf 5
   have pf6:=pf 6
   obtain ⟨W9,hW9,hr9,hg9⟩:=seven_all HRc.out.res (.int .i64 q.v.k) (.int .i64 q.v.lo) (.int .i64 q.v.hi) (.slice q.xd nx q.xc) (.slice q.td nt q.tc) (.slice (some ⟨g,0,none⟩) nf q.fc) (.string q.v.n)
   obtain ⟨q0,q1,q2,q3,q4,q5,q6,-⟩:=ty_cells hr9
   have HW9:=hid hW9
   have HPOST:Hid (TypedPost (fun u=>RecR m.mv q.v u) S C w (.returned (.tuple #[.agg #[.int .i64 q.v.k,.int .i64 q.v.lo,.int .i64 q.v.hi,.slice q.xd nx q.xc,.slice q.td nt q.tc,.slice (some ⟨g,0,none⟩) nf q.fc,.string q.v.n],.int .i64 9])) W9):=hid ⟨q,9,by unfold Lt.val;rw [HNX.out,HNT.out,HNF.out,HFD.out],(fun h=>by cases h),HRc.out.weak.fin hg9⟩
   clear hW9 hr9 hg9 pf
   go_wp2_with fail
   rw [<-HW9.out]
   exact bodyPost_ret (v:=.tuple #[.agg #[.int .i64 q.v.k,.int .i64 q.v.lo,.int .i64 q.v.hi,.slice q.xd nx q.xc,.slice q.td nt q.tc,.slice (some ⟨g,0,none⟩) nf q.fc,.string q.v.n],.int .i64 9]) (by simp [results,Tryz.results49,go_sem,q0,q1,q2,q3,q4,q5,q6]) rfl HPOST.out
  case false =>
   obtain ⟨c0,c1,c2,c3,c4,c5,c6,c7,c8,c9,c10,c11,c12,c13,c14,c15⟩:=field_cells HCc.out
   obtain ⟨b0,b1,b2,b3,b4,b5,b6,b7,b8,b9⟩:=ten_cells HRc.out.bm
   have cf0:wc.frozen? ⟨xb,0,none⟩=false:=by simp [World.frozen?,HCc.out]
   have gx:=grown_cell wc xb 0 (.string m.dst)
   have hxc:=(Array.getElem?_eq_some_iff.1 HCc.out).1
   have HR4:=hid (HRc.out.grow gx (fun b e=>.inr (by have:=Option.some.inj e;omega)))
   have hc4:(wc.setCell ⟨xb,0,none⟩ (.string m.dst)).heap[xb]?=some (.cells #[.string m.dst,.bool p.o,.bool p.h,.int .i64 p.t.v.k,.int .i64 p.t.v.lo,.int .i64 p.t.v.hi,.slice p.t.xd p.t.v.x.length p.t.xc,.slice p.t.td p.t.v.t.length p.t.tc,.slice p.t.fd p.t.v.f.length p.t.fc,.string p.t.v.n,.int .i64 p.d.v.k,.int .i64 p.d.v.n,.int .u64 p.d.v.f,.string p.d.v.s,.slice p.d.ad p.d.v.l.length p.d.cap,.slice p.d.bd p.d.v.e.length p.d.dap] 65):=cell_store HCc.out 0 (.string m.dst)
   have HC4:=hid hc4
   clear gx hc4
   go_upto_region 18 with fail
   generalize World.setCell wc _ _=w4 at HR4 HC4 ⊢
   clear cf0 a0 a1 a2 a3 a4 a5 a6 b0 b1 b2 b3 b4 b5 b6 b7 b8 b9 c0 c1 c2 c3 c4 c5 c6 c7 c8 c9 c10 c11 c12 c13 c14 c15 HRc HCc hxc
   obtain ⟨a0,a1,a2,a3,a4,a5,a6,-⟩:=ty_cells HR4.out.bt
   obtain ⟨c0,c1,c2,c3,c4,c5,c6,c7,c8,c9,c10,c11,c12,c13,c14,c15⟩:=field_cells HC4.out
   have HRd:Hid (RB w (fun _=>False) #[.int .i64 q.v.k,.int .i64 q.v.lo,.int .i64 q.v.hi,.slice q.xd nx q.xc,.slice q.td nt q.tc,.slice (some ⟨g,0,none⟩) nf q.fc,.string q.v.n] #[.int .i64 m.k,.slice m.pd m.p.length m.pc,.string m.key,.string m.dst,.int .i64 m.q.v.k,.int .i64 m.q.v.n,.int .u64 m.q.v.f,.string m.q.v.s,.slice m.q.ad m.q.v.l.length m.q.cap,.slice m.q.bd m.q.v.e.length m.q.dap] #[.int .i64 0,.int .i64 0,.int .i64 0,.slice none 0 0,.slice none 0 0,.slice none 0 0,.string ⟨#[]⟩] w4.drew):=hid (HR4.out.keep (Gx.drewN_below w4 1 _))
   have HCd:Hid (w4.drew.heap[xb]?=some (.cells #[.string m.dst,.bool p.o,.bool p.h,.int .i64 p.t.v.k,.int .i64 p.t.v.lo,.int .i64 p.t.v.hi,.slice p.t.xd p.t.v.x.length p.t.xc,.slice p.t.td p.t.v.t.length p.t.tc,.slice p.t.fd p.t.v.f.length p.t.fc,.string p.t.v.n,.int .i64 p.d.v.k,.int .i64 p.d.v.n,.int .u64 p.d.v.f,.string p.d.v.s,.slice p.d.ad p.d.v.l.length p.d.cap,.slice p.d.bd p.d.v.e.length p.d.dap] 65)):=hid HC4.out
   clear HR4 HC4
   have hdel:=deleteF_any (base:=1) (g:=g) (n:=ps.length) (cap:=q.fc) (i:=ii) w4.drew (own_same HREC.out.own (fun b e=>HRd.out.below.block b (by have h9:g=b:=Option.some.inj e;have:=HGL.out;have:=HRd.out.s;omega))) (by rw [HPL.out];exact r3) (by rw [HPL.out];omega) (flat_ones ps)
   unfold DelPost at hdel
   rw [HPL.out] at hdel
   have HDEL:=hid hdel
   clear hdel
   refine wp_region_held_drew (S:=fun w'=>World.cell? w' ⟨xb,0,none⟩=some (.string m.dst)/\World.cell? w' ⟨xb,1,none⟩=some (.bool p.o)/\World.cell? w' ⟨xb,2,none⟩=some (.bool p.h)/\World.cell? w' ⟨xb,3,none⟩=some (.int .i64 p.t.v.k)/\World.cell? w' ⟨xb,4,none⟩=some (.int .i64 p.t.v.lo)/\World.cell? w' ⟨xb,5,none⟩=some (.int .i64 p.t.v.hi)/\World.cell? w' ⟨xb,6,none⟩=some (.slice p.t.xd p.t.v.x.length p.t.xc)/\World.cell? w' ⟨xb,7,none⟩=some (.slice p.t.td p.t.v.t.length p.t.tc)/\World.cell? w' ⟨xb,8,none⟩=some (.slice p.t.fd p.t.v.f.length p.t.fc)/\World.cell? w' ⟨xb,9,none⟩=some (.string p.t.v.n)/\World.cell? w' ⟨xb,10,none⟩=some (.int .i64 p.d.v.k)/\World.cell? w' ⟨xb,11,none⟩=some (.int .i64 p.d.v.n)/\World.cell? w' ⟨xb,12,none⟩=some (.int .u64 p.d.v.f)/\World.cell? w' ⟨xb,13,none⟩=some (.string p.d.v.s)/\World.cell? w' ⟨xb,14,none⟩=some (.slice p.d.ad p.d.v.l.length p.d.cap)/\World.cell? w' ⟨xb,15,none⟩=some (.slice p.d.bd p.d.v.e.length p.d.dap)) (by kernel_rfl) ⟨c0,c1,c2,c3,c4,c5,c6,c7,c8,c9,c10,c11,c12,c13,c14,c15⟩ (fun hHeld=>?_)
   generalize World.drew w4=wd at HDEL HRd HCd hHeld ⊢
   clear a0 a1 a2 a3 a4 a5 a6 c0 c1 c2 c3 c4 c5 c6 c7 c8 c9 c10 c11 c12 c13 c14 c15
   refine wpAnyH_take (i:=0) (v:=.pointer (some ⟨w.heap.size,5,none⟩)) rfl (by kernel_rfl) (by kernel_rfl) (by kernel_rfl) (fun _ _ _ h=>h) (Or.inl ⟨by kernel_rfl,fun w' hSw=>?_⟩) (by assumption) ?_
   ·obtain ⟨s0,s1,s2,s3,s4,s5,s6,s7,s8,s9,s10,s11,s12,s13,s14,s15⟩:=hSw;clear hHeld;go_simp;try rfl
   try simp only [Act.put,Go.setq]
   refine wpAnyH_take (i:=2) (v:=.int .i64 (ii:Int)) rfl (by kernel_rfl) (by kernel_rfl) (by kernel_rfl) (fun _ _ _ h=>h) (Or.inl ⟨by kernel_rfl,fun w' hSw=>?_⟩) (by assumption) ?_
   ·obtain ⟨s0,s1,s2,s3,s4,s5,s6,s7,s8,s9,s10,s11,s12,s13,s14,s15⟩:=hSw;clear hHeld;go_simp;try rfl
   try simp only [Act.put,Go.setq]
   refine wpAnyH_take (i:=3) (v:=.int .i64 (ii:Int)) rfl (by kernel_rfl) (by kernel_rfl) (by kernel_rfl) (fun _ _ _ h=>h) (Or.inl ⟨by kernel_rfl,fun w' hSw=>?_⟩) (by assumption) ?_
   ·obtain ⟨s0,s1,s2,s3,s4,s5,s6,s7,s8,s9,s10,s11,s12,s13,s14,s15⟩:=hSw;clear hHeld;go_simp;try rfl
   try simp only [Act.put,Go.setq]
   refine wpAnyH_take (i:=4) (v:=.int .i64 ((ii:Int)+1)) rfl (by kernel_rfl) (by kernel_rfl) (by kernel_rfl) (fun _ _ _ h=>h) (Or.inl ⟨by kernel_rfl,fun w' hSw=>?_⟩) (by assumption) ?_
   ·obtain ⟨s0,s1,s2,s3,s4,s5,s6,s7,s8,s9,s10,s11,s12,s13,s14,s15⟩:=hSw;clear hHeld
    go_simp
    exact IntWalk.i64_in _ ⟨by omega,by omega⟩
   try simp only [Act.put,Go.setq]
   refine wpAnyH_take (i:=6) (v:=.agg #[.string m.dst,.bool p.o,.bool p.h,.int .i64 p.t.v.k,.int .i64 p.t.v.lo,.int .i64 p.t.v.hi,.slice p.t.xd p.t.v.x.length p.t.xc,.slice p.t.td p.t.v.t.length p.t.tc,.slice p.t.fd p.t.v.f.length p.t.fc,.string p.t.v.n,.int .i64 p.d.v.k,.int .i64 p.d.v.n,.int .u64 p.d.v.f,.string p.d.v.s,.slice p.d.ad p.d.v.l.length p.d.cap,.slice p.d.bd p.d.v.e.length p.d.dap]) rfl (by kernel_rfl) (by kernel_rfl) (by kernel_rfl) (fun _ _ _ h=>h) (Or.inl ⟨by kernel_rfl,fun w' hSw=>?_⟩) (by assumption) ?_
   ·obtain ⟨s0,s1,s2,s3,s4,s5,s6,s7,s8,s9,s10,s11,s12,s13,s14,s15⟩:=hSw;clear hHeld;go_simp;try rfl
   try simp only [Act.put,Go.setq]
   refine wpAnyH_ready (rs:=[1]) (by kernel_rfl) (by simp) ?_
   refine AllReadyH.cons rfl (fun KK hK=>?_) AllReadyH.nil
   have a5:=(ty_cells HRd.out.bt).2.2.2.2.2.1
   go_simp
   clear a5
   refine hK.out _ _ (by obtain ⟨s0,s1,s2,s3,s4,s5,s6,s7,s8,s9,s10,s11,s12,s13,s14,s15⟩:=field_cells HCd.out;exact ⟨s0,s1,s2,s3,s4,s5,s6,s7,s8,s9,s10,s11,s12,s13,s14,s15⟩) (fun hHeld=>?_)
   clear hK KK
   try simp only [Act.put,Go.setq]
   refine wpAnyH_ready (rs:=[5]) (by kernel_rfl) (by simp) ?_
   refine AllReadyH.cons rfl (fun KK hK=>?_) AllReadyH.nil
   go_simp
   (with_reducible refine HDEL.out.mono ?_)
   rintro e w5 ⟨rfl,hown,hg5⟩
   have hx5:xb<wd.heap.size:=(Array.getElem?_eq_some_iff.1 HCd.out).1
   have HR5:Hid (RB w S #[.int .i64 q.v.k,.int .i64 q.v.lo,.int .i64 q.v.hi,.slice q.xd nx q.xc,.slice q.td nt q.tc,.slice (some ⟨g,0,none⟩) nf q.fc,.string q.v.n] #[.int .i64 m.k,.slice m.pd m.p.length m.pc,.string m.key,.string m.dst,.int .i64 m.q.v.k,.int .i64 m.q.v.n,.int .u64 m.q.v.f,.string m.q.v.s,.slice m.q.ad m.q.v.l.length m.q.cap,.slice m.q.bd m.q.v.e.length m.q.dap] #[.int .i64 0,.int .i64 0,.int .i64 0,.slice none 0 0,.slice none 0 0,.slice none 0 0,.string ⟨#[]⟩] w5):=hid (HRd.out.weak.grow hg5 (fun b e=>.inl (by have h:=Option.some.inj e;rw [<-h];exact ⟨HGL.out,HREC.out.hg.1⟩)))
   have HC5:=hid ((hg5.block xb hx5 (fun e=>by have:=Option.some.inj e;have:=HGL.out;omega)).trans HCd.out)
   have hdl:=HREC.out.del (W:=w5) (C:=(fun b=>C b/\b≠w.heap.size/\b≠w.heap.size+2)) (s:=m.key) (by rw [HII.out,HPL.out];exact r3) (fun b hb=>⟨HSC.out b hb.1,by have:=hb.2;omega,by have:=hb.2;omega⟩) (by rw [HII.out,HPL.out];exact hown) (grown_from HRd.out.below hg5)
   rw [HPL.out] at hdl
   have HDLN:=hid hdl.2
   obtain ⟨n5,hn5⟩:∃ n5,nf - 1=n5:=⟨_,rfl⟩
   have hpt5:=(((HPO.out.at_).keep HRd.out.below).grow hg5 (fun b e hb=>(HREC.out.hS ii b hb).2 (Option.some.inj e).symm)).weak (C:=(fun b=>C b/\b≠w.heap.size/\b≠w.heap.size+2)) (fun b hb _=>by have h:=(HREC.out.hS ii b hb).1;exact ⟨HSC.out b h.1,by have:=h.2;omega,by have:=h.2;omega⟩)
   have hpd5:=(((HPD.out).keep HRd.out.below).grow hg5 (fun b e hb=>(HREC.out.hS ii b hb).2 (Option.some.inj e).symm)).weak (C:=(fun b=>C b/\b≠w.heap.size/\b≠w.heap.size+2)) (fun b hb _=>by have h:=(HREC.out.hS ii b hb).1;exact ⟨HSC.out b h.1,by have:=h.2;omega,by have:=h.2;omega⟩)
   have hs5:=HR5.out.s
   rw [hn5] at hdl HDLN ⊢
   have hput:=putF_any (C:=(fun b=>C b/\b≠w.heap.size/\b≠w.heap.size+2)) (some ⟨g,0,none⟩) q.fc (delF q.v.f m.key) ⟨m.dst,p.o,p.h,p.t,p.d⟩ w5 (by rw [HDLN.out];exact hdl.1) hpt5 hpd5 HM.out.s2 (by rw [HDLN.out];omega) (fun b hb=>⟨HC.out b (by omega),by omega,by omega⟩)
   unfold PutPost Ft.val at hput
   rw [HDLN.out] at hput
   have HPUT:=hid hput
   clear hown hdl hpt5 hpd5 hput HRd HCd HDEL hg5 hx5
   refine hK.out _ _ (by obtain ⟨s0,s1,s2,s3,s4,s5,s6,s7,s8,s9,s10,s11,s12,s13,s14,s15⟩:=field_cells HC5.out;exact ⟨s0,s1,s2,s3,s4,s5,s6,s7,s8,s9,s10,s11,s12,s13,s14,s15⟩) (fun hHeld=>?_)
   clear hK KK
   try simp only [Act.put,Go.setq]
   refine wpAnyH_ready (rs:=[7]) (by kernel_rfl) (by simp) ?_
   refine AllReadyH.cons rfl (fun KK hK=>?_) AllReadyH.nil
   go_simp
   (with_reducible refine HPUT.out.mono ?_)
   rintro e w6 ⟨ao,ac,l',rfl,hperm,hrow,hb6⟩
   have HR6:=hid (HR5.out.keep hb6)
   have HC6:=hid ((hb6.block _ (Array.getElem?_eq_some_iff.1 HC5.out).1).trans HC5.out)
   have hll:l'.length=n5+1:=by have:=hperm.length_eq;rw [List.length_append,HDLN.out] at this;exact this
   have HLL:=hid hll
   have HPERM:=hid hperm
   have HRW:=hid hrow
   clear hll hperm hrow hb6 HR5 HC5 HPUT
   refine hK.out _ _ (by obtain ⟨s0,s1,s2,s3,s4,s5,s6,s7,s8,s9,s10,s11,s12,s13,s14,s15⟩:=field_cells HC6.out;exact ⟨s0,s1,s2,s3,s4,s5,s6,s7,s8,s9,s10,s11,s12,s13,s14,s15⟩) (fun hHeld=>?_)
   clear hK KK
   try simp only [Act.put,Go.setq]
   refine wpAnyH_take (i:=8) (v:=.pointer (some ⟨w.heap.size,5,none⟩)) rfl (by kernel_rfl) (by kernel_rfl) (by kernel_rfl) (fun _ _ _ h=>h) (Or.inl ⟨by kernel_rfl,fun w' hSw=>?_⟩) (by assumption) ?_
   ·clear hHeld hSw;go_simp;try rfl
   try simp only [Act.put,Go.setq]
   refine wpAnyH_ready (rs:=[9]) (by kernel_rfl) (by simp) ?_
   refine AllReadyH.cons rfl (fun KK hK=>?_) AllReadyH.nil
   obtain ⟨-,-,-,-,-,a5,-,af⟩:=ty_cells HR6.out.bt
   have af5:=af 5
   have gx:=grown_cell w6 w.heap.size 5 (.slice ao (n5+1) ac)
   have HR7:=hid (HR6.out.setT (X':=#[.int .i64 q.v.k,.int .i64 q.v.lo,.int .i64 q.v.hi,.slice q.xd nx q.xc,.slice q.td nt q.tc,.slice ao (n5+1) ac,.string q.v.n]) gx (cell_store HR6.out.bt 5 (.slice ao (n5+1) ac)))
   have HROW:=hid (HRW.out.grow gx (fun b e hb=>hb.2.1 (Option.some.inj e).symm))
   have hx6:=(Array.getElem?_eq_some_iff.1 HC6.out).1
   have HC7:=hid ((gx.block xb hx6 (fun e=>by have:=Option.some.inj e;omega)).trans HC6.out)
   clear gx af hx6
   go_simp
   clear a5 af5
   refine hK.out _ _ (by obtain ⟨s0,s1,s2,s3,s4,s5,s6,s7,s8,s9,s10,s11,s12,s13,s14,s15⟩:=field_cells HC7.out;exact ⟨s0,s1,s2,s3,s4,s5,s6,s7,s8,s9,s10,s11,s12,s13,s14,s15⟩) (fun hHeld2=>?_)
   clear hK KK
   try simp only [Act.put,Go.setq]
   refine wpAnyH_done (by kernel_rfl) ?_ _
   clear hHeld2 HC6 HC7 HR6 HRW
   go_upto_region 19 with fail
   generalize World.setCell w6 _ _=w7 at HR7 HROW ⊢
   obtain ⟨a0,a1,a2,a3,a4,a5,a6,-⟩:=ty_cells HR7.out.bt
   obtain ⟨p0,p1,p2,p3,p4,p5,p6,pf⟩:=ty_cells HR7.out.res
   have pf0:=pf 0
   have pf1:=pf 1
   have pf2:=pf 2
   have pf3:=pf 3
   have pf4:=pf 4
   have pf5:=pf 5
   have pf6:=pf 6
   obtain ⟨W9,hW9,hr9,hg9⟩:=seven_all HR7.out.res (.int .i64 q.v.k) (.int .i64 q.v.lo) (.int .i64 q.v.hi) (.slice q.xd nx q.xc) (.slice q.td nt q.tc) (.slice ao (n5+1) ac) (.string q.v.n)
   obtain ⟨q0,q1,q2,q3,q4,q5,q6,-⟩:=ty_cells hr9
   have HW9:=hid hW9
   have HPOST:Hid (TypedPost (fun u=>RecR m.mv q.v u) S C w (.returned (.tuple #[.agg #[.int .i64 q.v.k,.int .i64 q.v.lo,.int .i64 q.v.hi,.slice q.xd nx q.xc,.slice q.td nt q.tc,.slice ao (n5+1) ac,.string q.v.n],.int .i64 0])) W9):=hid (by
    refine ⟨q.withF l' ao ac,0,?_,fun h0=>⟨⟨rfl,.inr ⟨H3.out,f,HN.out,HFO.out,HFH.out,.inl ⟨H1.out,HNO.out rfl,?_⟩⟩⟩,?_⟩,HR7.out.fin hg9⟩
    ·rw [withF_val,HNX.out,HNT.out,HLL.out]
    ·have h:=HPERM.out
     rw [<-HPF.out];exact h
    ·refine TyAt.fields HQ.out.at_.wf HX0.out HT0.out ?_
     rw [HLL.out]
     exact (HROW.out.grow hg9 (fun b e hb=>hb.2.2 (Option.some.inj e).symm)).weak (fun b hb _=>hb.1))
   clear hW9 hr9 hg9 pf
   go_wp2_with fail
   rw [<-HW9.out]
   exact bodyPost_ret (v:=.tuple #[.agg #[.int .i64 q.v.k,.int .i64 q.v.lo,.int .i64 q.v.hi,.slice q.xd nx q.xc,.slice q.td nt q.tc,.slice ao (n5+1) ac,.string q.v.n],.int .i64 0]) (by simp [results,Tryz.results49,go_sem,q0,q1,q2,q3,q4,q5,q6]) rfl HPOST.out
end Go.Proofs.YtgnonbdkmmkdgaaGreatDoor
