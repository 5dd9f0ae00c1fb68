/-
  Lemmas for the statement: plain laws, and what functions answer; the conditions stand in each.
-/
import Derived.Test.YtgnonbdkmmkdgaaGreatDoorChainTypedAllQ31
set_option linter.unusedVariables false
set_option linter.unusedSimpArgs false
set_option maxHeartbeats 16000000
set_option maxRecDepth 100000
open Go.Lib (hid)
namespace Go.Proofs.YtgnonbdkmmkdgaaGreatDoor
open Go.RowKit Gx
theorem typed_off (m:Lm) (s:ByteArray) (p:List ByteArray) (d:Nat) (q:Lt) (pd:Option Addr) (pc:Nat) (w:World) (S C:Nat->Prop) (hq:OwnT w S q) (hs:Seen d q.v) (hm:MvAt w (fun _=>True) m) (hT:Tabs w) (hp:SRow w (fun _=>True) (s::p) (.slice pd (s::p).length pc)) (hpc:(s::p).length<=pc) (hpc1:pc<=9223372036854775807) (hSC:∀ b,S b->C b) (hC:∀ b,w.heap.size<=b->C b) (hk:q.v.k=10) (ha:askedF q.v s<0):Calls Tryz.prog 29 #[q.val,.slice pd (s::p).length pc,m.val] w (TypedPost (fun u=>TypedR m.mv (s::p) q.v u) S C w):=by
 obtain ⟨pb,po,rfl,-,hpl,hpcs⟩:=hp.at_ (by simp)
 obtain ⟨hs0,hs1⟩:=hpcs 0 s rfl
 have hptail:=fun c'=>hp.tail c'
 have h10:=hs.ten hk
 have hrb:=RB.start w (fun _=>False) #[.int .i64 q.v.k,.int .i64 q.v.lo,.int .i64 q.v.hi,.slice q.xd q.v.x.length q.xc,.slice q.td q.v.t.length q.tc,.slice q.fd q.v.f.length q.fc,.string q.v.n] #[.int .i64 m.k,.slice m.pd m.p.length m.pc,.string m.key,.string m.dst,.int .i64 m.q.v.k,.int .i64 m.q.v.n,.int .u64 m.q.v.f,.string m.q.v.s,.slice m.q.ad m.q.v.l.length m.q.cap,.slice m.q.bd m.q.v.e.length m.q.dap]
 have hqt:TyAt w (fun _=>True) q:=hq.at_.weak (fun _ _ _=>trivial)
 unfold Lt.val Lm.val
 obtain ⟨nx,hnx⟩:∃ m,q.v.x.length=m:=⟨_,rfl⟩
 obtain ⟨nt,hnt⟩:∃ m,q.v.t.length=m:=⟨_,rfl⟩
 obtain ⟨nf,hnf⟩:∃ m,q.v.f.length=m:=⟨_,rfl⟩
 rw [hnx,hnt,hnf] at hrb ⊢
 have HNX:=hid hnx
 have HNT:=hid hnt
 have HNF:=hid hnf
 have HQ:=hid hq
 have HQT:=hid hqt
 have HM:=hid hm
 have HT:=hid hT
 have HS:=hid hs
 have HSC:=hid hSC
 have HC:=hid hC
 clear hnx hnt hnf hq hqt hm hT hs hSC hC
 have e10:(q.v.k != 10)=false:=by simp [hk]
 obtain ⟨np,hnp⟩:∃ m,p.length=m:=⟨_,rfl⟩
 rw [List.length_cons,hnp] at hpc ⊢
 have HNP:=hid hnp
 have HS0:=hid hs0
 have HPT:=hid hptail
 have HK:=hid hk
 have e0:(((np+1:Nat):Int)==0)=false:=by simp;omega
 clear hp hpcs hs0 hs1 hptail hk hnp h10
 obtain ⟨I,hI⟩:∃ I,askedF q.v s=I:=⟨_,rfl⟩
 rw [hI] at ha
 have HI:=hid hI
 have e1:decide (I<0)=true:=decide_eq_true ha
 clear ha hI
 go_enter Tryz.func29,Tryz.ntmps29
 go_upto_region 1 with fail
 generalize World.alloc (World.alloc (World.alloc w _) _) _=w1 at hrb ⊢
 have HR:=hid hrb
 clear hrb
 obtain ⟨a0,a1,a2,a3,a4,a5,a6,-⟩:=ty_cells HR.out.bt
 have k0:w1.cell? ⟨pb,po,none⟩=some (.string s):=(HR.out.below.cell (p:=⟨pb,po,none⟩) hpl).trans HS0.out
 have hask:=asked_any q s w1.drew ((HQT.out.keep HR.out.below).keep (Gx.drewN_below w1 1 _))
 unfold IntB Lt.val at hask
 rw [HNX.out,HNT.out,HNF.out,HI.out] at hask
 have HASK:=hid hask
 have r0:(0:Int)<((np+1:Nat):Int):=by omega
 clear hask
 go_upto_region 5 with fail
 go_still_tail 4,(by kernel_rfl)
 change wpList _ _ _ _ _ w1.drew
 go_wp2_with fail
 (with_reducible refine HASK.out.mono ?_)
 rintro e w2 ⟨rfl,hb2⟩
 have HR2:=hid (HR.out.keep ((Gx.drewN_below w1 1 _).trans hb2))
 clear a0 a1 a2 a3 a4 a5 a6 k0 hb2 HR HASK
 obtain ⟨a0,a1,a2,a3,a4,a5,a6,-⟩:=ty_cells HR2.out.bt
 obtain ⟨p0,p1,p2,p3,p4,p5,p6,pf⟩:=ty_cells HR2.out.res
 have pf0:=pf 0
 have pf1:=pf 1
 have pf2:=pf 2
 have pf3:=pf 3
 have pf4:=pf 4
 have pf5:=pf 5
 have pf6:=pf 6
 obtain ⟨W9,hW9,hr9,hg9⟩:=seven_all HR2.out.res (.int .i64 q.v.k) (.int .i64 q.v.lo) (.int .i64 q.v.hi) (.slice q.xd nx q.xc) (.slice q.td nt q.tc) (.slice q.fd nf q.fc) (.string q.v.n)
 obtain ⟨q0,q1,q2,q3,q4,q5,q6,-⟩:=ty_cells hr9
 have HW9:=hid hW9
 have HPOST:Hid (TypedPost (fun u=>TypedR m.mv (s::p) q.v u) S C w (.returned (.tuple #[.agg #[.int .i64 q.v.k,.int .i64 q.v.lo,.int .i64 q.v.hi,.slice q.xd nx q.xc,.slice q.td nt q.tc,.slice q.fd nf q.fc,.string q.v.n],.int .i64 11])) W9):=hid ⟨q,11,by unfold Lt.val;rw [HNX.out,HNT.out,HNF.out],(fun h=>by cases h),HR2.out.weak.fin hg9⟩
 clear hW9 hr9 hg9 pf
 go_wp2_with fail
 rw [<-HW9.out]
 exact bodyPost_ret (v:=.tuple #[.agg #[.int .i64 q.v.k,.int .i64 q.v.lo,.int .i64 q.v.hi,.slice q.xd nx q.xc,.slice q.td nt q.tc,.slice q.fd nf q.fc,.string q.v.n],.int .i64 11]) (by simp [results,Tryz.results29,go_sem,q0,q1,q2,q3,q4,q5,q6]) rfl HPOST.out
theorem typed_on (m:Lm) (s:ByteArray) (p:List ByteArray) (IH:TypedC m p) (d:Nat) (q:Lt) (pd:Option Addr) (pc:Nat) (w:World) (S C:Nat->Prop) (hq:OwnT w S q) (hs:Seen d q.v) (hm:MvAt w (fun _=>True) m) (hT:Tabs w) (hp:SRow w (fun _=>True) (s::p) (.slice pd (s::p).length pc)) (hpc:(s::p).length<=pc) (hpc1:pc<=9223372036854775807) (hSC:∀ b,S b->C b) (hC:∀ b,w.heap.size<=b->C b) (hk:q.v.k=10) (f:Fd Ty) (hn:fdOf q.v.f s=some f) (ho:f.o=false) (hh:f.h=false):Calls Tryz.prog 29 #[q.val,.slice pd (s::p).length pc,m.val] w (TypedPost (fun u=>TypedR m.mv (s::p) q.v u) S C w):=by
 obtain ⟨pb,po,rfl,-,hpl,hpcs⟩:=hp.at_ (by simp)
 obtain ⟨hs0,hs1⟩:=hpcs 0 s rfl
 have hptail:=fun c'=>hp.tail c'
 have h10:=hs.ten hk
 have hrb:=RB.start w (fun _=>False) #[.int .i64 q.v.k,.int .i64 q.v.lo,.int .i64 q.v.hi,.slice q.xd q.v.x.length q.xc,.slice q.td q.v.t.length q.tc,.slice q.fd q.v.f.length q.fc,.string q.v.n] #[.int .i64 m.k,.slice m.pd m.p.length m.pc,.string m.key,.string m.dst,.int .i64 m.q.v.k,.int .i64 m.q.v.n,.int .u64 m.q.v.f,.string m.q.v.s,.slice m.q.ad m.q.v.l.length m.q.cap,.slice m.q.bd m.q.v.e.length m.q.dap]
 have hqt:TyAt w (fun _=>True) q:=hq.at_.weak (fun _ _ _=>trivial)
 unfold Lt.val Lm.val
 obtain ⟨nx,hnx⟩:∃ m,q.v.x.length=m:=⟨_,rfl⟩
 obtain ⟨nt,hnt⟩:∃ m,q.v.t.length=m:=⟨_,rfl⟩
 obtain ⟨nf,hnf⟩:∃ m,q.v.f.length=m:=⟨_,rfl⟩
 rw [hnx,hnt,hnf] at hrb ⊢
 have HNX:=hid hnx
 have HNT:=hid hnt
 have HNF:=hid hnf
 have HQ:=hid hq
 have HQT:=hid hqt
 have HM:=hid hm
 have HT:=hid hT
 have HS:=hid hs
 have HSC:=hid hSC
 have HC:=hid hC
 clear hnx hnt hnf hq hqt hm hT hs hSC hC
 have e10:(q.v.k != 10)=false:=by simp [hk]
 obtain ⟨np,hnp⟩:∃ m,p.length=m:=⟨_,rfl⟩
 rw [List.length_cons,hnp] at hpc ⊢
 have HNP:=hid hnp
 have HS0:=hid hs0
 have HPT:=hid hptail
 have HK:=hid hk
 have e0:(((np+1:Nat):Int)==0)=false:=by simp;omega
 clear hp hpcs hs0 hs1 hptail hk hnp h10
 have hask1:=askedF_some hn
 rw [ho,hh] at hask1
 have hin:=(fpos_some hn).1
 obtain ⟨g,ps,Sd,hrec⟩:=(HQ.out.weak (C:=fun b=>S b/\b<w.heap.size) (fun b h hl=>⟨h,hl⟩)).recAt (by have:=(fpos_some hn).1;omega)
 obtain ⟨p1,hp1,hpf⟩:=hrec.get hn
 have hmem:=List.mem_of_getElem? (fpos_some hn).2
 have hbare:=HS.out.bare f hmem hh
 have hpl':ps.length=nf:=by rw [hrec.len];exact HNF.out
 have hfd:=hrec.fd
 have hpt:f.t=p1.t.v:=by rw [<-hpf];rfl
 have hpdv:f.d=p1.d.v:=by rw [<-hpf];rfl
 obtain ⟨d',-,hsd⟩:=HS.out.kids f.t (kids_f hmem)
 rw [hpt] at hsd
 rw [hpdv] at hbare
 obtain ⟨ii,hii⟩:∃ ii,fpos s q.v.f=ii:=⟨_,rfl⟩
 rw [hii] at hp1 hask1
 have r3:ii<nf:=by rw [<-hii,<-HNF.out];exact hin
 have HN:=hid hn
 have HA1:Hid (askedF q.v s=(ii:Int)):=hid hask1
 have HREC:=hid hrec
 have HP0:=hid hp1
 have HPF:=hid hpf
 have HII:=hid hii
 have HPL:=hid hpl'
 have HBA:=hid hbare
 have HFD:=hid hfd
 have HPTT:=hid hpt
 have HPO:=hid (hrec.ho ii p1 hp1)
 have HFO:=hid ho
 have HFH:=hid hh
 have HSD:=hid hsd
 have HIH:=hid IH
 have HGL:Hid (g<w.heap.size):=hid hrec.lt.2
 rw [hfd] at hrb ⊢
 have e1:decide ((ii:Int)<0)=false:=decide_eq_false (by omega)
 have q1:(0:Int)<=(ii:Int):=by omega
 have q2:(ii:Int)<(nf:Int):=by omega
 have q4:(ii:Int).toNat=ii:=rfl
 clear hn ho hh hask1 hin hrec hp1 hpf hmem hbare hpl' hfd hpt hpdv hsd hii IH
 go_enter Tryz.func29,Tryz.ntmps29
 go_upto_region 1 with fail
 generalize World.alloc (World.alloc (World.alloc w _) _) _=w1 at hrb ⊢
 have HR:=hid hrb
 clear hrb
 obtain ⟨a0,a1,a2,a3,a4,a5,a6,-⟩:=ty_cells HR.out.bt
 have k0:w1.cell? ⟨pb,po,none⟩=some (.string s):=(HR.out.below.cell (p:=⟨pb,po,none⟩) hpl).trans HS0.out
 have hask:=asked_any q s w1.drew ((HQT.out.keep HR.out.below).keep (Gx.drewN_below w1 1 _))
 unfold IntB Lt.val at hask
 rw [HNX.out,HNT.out,HNF.out,HFD.out,HA1.out] at hask
 have HASK:=hid hask
 have r0:(0:Int)<((np+1:Nat):Int):=by omega
 clear hask
 go_upto_region 5 with fail
 go_still_tail 4,(by kernel_rfl)
 change wpList _ _ _ _ _ w1.drew
 go_wp2_with fail
 (with_reducible refine HASK.out.mono ?_)
 rintro e w2 ⟨rfl,hb2⟩
 have HR2:=hid (HR.out.keep ((Gx.drewN_below w1 1 _).trans hb2))
 clear a0 a1 a2 a3 a4 a5 a6 k0 hb2 HR HASK
 obtain ⟨a0,a1,a2,a3,a4,a5,a6,-⟩:=ty_cells HR2.out.bt
 obtain ⟨b0,b1,b2,b3,b4,b5,b6,b7,b8,b9⟩:=ten_cells HR2.out.bm
 have hcell:∀ j u,(cellsF true p1)[j]?=some u->w2.cell? ⟨g,ii * 16+j,none⟩=some u:=fun j u hj=>(HR2.out.below.cell (p:=⟨g,ii * 16+j,none⟩) HGL.out).trans (HREC.out.cells HP0.out j u hj)
 have d0:=hcell 3 (.int .i64 p1.t.v.k) rfl
 have d1:=hcell 4 (.int .i64 p1.t.v.lo) rfl
 have d2:=hcell 5 (.int .i64 p1.t.v.hi) rfl
 have d3:=hcell 6 (.slice p1.t.xd p1.t.v.x.length p1.t.xc) rfl
 have d4:=hcell 7 (.slice p1.t.td p1.t.v.t.length p1.t.tc) rfl
 have d5:=hcell 8 (.slice p1.t.fd p1.t.v.f.length p1.t.fc) rfl
 have d6:=hcell 9 (.string p1.t.v.n) rfl
 have hs2:=HR2.out.s
 have HAL:Hid (∀ (W:World) (tb tk tc:Nat),Below w2.heap.size w2 W->SRow w (fun _=>True) p (.slice (some ⟨tb,tk,none⟩) np tc)->np<=tc->tc<=9223372036854775807->Calls Tryz.prog 29 #[.agg #[.int .i64 p1.t.v.k,.int .i64 p1.t.v.lo,.int .i64 p1.t.v.hi,.slice p1.t.xd p1.t.v.x.length p1.t.xc,.slice p1.t.td p1.t.v.t.length p1.t.tc,.slice p1.t.fd p1.t.v.f.length p1.t.fc,.string p1.t.v.n],.slice (some ⟨tb,tk,none⟩) np tc,.agg #[.int .i64 m.k,.slice m.pd m.p.length m.pc,.string m.key,.string m.dst,.int .i64 m.q.v.k,.int .i64 m.q.v.n,.int .u64 m.q.v.f,.string m.q.v.s,.slice m.q.ad m.q.v.l.length m.q.cap,.slice m.q.bd m.q.v.e.length m.q.dap]] W (TypedPost (fun u=>TypedR m.mv p p1.t.v u) (Sd ii) (fun b=>Sd ii b\/W.heap.size<=b) W)):=hid (fun W tb tk tc hb hp h1 h2=>by
  have hbw:=HR2.out.below.trans (hb.mono HR2.out.below.size)
  have h:=HIH.out d' p1.t (some ⟨tb,tk,none⟩) tc W (Sd ii) (fun b=>Sd ii b\/W.heap.size<=b) (HPO.out.keep hbw) HSD.out (HM.out.keep hbw) (HT.out.keep hbw) (by rw [HNP.out];exact hp.keep hbw) (by rw [HNP.out];exact h1) h2 (fun b hb=>.inl hb) (fun b hb=>.inr hb)
  rw [HNP.out] at h
  exact h)
 unfold TypedPost at HAL
 clear hcell
 go_upto_region 8 with fail
 go_cut [9,10] (fun v9 v10 wx=>∃ (xb:Nat) (y:Lt) (code:Int),v9=.pointer (some ⟨xb,0,none⟩)/\v10=.int .i64 code/\w.heap.size+2<xb/\Hid (code=0->TypedR m.mv p p1.t.v y.v/\TyAt wx (fun b=>Sd ii b\/w.heap.size+3<=b) y)/\Hid (wx.heap[xb]?=some (.cells #[.int .i64 y.v.k,.int .i64 y.v.lo,.int .i64 y.v.hi,.slice y.xd y.v.x.length y.xc,.slice y.td y.v.t.length y.tc,.slice y.fd y.v.f.length y.fc,.string y.v.n] 27))/\Hid (RB w S #[.int .i64 q.v.k,.int .i64 q.v.lo,.int .i64 q.v.hi,.slice q.xd nx q.xc,.slice q.td nt q.tc,.slice (some ⟨g,0,none⟩) nf q.fc,.string q.v.n] #[.int .i64 m.k,.slice m.pd m.p.length m.pc,.string m.key,.string m.dst,.int .i64 m.q.v.k,.int .i64 m.q.v.n,.int .u64 m.q.v.f,.string m.q.v.s,.slice m.q.ad m.q.v.l.length m.q.cap,.slice m.q.bd m.q.v.e.length m.q.dap] #[.int .i64 0,.int .i64 0,.int .i64 0,.slice none 0 0,.slice none 0 0,.slice none 0 0,.string ⟨#[]⟩] wx)/\Hid (KpS (Sd ii) w wx))
 case first =>
  refine wp_region_held_drew (S:=fun w'=>World.cell? w' ⟨w.heap.size,5,none⟩=some (.slice (some ⟨g,0,none⟩) nf q.fc)/\World.cell? w' ⟨g,ii * 16+3,none⟩=some (.int .i64 p1.t.v.k)/\World.cell? w' ⟨g,ii * 16+4,none⟩=some (.int .i64 p1.t.v.lo)/\World.cell? w' ⟨g,ii * 16+5,none⟩=some (.int .i64 p1.t.v.hi)/\World.cell? w' ⟨g,ii * 16+6,none⟩=some (.slice p1.t.xd p1.t.v.x.length p1.t.xc)/\World.cell? w' ⟨g,ii * 16+7,none⟩=some (.slice p1.t.td p1.t.v.t.length p1.t.tc)/\World.cell? w' ⟨g,ii * 16+8,none⟩=some (.slice p1.t.fd p1.t.v.f.length p1.t.fc)/\World.cell? w' ⟨g,ii * 16+9,none⟩=some (.string p1.t.v.n)/\World.cell? w' ⟨w.heap.size+1,0,none⟩=some (.int .i64 m.k)/\World.cell? w' ⟨w.heap.size+1,1,none⟩=some (.slice m.pd m.p.length m.pc)/\World.cell? w' ⟨w.heap.size+1,2,none⟩=some (.string m.key)/\World.cell? w' ⟨w.heap.size+1,3,none⟩=some (.string m.dst)/\World.cell? w' ⟨w.heap.size+1,4,none⟩=some (.int .i64 m.q.v.k)/\World.cell? w' ⟨w.heap.size+1,5,none⟩=some (.int .i64 m.q.v.n)/\World.cell? w' ⟨w.heap.size+1,6,none⟩=some (.int .u64 m.q.v.f)/\World.cell? w' ⟨w.heap.size+1,7,none⟩=some (.string m.q.v.s)/\World.cell? w' ⟨w.heap.size+1,8,none⟩=some (.slice m.q.ad m.q.v.l.length m.q.cap)/\World.cell? w' ⟨w.heap.size+1,9,none⟩=some (.slice m.q.bd m.q.v.e.length m.q.dap)) (by kernel_rfl) ⟨a5,d0,d1,d2,d3,d4,d5,d6,b0,b1,b2,b3,b4,b5,b6,b7,b8,b9⟩ (fun hHeld=>?_)
  refine wpAnyH_take (i:=0) (v:=.pointer (some ⟨w.heap.size,5,none⟩)) rfl (by kernel_rfl) (by kernel_rfl) (by kernel_rfl) (fun _ _ _ h=>h) (Or.inl ⟨by kernel_rfl,fun w' hSw=>?_⟩) (by assumption) ?_
  ·obtain ⟨s0,s1,s2,s3,s4,s5,s6,s7,s8,s9,s10,s11,s12,s13,s14,s15,s16,s17⟩:=hSw;clear hHeld;go_simp;try rfl
  try simp only [Act.put,Go.setq]
  refine wpAnyH_take (i:=1) (v:=.slice (some ⟨g,0,none⟩) nf q.fc) rfl (by kernel_rfl) (by kernel_rfl) (by kernel_rfl) (fun _ _ _ h=>h) (Or.inl ⟨by kernel_rfl,fun w' hSw=>?_⟩) (by assumption) ?_
  ·obtain ⟨s0,s1,s2,s3,s4,s5,s6,s7,s8,s9,s10,s11,s12,s13,s14,s15,s16,s17⟩:=hSw;clear hHeld;go_simp;try rfl
  try simp only [Act.put,Go.setq]
  refine wpAnyH_take (i:=2) (v:=.int .i64 (ii:Int)) rfl (by kernel_rfl) (by kernel_rfl) (by kernel_rfl) (fun _ _ _ h=>h) (Or.inl ⟨by kernel_rfl,fun w' hSw=>?_⟩) (by assumption) ?_
  ·obtain ⟨s0,s1,s2,s3,s4,s5,s6,s7,s8,s9,s10,s11,s12,s13,s14,s15,s16,s17⟩:=hSw;clear hHeld;go_simp;try rfl
  try simp only [Act.put,Go.setq]
  refine wpAnyH_take (i:=3) (v:=.pointer (some ⟨g,ii * 16,none⟩)) rfl (by kernel_rfl) (by kernel_rfl) (by kernel_rfl) (fun _ _ _ h=>h) (Or.inl ⟨by kernel_rfl,fun w' hSw=>?_⟩) (by assumption) ?_
  ·obtain ⟨s0,s1,s2,s3,s4,s5,s6,s7,s8,s9,s10,s11,s12,s13,s14,s15,s16,s17⟩:=hSw;clear hHeld;go_simp;try rfl
  try simp only [Act.put,Go.setq]
  refine wpAnyH_take (i:=4) (v:=.pointer (some ⟨g,ii * 16+3,none⟩)) rfl (by kernel_rfl) (by kernel_rfl) (by kernel_rfl) (fun _ _ _ h=>h) (Or.inl ⟨by kernel_rfl,fun w' hSw=>?_⟩) (by assumption) ?_
  ·obtain ⟨s0,s1,s2,s3,s4,s5,s6,s7,s8,s9,s10,s11,s12,s13,s14,s15,s16,s17⟩:=hSw;clear hHeld;go_simp;try rfl
  try simp only [Act.put,Go.setq]
  refine wpAnyH_take (i:=5) (v:=.agg #[.int .i64 p1.t.v.k,.int .i64 p1.t.v.lo,.int .i64 p1.t.v.hi,.slice p1.t.xd p1.t.v.x.length p1.t.xc,.slice p1.t.td p1.t.v.t.length p1.t.tc,.slice p1.t.fd p1.t.v.f.length p1.t.fc,.string p1.t.v.n]) rfl (by kernel_rfl) (by kernel_rfl) (by kernel_rfl) (fun _ _ _ h=>h) (Or.inl ⟨by kernel_rfl,fun w' hSw=>?_⟩) (by assumption) ?_
  ·obtain ⟨s0,s1,s2,s3,s4,s5,s6,s7,s8,s9,s10,s11,s12,s13,s14,s15,s16,s17⟩:=hSw;clear hHeld;go_simp;try rfl
  try simp only [Act.put,Go.setq]
  refine wpAnyH_take (i:=6) (v:=.slice (some ⟨pb,po,none⟩) (np+1) pc) rfl (by kernel_rfl) (by kernel_rfl) (by kernel_rfl) (fun _ _ _ h=>h) (Or.inl ⟨by kernel_rfl,fun w' hSw=>?_⟩) (by assumption) ?_
  ·obtain ⟨s0,s1,s2,s3,s4,s5,s6,s7,s8,s9,s10,s11,s12,s13,s14,s15,s16,s17⟩:=hSw;clear hHeld;go_simp;try rfl
  try simp only [Act.put,Go.setq]
  obtain ⟨tk,htk,hsr⟩:∃ tk:Nat,(if pc=1 then some (⟨pb,po,none⟩:Addr) else some ⟨pb,po+1,none⟩)=some ⟨pb,tk,none⟩/\SRow w (fun _=>True) p (.slice (some ⟨pb,tk,none⟩) np (pc - 1)):=by
   have ht:=HPT.out (pc - 1)
   rw [HNP.out] at ht
   by_cases hpc2:pc=1
   ·refine ⟨po,by rw [if_pos hpc2],?_⟩
    have h0:p=[]:=List.eq_nil_of_length_eq_zero (by rw [HNP.out];omega)
    have h1:np=0:=by omega
    rw [h0,h1];exact .nil _ _
   ·exact ⟨po+1,by rw [if_neg hpc2],ht⟩
  have HTK:=hid htk
  have HSR:=hid hsr
  have g1:(1:Int)<=((np+1:Nat):Int):=by omega
  have g2:((np+1:Nat):Int)<=(pc:Int):=by omega
  have g3:¬ ((np:Int)+1<1):=by omega
  clear htk hsr
  refine wpAnyH_take (i:=7) (v:=.slice (some ⟨pb,tk,none⟩) np (pc - 1)) rfl (by kernel_rfl) (by kernel_rfl) (by kernel_rfl) (fun _ _ _ h=>h) (Or.inl ⟨by kernel_rfl,fun w' hSw=>?_⟩) (by assumption) ?_
  ·clear hHeld hSw;rw [<-HTK.out];go_simp;try (intro h;exfalso;omega)
  try simp only [Act.put,Go.setq]
  refine wpAnyH_take (i:=8) (v:=.agg #[.int .i64 m.k,.slice m.pd m.p.length m.pc,.string m.key,.string m.dst,.int .i64 m.q.v.k,.int .i64 m.q.v.n,.int .u64 m.q.v.f,.string m.q.v.s,.slice m.q.ad m.q.v.l.length m.q.cap,.slice m.q.bd m.q.v.e.length m.q.dap]) rfl (by kernel_rfl) (by kernel_rfl) (by kernel_rfl) (fun _ _ _ h=>h) (Or.inl ⟨by kernel_rfl,fun w' hSw=>?_⟩) (by assumption) ?_
  ·obtain ⟨s0,s1,s2,s3,s4,s5,s6,s7,s8,s9,s10,s11,s12,s13,s14,s15,s16,s17⟩:=hSw;clear hHeld;go_simp;try rfl
  try simp only [Act.put,Go.setq]
  have HVd:Hid (RB w S #[.int .i64 q.v.k,.int .i64 q.v.lo,.int .i64 q.v.hi,.slice q.xd nx q.xc,.slice q.td nt q.tc,.slice (some ⟨g,0,none⟩) nf q.fc,.string q.v.n] #[.int .i64 m.k,.slice m.pd m.p.length m.pc,.string m.key,.string m.dst,.int .i64 m.q.v.k,.int .i64 m.q.v.n,.int .u64 m.q.v.f,.string m.q.v.s,.slice m.q.ad m.q.v.l.length m.q.cap,.slice m.q.bd m.q.v.e.length m.q.dap] #[.int .i64 0,.int .i64 0,.int .i64 0,.slice none 0 0,.slice none 0 0,.slice none 0 0,.string ⟨#[]⟩] w2.drew):=hid (HR2.out.weak.keep (Gx.drewN_below w2 1 _))
  have HGd:Hid (Below w2.heap.size w2 w2.drew):=hid (Gx.drewN_below w2 1 _)
  have HLW:Hid (Below w.heap.size w w2):=hid HR2.out.below
  have HSN:Hid (∀ b,Sd ii b->(S b/\b<w.heap.size)/\b≠g):=hid (HREC.out.hS ii)
  have HRW:Hid (∀ W,KpS (Sd ii) w2 W->World.cell? W ⟨w.heap.size,5,none⟩=some (.slice (some ⟨g,0,none⟩) nf q.fc)/\World.cell? W ⟨g,ii * 16+3,none⟩=some (.int .i64 p1.t.v.k)/\World.cell? W ⟨g,ii * 16+4,none⟩=some (.int .i64 p1.t.v.lo)/\World.cell? W ⟨g,ii * 16+5,none⟩=some (.int .i64 p1.t.v.hi)/\World.cell? W ⟨g,ii * 16+6,none⟩=some (.slice p1.t.xd p1.t.v.x.length p1.t.xc)/\World.cell? W ⟨g,ii * 16+7,none⟩=some (.slice p1.t.td p1.t.v.t.length p1.t.tc)/\World.cell? W ⟨g,ii * 16+8,none⟩=some (.slice p1.t.fd p1.t.v.f.length p1.t.fc)/\World.cell? W ⟨g,ii * 16+9,none⟩=some (.string p1.t.v.n)/\World.cell? W ⟨w.heap.size+1,0,none⟩=some (.int .i64 m.k)/\World.cell? W ⟨w.heap.size+1,1,none⟩=some (.slice m.pd m.p.length m.pc)/\World.cell? W ⟨w.heap.size+1,2,none⟩=some (.string m.key)/\World.cell? W ⟨w.heap.size+1,3,none⟩=some (.string m.dst)/\World.cell? W ⟨w.heap.size+1,4,none⟩=some (.int .i64 m.q.v.k)/\World.cell? W ⟨w.heap.size+1,5,none⟩=some (.int .i64 m.q.v.n)/\World.cell? W ⟨w.heap.size+1,6,none⟩=some (.int .u64 m.q.v.f)/\World.cell? W ⟨w.heap.size+1,7,none⟩=some (.string m.q.v.s)/\World.cell? W ⟨w.heap.size+1,8,none⟩=some (.slice m.q.ad m.q.v.l.length m.q.cap)/\World.cell? W ⟨w.heap.size+1,9,none⟩=some (.slice m.q.bd m.q.v.e.length m.q.dap)):=hid (fun W hk=>by
   have hc:∀ b o,b<w2.heap.size->¬ Sd ii b->W.cell? ⟨b,o,none⟩=w2.cell? ⟨b,o,none⟩:=fun b o hl hn=>World.cell?_of_block (hk.block b hl hn)
   have hg':¬ Sd ii g:=fun h=>(HSN.out g h).2 rfl
   have hn0:¬ Sd ii w.heap.size:=fun h=>by have:=(HSN.out _ h).1.2;omega
   have hn1:¬ Sd ii (w.heap.size+1):=fun h=>by have:=(HSN.out _ h).1.2;omega
   have hgl:=HGL.out
   refine ⟨(hc _ _ (by omega) hn0).trans a5,(hc _ _ (by omega) hg').trans d0,(hc _ _ (by omega) hg').trans d1,(hc _ _ (by omega) hg').trans d2,(hc _ _ (by omega) hg').trans d3,(hc _ _ (by omega) hg').trans d4,(hc _ _ (by omega) hg').trans d5,(hc _ _ (by omega) hg').trans d6,(hc _ _ (by omega) hn1).trans b0,(hc _ _ (by omega) hn1).trans b1,(hc _ _ (by omega) hn1).trans b2,(hc _ _ (by omega) hn1).trans b3,(hc _ _ (by omega) hn1).trans b4,(hc _ _ (by omega) hn1).trans b5,(hc _ _ (by omega) hn1).trans b6,(hc _ _ (by omega) hn1).trans b7,(hc _ _ (by omega) hn1).trans b8,(hc _ _ (by omega) hn1).trans b9⟩)
  generalize World.drew w2=wd at HVd HGd hHeld ⊢
  clear a0 a1 a2 a3 a4 a5 a6 d0 d1 d2 d3 d4 d5 d6 b0 b1 b2 b3 b4 b5 b6 b7 b8 b9
  refine wpAnyH_ready (rs:=[9,13]) (by kernel_rfl) (by simp) ?_
  refine AllReadyH.cons rfl (fun KK hK=>?_) (AllReadyH.cons rfl (fun KK hK=>?_) AllReadyH.nil)
  ·skip
   have HBwd:=HGd
   have HGk:Hid (KpS (Sd ii) w2 wd):=hid (KpS.of_below HGd.out)
   go_simp
   (with_reducible refine (HAL.out wd pb tk (pc - 1) HBwd.out HSR.out (by omega) (by omega)).mono ?_)
   rintro e w5 ⟨y,code,rfl,hgood,hkp⟩
   have HVw5:=hid (HVd.out.kps hkp (fun b hb=>⟨(HSN.out b hb).1.2,(HSN.out b hb).1.1⟩))
   have HGw5:=hid (HGk.out.trans hkp (fun b _ h=>h))
   have HYR:Hid (code=0->TypedR m.mv p p1.t.v y.v/\TyAt w5 (fun b=>(Sd ii b\/wd.heap.size<=b)/\b<w5.heap.size) y):=hid (fun h=>⟨(hgood h).1,(hgood h).2.through (Nat.le_refl _) (fun _ _ _=>rfl) (fun b h1 h2=>⟨h1,h2⟩)⟩)
   have hBW:=HBwd.out.size
   try simp only [Lt.val]
   have hs5:=HGw5.out.size
   clear hgood hkp hHeld
   refine hK.out _ _ (HRW.out _ HGw5.out) (fun hHeld=>?_)
   clear hK KK
   try simp only [Act.put,Go.setq]
   refine wpAnyH_take (i:=10) (v:=.tuple #[.agg #[.int .i64 y.v.k,.int .i64 y.v.lo,.int .i64 y.v.hi,.slice y.xd y.v.x.length y.xc,.slice y.td y.v.t.length y.tc,.slice y.fd y.v.f.length y.fc,.string y.v.n],.int .i64 code]) rfl (by kernel_rfl) (by kernel_rfl) (by kernel_rfl) (fun _ _ _ h=>h) (Or.inl ⟨by kernel_rfl,fun w' hSw=>?_⟩) (by assumption) ?_
   ·clear hHeld hSw;go_simp;try rfl
   try simp only [Act.put,Go.setq]
   refine wpAnyH_take (i:=11) (v:=.agg #[.int .i64 y.v.k,.int .i64 y.v.lo,.int .i64 y.v.hi,.slice y.xd y.v.x.length y.xc,.slice y.td y.v.t.length y.tc,.slice y.fd y.v.f.length y.fc,.string y.v.n]) rfl (by kernel_rfl) (by kernel_rfl) (by kernel_rfl) (fun _ _ _ h=>h) (Or.inl ⟨by kernel_rfl,fun w' hSw=>?_⟩) (by assumption) ?_
   ·clear hHeld hSw;go_simp;try rfl
   try simp only [Act.put,Go.setq]
   refine wpAnyH_take (i:=12) (v:=.int .i64 code) rfl (by kernel_rfl) (by kernel_rfl) (by kernel_rfl) (fun _ _ _ h=>h) (Or.inl ⟨by kernel_rfl,fun w' hSw=>?_⟩) (by assumption) ?_
   ·clear hHeld hSw;go_simp;try rfl
   try simp only [Act.put,Go.setq]
   refine wpAnyH_ready (rs:=[13]) (by kernel_rfl) (by simp) ?_
   refine AllReadyH.cons rfl (fun KK hK=>?_) AllReadyH.nil
   go_simp
   have hal:=(Below.refl w5.heap.size w5).alloc (Nat.le_refl _) (.cells #[.int .i64 0,.int .i64 0,.int .i64 0,.slice none 0 0,.slice none 0 0,.slice none 0 0,.string ⟨#[]⟩] 27)
   have HG6:=hid (HGw5.out.grown (grown_none hal) (fun _ e=>absurd e (by simp)))
   have HV6:=hid (HVw5.out.keep hal)
   have HC6:=hid (heap_alloc_new w5 (.cells #[.int .i64 0,.int .i64 0,.int .i64 0,.slice none 0 0,.slice none 0 0,.slice none 0 0,.string ⟨#[]⟩] 27))
   have HY6:Hid (code=0->TypedR m.mv p p1.t.v y.v/\TyAt (w5.alloc (.cells #[.int .i64 0,.int .i64 0,.int .i64 0,.slice none 0 0,.slice none 0 0,.slice none 0 0,.string ⟨#[]⟩] 27)) (fun b=>(Sd ii b\/wd.heap.size<=b)/\b<w5.heap.size) y):=hid (fun h=>⟨(HYR.out h).1,(HYR.out h).2.keep hal⟩)
   clear hal HYR
   have HYR:=HY6
   obtain ⟨xb,hxb⟩:∃ xb,w5.heap.size=xb:=⟨_,rfl⟩
   rw [hxb] at HC6 HYR hs5 ⊢
   clear HY6
   generalize World.alloc w5 _=w6 at HG6 HV6 HC6 HYR ⊢
   refine hK.out _ _ (HRW.out _ HG6.out) (fun hHeld=>?_)
   clear hK KK
   try simp only [Act.put,Go.setq]
   refine wpAnyH_ready (rs:=[14]) (by kernel_rfl) (by simp) ?_
   refine AllReadyH.cons rfl (fun KK hK=>?_) AllReadyH.nil
   obtain ⟨W8,hW8,hr8,hg8⟩:=seven_all HC6.out (.int .i64 y.v.k) (.int .i64 y.v.lo) (.int .i64 y.v.hi) (.slice y.xd y.v.x.length y.xc) (.slice y.td y.v.t.length y.tc) (.slice y.fd y.v.f.length y.fc) (.string y.v.n)
   have hz0:=ty_cells HC6.out
   have z0:=hz0.1
   have z1:=hz0.2.1
   have z2:=hz0.2.2.1
   have z3:=hz0.2.2.2.1
   have z4:=hz0.2.2.2.2.1
   have z5:=hz0.2.2.2.2.2.1
   have z6:=hz0.2.2.2.2.2.2.1
   have zf0:=hz0.2.2.2.2.2.2.2 0
   have zf1:=hz0.2.2.2.2.2.2.2 1
   have zf2:=hz0.2.2.2.2.2.2.2 2
   have zf3:=hz0.2.2.2.2.2.2.2 3
   have zf4:=hz0.2.2.2.2.2.2.2 4
   have zf5:=hz0.2.2.2.2.2.2.2 5
   have zf6:=hz0.2.2.2.2.2.2.2 6
   have HW8:=hid hW8
   clear hz0 hW8
   go_simp
   rw [<-HW8.out]
   clear z0 z1 z2 z3 z4 z5 z6 zf0 zf1 zf2 zf3 zf4 zf5 zf6
   have HG8:Hid (KpS (Sd ii) w2 W8):=hid (HG6.out.grown hg8 (fun b e hb=>by have:=Option.some.inj e;omega))
   refine hK.out _ _ (HRW.out _ HG8.out) (fun hHeld2=>?_)
   clear hK KK
   try simp only [Act.put,Go.setq]
   refine wpAnyH_take (i:=15) (v:=.int .i64 code) rfl (by kernel_rfl) (by kernel_rfl) (by kernel_rfl) (fun _ _ _ h=>h) (Or.inl ⟨by kernel_rfl,fun w' hSw=>?_⟩) (by assumption) ?_
   ·clear hHeld2 hSw;go_simp;try rfl
   try simp only [Act.put,Go.setq]
   refine wpAnyH_done (by kernel_rfl) ?_ _
   go_wp2_with fail
   go_meet
   exact ⟨xb,y,code,rfl,rfl,by omega,hid (fun h=>⟨(HYR.out h).1,((HYR.out h).2.grow hg8 (fun b e hb=>by have h9:=Option.some.inj e;rcases hb.1 with h|h<;>first|omega|(have:=(HSN.out b h).1.2;omega))).weak (fun b hb _=>by rcases hb.1 with h|h<;>first|exact .inl h|exact .inr (by omega))⟩),hid hr8,hid (HV6.out.grow hg8 (fun b e=>.inr (by have:=Option.some.inj e;omega))),hid ((KpS.of_below HLW.out).trans HG8.out (fun b _ h=>h))⟩
  ·skip
   go_simp
   have hsd:=HGd.out.size
   have hal:=(Below.refl wd.heap.size wd).alloc (Nat.le_refl _) (.cells #[.int .i64 0,.int .i64 0,.int .i64 0,.slice none 0 0,.slice none 0 0,.slice none 0 0,.string ⟨#[]⟩] 27)
   have HBwa:=hid (HGd.out.trans (hal.mono hsd))
   have HVa:=hid (HVd.out.keep hal)
   have HCa:=hid (heap_alloc_new wd (.cells #[.int .i64 0,.int .i64 0,.int .i64 0,.slice none 0 0,.slice none 0 0,.slice none 0 0,.string ⟨#[]⟩] 27))
   have hsa:(wd.alloc (.cells #[.int .i64 0,.int .i64 0,.int .i64 0,.slice none 0 0,.slice none 0 0,.slice none 0 0,.string ⟨#[]⟩] 27)).heap.size=wd.heap.size+1:=World.size_alloc _ _
   clear hal
   obtain ⟨xb,hxb⟩:∃ xb,wd.heap.size=xb:=⟨_,rfl⟩
   rw [hxb] at HCa hsa hsd ⊢
   generalize World.alloc wd _=wa at HBwa HVa HCa hsa ⊢
   have HGa:Hid (KpS (Sd ii) w2 wa):=hid (KpS.of_below HBwa.out)
   refine hK.out _ _ (HRW.out _ HGa.out) (fun hHeld=>?_)
   clear hK KK
   try simp only [Act.put,Go.setq]
   refine wpAnyH_ready (rs:=[9]) (by kernel_rfl) (by simp) ?_
   refine AllReadyH.cons rfl (fun KK hK=>?_) AllReadyH.nil
   go_simp
   (with_reducible refine (HAL.out wa pb tk (pc - 1) HBwa.out HSR.out (by omega) (by omega)).mono ?_)
   rintro e w5 ⟨y,code,rfl,hgood,hkp⟩
   have HVw5:=hid (HVa.out.kps hkp (fun b hb=>⟨(HSN.out b hb).1.2,(HSN.out b hb).1.1⟩))
   have HGw5:=hid (HGa.out.trans hkp (fun b _ h=>h))
   have HYR:Hid (code=0->TypedR m.mv p p1.t.v y.v/\TyAt w5 (fun b=>(Sd ii b\/wa.heap.size<=b)/\b<w5.heap.size) y):=hid (fun h=>⟨(hgood h).1,(hgood h).2.through (Nat.le_refl _) (fun _ _ _=>rfl) (fun b h1 h2=>⟨h1,h2⟩)⟩)
   have hBW:=HBwa.out.size
   try simp only [Lt.val]
   have HC5:=hid ((hkp.block xb (by omega) (fun h=>by have:=(HSN.out _ h).1.2;omega)).trans HCa.out)
   clear hgood hkp hHeld
   refine hK.out _ _ (HRW.out _ HGw5.out) (fun hHeld=>?_)
   clear hK KK
   try simp only [Act.put,Go.setq]
   refine wpAnyH_take (i:=10) (v:=.tuple #[.agg #[.int .i64 y.v.k,.int .i64 y.v.lo,.int .i64 y.v.hi,.slice y.xd y.v.x.length y.xc,.slice y.td y.v.t.length y.tc,.slice y.fd y.v.f.length y.fc,.string y.v.n],.int .i64 code]) rfl (by kernel_rfl) (by kernel_rfl) (by kernel_rfl) (fun _ _ _ h=>h) (Or.inl ⟨by kernel_rfl,fun w' hSw=>?_⟩) (by assumption) ?_
   ·clear hHeld hSw;go_simp;try rfl
   try simp only [Act.put,Go.setq]
   refine wpAnyH_take (i:=11) (v:=.agg #[.int .i64 y.v.k,.int .i64 y.v.lo,.int .i64 y.v.hi,.slice y.xd y.v.x.length y.xc,.slice y.td y.v.t.length y.tc,.slice y.fd y.v.f.length y.fc,.string y.v.n]) rfl (by kernel_rfl) (by kernel_rfl) (by kernel_rfl) (fun _ _ _ h=>h) (Or.inl ⟨by kernel_rfl,fun w' hSw=>?_⟩) (by assumption) ?_
   ·clear hHeld hSw;go_simp;try rfl
   try simp only [Act.put,Go.setq]
   refine wpAnyH_take (i:=12) (v:=.int .i64 code) rfl (by kernel_rfl) (by kernel_rfl) (by kernel_rfl) (fun _ _ _ h=>h) (Or.inl ⟨by kernel_rfl,fun w' hSw=>?_⟩) (by assumption) ?_
   ·clear hHeld hSw;go_simp;try rfl
   try simp only [Act.put,Go.setq]
   refine wpAnyH_ready (rs:=[14]) (by kernel_rfl) (by simp) ?_
   refine AllReadyH.cons rfl (fun KK hK=>?_) AllReadyH.nil
   obtain ⟨W8,hW8,hr8,hg8⟩:=seven_all HC5.out (.int .i64 y.v.k) (.int .i64 y.v.lo) (.int .i64 y.v.hi) (.slice y.xd y.v.x.length y.xc) (.slice y.td y.v.t.length y.tc) (.slice y.fd y.v.f.length y.fc) (.string y.v.n)
   have hz0:=ty_cells HC5.out
   have z0:=hz0.1
   have z1:=hz0.2.1
   have z2:=hz0.2.2.1
   have z3:=hz0.2.2.2.1
   have z4:=hz0.2.2.2.2.1
   have z5:=hz0.2.2.2.2.2.1
   have z6:=hz0.2.2.2.2.2.2.1
   have zf0:=hz0.2.2.2.2.2.2.2 0
   have zf1:=hz0.2.2.2.2.2.2.2 1
   have zf2:=hz0.2.2.2.2.2.2.2 2
   have zf3:=hz0.2.2.2.2.2.2.2 3
   have zf4:=hz0.2.2.2.2.2.2.2 4
   have zf5:=hz0.2.2.2.2.2.2.2 5
   have zf6:=hz0.2.2.2.2.2.2.2 6
   have HW8:=hid hW8
   clear hz0 hW8
   go_simp
   rw [<-HW8.out]
   clear z0 z1 z2 z3 z4 z5 z6 zf0 zf1 zf2 zf3 zf4 zf5 zf6
   have HG8:Hid (KpS (Sd ii) w2 W8):=hid (HGw5.out.grown hg8 (fun b e hb=>by have:=Option.some.inj e;omega))
   refine hK.out _ _ (HRW.out _ HG8.out) (fun hHeld2=>?_)
   clear hK KK
   try simp only [Act.put,Go.setq]
   refine wpAnyH_take (i:=15) (v:=.int .i64 code) rfl (by kernel_rfl) (by kernel_rfl) (by kernel_rfl) (fun _ _ _ h=>h) (Or.inl ⟨by kernel_rfl,fun w' hSw=>?_⟩) (by assumption) ?_
   ·clear hHeld2 hSw;go_simp;try rfl
   try simp only [Act.put,Go.setq]
   refine wpAnyH_done (by kernel_rfl) ?_ _
   go_wp2_with fail
   go_meet
   exact ⟨xb,y,code,rfl,rfl,by omega,hid (fun h=>⟨(HYR.out h).1,((HYR.out h).2.grow hg8 (fun b e hb=>by have h9:=Option.some.inj e;rcases hb.1 with h|h<;>first|omega|(have:=(HSN.out b h).1.2;omega))).weak (fun b hb _=>by rcases hb.1 with h|h<;>first|exact .inl h|exact .inr (by omega))⟩),hid hr8,hid (HVw5.out.grow hg8 (fun b e=>.inr (by have:=Option.some.inj e;omega))),hid ((KpS.of_below HLW.out).trans HG8.out (fun b _ h=>h))⟩
 case rest =>
  obtain ⟨xb,y,code,rfl,rfl,hxb,HYR,HCX,HVc,HKC⟩:=hcut
  clear a0 a1 a2 a3 a4 a5 a6 d0 d1 d2 d3 d4 d5 d6 b0 b1 b2 b3 b4 b5 b6 b7 b8 b9 HAL HPT HIH HR2 hs2
  obtain ⟨a0,a1,a2,a3,a4,a5,a6,-⟩:=ty_cells HVc.out.bt
  obtain ⟨g0,g1,g2,g3,g4,g5,g6,-⟩:=ty_cells HCX.out
  obtain ⟨W6,hW6,hown6,hg6⟩:=own_set7 (t:=true) (vb:=0) (HREC.out.own1 HKC.out) ii p1 HP0.out y (ii * 16+3) rfl
  have hfz:=(HREC.out.own1 HKC.out).frozenAt
  have hzc:=fun (j:Nat) (u:Value) (hj:(cellsF true p1)[j]?=some u)=>(World.cell?_of_block (HKC.out.block g HGL.out (fun h=>(HREC.out.hS ii g h).2 rfl)):wc.cell? ⟨g,ii * 16+j,none⟩=_).trans (HREC.out.cells HP0.out j u hj)
  have z0:=hzc 3 (.int .i64 p1.t.v.k) rfl
  have zf0:=hfz (ii * 16+3)
  have z1:=hzc 4 (.int .i64 p1.t.v.lo) rfl
  have zf1:=hfz (ii * 16+4)
  have z2:=hzc 5 (.int .i64 p1.t.v.hi) rfl
  have zf2:=hfz (ii * 16+5)
  have z3:=hzc 6 (.slice p1.t.xd p1.t.v.x.length p1.t.xc) rfl
  have zf3:=hfz (ii * 16+6)
  have z4:=hzc 7 (.slice p1.t.td p1.t.v.t.length p1.t.tc) rfl
  have zf4:=hfz (ii * 16+7)
  have z5:=hzc 8 (.slice p1.t.fd p1.t.v.f.length p1.t.fc) rfl
  have zf5:=hfz (ii * 16+8)
  have z6:=hzc 9 (.string p1.t.v.n) rfl
  have zf6:=hfz (ii * 16+9)
  have HR6:Hid (RB w S #[.int .i64 q.v.k,.int .i64 q.v.lo,.int .i64 q.v.hi,.slice q.xd nx q.xc,.slice q.td nt q.tc,.slice (some ⟨g,0,none⟩) nf q.fc,.string q.v.n] #[.int .i64 m.k,.slice m.pd m.p.length m.pc,.string m.key,.string m.dst,.int .i64 m.q.v.k,.int .i64 m.q.v.n,.int .u64 m.q.v.f,.string m.q.v.s,.slice m.q.ad m.q.v.l.length m.q.cap,.slice m.q.bd m.q.v.e.length m.q.dap] #[.int .i64 0,.int .i64 0,.int .i64 0,.slice none 0 0,.slice none 0 0,.slice none 0 0,.string ⟨#[]⟩] W6):=hid (HVc.out.grow hg6 (fun b e=>.inl (by have h:=Option.some.inj e;rw [<-h];exact ⟨HGL.out,HREC.out.hg.1⟩)))
  have HDONE:Hid (code=0->TyAt W6 (fun b=>C b/\b≠w.heap.size/\b≠w.heap.size+2) (q.withF (q.v.f.set ii { p1.fd with t:=y.v }) q.fd q.fc)):=hid (fun h=>HREC.out.done (C:=(fun b=>C b/\b≠w.heap.size/\b≠w.heap.size+2)) (n:=w.heap.size+3) (by omega) HP0.out HBA.out HKC.out y hown6 hg6 (fun b hb=>⟨HSC.out b hb.1,by have:=hb.2;omega,by have:=hb.2;omega⟩) (fun b hb=>⟨HC.out b (by omega),by omega,by omega⟩) (HYR.out h).2)
  have HW6:=hid hW6
  clear hW6 hown6 hg6 hfz hzc
  go_upto_region 10 with fail
  rw [<-HW6.out]
  clear z0 zf0 g0 z1 zf1 g1 z2 zf2 g2 z3 zf3 g3 z4 zf4 g4 z5 zf5 g5 z6 zf6 g6 a0 a1 a2 a3 a4 a5 a6
  obtain ⟨a0,a1,a2,a3,a4,a5,a6,-⟩:=ty_cells HR6.out.bt
  obtain ⟨rp0,rp1,rp2,rp3,rp4,rp5,rp6,pf⟩:=ty_cells HR6.out.res
  have pf0:=pf 0
  have pf1:=pf 1
  have pf2:=pf 2
  have pf3:=pf 3
  have pf4:=pf 4
  have pf5:=pf 5
  have pf6:=pf 6
  obtain ⟨W9,hW9,hr9,hg9⟩:=seven_all HR6.out.res (.int .i64 q.v.k) (.int .i64 q.v.lo) (.int .i64 q.v.hi) (.slice q.xd nx q.xc) (.slice q.td nt q.tc) (.slice (some ⟨g,0,none⟩) nf q.fc) (.string q.v.n)
  obtain ⟨q0,q1,q2,q3,q4,q5,q6,-⟩:=ty_cells hr9
  have HW9:=hid hW9
  have HPOST:Hid (TypedPost (fun u=>TypedR m.mv (s::p) q.v u) S C w (.returned (.tuple #[.agg #[.int .i64 q.v.k,.int .i64 q.v.lo,.int .i64 q.v.hi,.slice q.xd nx q.xc,.slice q.td nt q.tc,.slice (some ⟨g,0,none⟩) nf q.fc,.string q.v.n],.int .i64 code])) W9):=hid (by
   refine ⟨q.withF (q.v.f.set ii { p1.fd with t:=y.v }) q.fd q.fc,code,?_,fun h0=>⟨⟨HK.out,f,y.v,HN.out,HFO.out,HFH.out,by rw [HPTT.out];exact (HYR.out h0).1,?_⟩,?_⟩,HR6.out.fin hg9⟩
   ·rw [withF_val,List.length_set,HNX.out,HNT.out,HNF.out,HFD.out]
   ·show setF q.v (q.v.f.set ii { p1.fd with t:=y.v })=setF q.v (modF q.v.f s (fun _=>y.v))
    rw [modF_eq _ _ _ f HN.out,HII.out,HPF.out]
   ·exact ((HDONE.out h0).grow hg9 (fun b e hb=>hb.2.2 (Option.some.inj e).symm)).weak (fun b hb _=>hb.1))
  clear hW9 hr9 hg9 pf
  go_wp2_with fail
  rw [<-HW9.out]
  exact bodyPost_ret (v:=.tuple #[.agg #[.int .i64 q.v.k,.int .i64 q.v.lo,.int .i64 q.v.hi,.slice q.xd nx q.xc,.slice q.td nt q.tc,.slice (some ⟨g,0,none⟩) nf q.fc,.string q.v.n],.int .i64 code]) (by simp [results,Tryz.results29,go_sem,q0,q1,q2,q3,q4,q5,q6]) rfl HPOST.out
theorem typed_any (m:Lm):∀ p,TypedC m p
 | []=>typed_nil m
 | s::p=>by
   intro d q pd pc w S C hq hs hm hT hp hpc hpc1 hSC hC
   by_cases hk:q.v.k=10
   ·rcases askedF_ways q.v s with ⟨-,h1⟩|h1|⟨f,hn,ho,hh,-⟩
    ·exact typed_off m s p d q pd pc w S C hq hs hm hT hp hpc hpc1 hSC hC hk (by omega)
    ·exact typed_off m s p d q pd pc w S C hq hs hm hT hp hpc hpc1 hSC hC hk (by omega)
    ·exact typed_on m s p (typed_any m p) d q pd pc w S C hq hs hm hT hp hpc hpc1 hSC hC hk f hn ho hh
   ·exact typed_not m (s::p) d q pd pc w S C hq hs hm hT hp hpc hpc1 hSC hC hk
end Go.Proofs.YtgnonbdkmmkdgaaGreatDoor
