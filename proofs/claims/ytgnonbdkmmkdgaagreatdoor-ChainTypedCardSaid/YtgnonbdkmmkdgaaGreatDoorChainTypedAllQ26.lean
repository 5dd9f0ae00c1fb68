/-
  Lemmas for the statement: plain laws, and what functions answer; the conditions stand in each.
-/
import Derived.Test.YtgnonbdkmmkdgaaGreatDoorChainTypedAllQ22
import Derived.Test.YtgnonbdkmmkdgaaGreatDoorChainTypedAllQ25
set_option linter.unusedVariables false
set_option linter.unusedSimpArgs false
set_option maxHeartbeats 16000000
set_option maxRecDepth 100000
open Go.Lib (hid)
namespace Go.Proofs.YtgnonbdkmmkdgaaGreatDoor
open Go.RowKit Gx
theorem rec_add (d:Nat) (q:Lt) (m:Lm) (w:World) (S C:Nat->Prop) (hq:OwnT w S q) (hs:Seen d q.v) (hk:q.v.k=10) (hm:MvAt w (fun _=>True) m) (hT:Tabs w) (hSC:∀ b,S b->C b) (hC:∀ b,w.heap.size<=b->C b) (h3:m.k=3) (hn:fdOf q.v.f m.key=none) :
 Calls Tryz.prog 49 #[q.val,m.val] w (TypedPost (fun u=>RecR m.mv q.v u) S C w):=by
 obtain ⟨h10x,h10t,h200⟩:=hs.ten hk
 have hrb:=RB.start w (fun _=>False) #[.int .i64 q.v.k,.int .i64 q.v.lo,.int .i64 q.v.hi,.slice q.xd q.v.x.length q.xc,.slice q.td q.v.t.length q.tc,.slice q.fd q.v.f.length q.fc,.string q.v.n] #[.int .i64 m.k,.slice m.pd m.p.length m.pc,.string m.key,.string m.dst,.int .i64 m.q.v.k,.int .i64 m.q.v.n,.int .u64 m.q.v.f,.string m.q.v.s,.slice m.q.ad m.q.v.l.length m.q.cap,.slice m.q.bd m.q.v.e.length m.q.dap]
 have hqt:TyAt w (fun _=>True) q:=hq.at_.weak (fun _ _ _=>trivial)
 unfold Lt.val Lm.val
 obtain ⟨nx,hnx⟩:∃ m,q.v.x.length=m:=⟨_,rfl⟩
 obtain ⟨nt,hnt⟩:∃ m,q.v.t.length=m:=⟨_,rfl⟩
 obtain ⟨nf,hnf⟩:∃ m,q.v.f.length=m:=⟨_,rfl⟩
 rw [hnx,hnt,hnf] at hrb ⊢
 have HNX:=hid hnx
 have HNT:=hid hnt
 have HNF:=hid hnf
 have HQ:=hid hq
 have HQT:=hid hqt
 have HM:=hid hm
 have HT:=hid hT
 have HS:=hid hs
 have HSC:=hid hSC
 have HC:=hid hC
 have HX0:=hid h10x
 have HT0:=hid h10t
 have H200:nf<=200:=by rw [<-hnf];exact h200
 clear hnx hnt hnf hq hqt hm hT hs hSC hC hk h10x h10t h200
 have hask1:=askedF_none hn
 have HN:=hid hn
 have e3:(m.k==3)=true:=beq_iff_eq.2 h3
 have H3:=hid h3
 have HA1:=hid hask1
 clear hn h3 hask1
 go_enter Tryz.func49,Tryz.ntmps49
 go_upto_region 1 with fail
 generalize World.alloc (World.alloc (World.alloc w _) _) _=w1 at hrb ⊢
 have HR:=hid hrb
 clear hrb
 obtain ⟨a0,a1,a2,a3,a4,a5,a6,-⟩:=ty_cells HR.out.bt
 obtain ⟨b0,b1,b2,b3,b4,b5,b6,b7,b8,b9⟩:=ten_cells HR.out.bm
 have hask:=asked_any q m.key w1 (HQT.out.keep HR.out.below)
 unfold IntB Lt.val at hask
 rw [HNX.out,HNT.out,HNF.out] at hask
 have HASK:=hid hask
 clear hask
 go_wp2_with fail
 (with_reducible refine HASK.out.mono ?_)
 rintro e w2 ⟨rfl,hb2⟩
 have HR2:=hid (HR.out.keep hb2)
 clear a0 a1 a2 a3 a4 a5 a6 b0 b1 b2 b3 b4 b5 b6 b7 b8 b9 hb2 HR HASK
 obtain ⟨a0,a1,a2,a3,a4,a5,a6,-⟩:=ty_cells HR2.out.bt
 obtain ⟨b0,b1,b2,b3,b4,b5,b6,b7,b8,b9⟩:=ten_cells HR2.out.bm
 rw [HA1.out]
 have hof:=ofO_any m.q w2 (HM.out.v.keep HR2.out.below) (HT.out.keep HR2.out.below)
 unfold OfOPost Lt.val Loc.val at hof
 have HOF:=hid hof
 clear hof
 go_wp2_with fail
 (with_reducible refine HOF.out.mono ?_)
 rintro e w5 ⟨y,rfl,hyr,hya,hb5⟩
 have HR5:=hid (HR2.out.keep hb5)
 have h25:=hb5.size
 have hs2:=HR2.out.s
 obtain ⟨xb,hxb⟩:∃ xb,w5.heap.size=xb:=⟨_,rfl⟩
 have hcb:=heap_alloc_new w5 (.cells #[.int .i64 y.v.k,.int .i64 y.v.lo,.int .i64 y.v.hi,.slice y.xd y.v.x.length y.xc,.slice y.td y.v.t.length y.tc,.slice y.fd y.v.f.length y.fc,.string y.v.n] 27)
 have hal:=(Below.refl w5.heap.size w5).alloc (Nat.le_refl _) (.cells #[.int .i64 y.v.k,.int .i64 y.v.lo,.int .i64 y.v.hi,.slice y.xd y.v.x.length y.xc,.slice y.td y.v.t.length y.tc,.slice y.fd y.v.f.length y.fc,.string y.v.n] 27)
 have HR8:=hid (HR5.out.keep hal)
 have HYR:=hid hyr
 have HYA:=hid (((hya.through (Nat.le_refl _) (fun _ _ _=>rfl) (fun b h1 h2=>⟨h1,h2⟩):TyAt w5 (fun b=>w2.heap.size<=b/\b<w5.heap.size) y).keep hal).weak (C:=fun b=>w.heap.size+2<b) (fun b hb _=>by omega))
 rw [hxb] at hcb
 have HC8:=hid hcb
 clear hyr hya hb5 hcb hal a0 a1 a2 a3 a4 a5 a6 b0 b1 b2 b3 b4 b5 b6 b7 b8 b9 HR2 HOF h25 hs2
 go_upto_region 6 with fail
 generalize World.alloc w5 _=W8 at HR8 HYA HC8 ⊢
 clear hxb
 obtain ⟨a0,a1,a2,a3,a4,a5,a6,-⟩:=ty_cells HR8.out.bt
 obtain ⟨b0,b1,b2,b3,b4,b5,b6,b7,b8,b9⟩:=ten_cells HR8.out.bm
 obtain ⟨c0,c1,c2,c3,c4,c5,c6,-⟩:=ty_cells HC8.out
 have hs8:=HR8.out.s
 have hput:=putF_any (C:=fun b=>C b/\b≠w.heap.size/\b≠w.heap.size+2) q.fd q.fc q.v.f ⟨m.key,false,false,y,⟨.zero,none,0,none,0⟩⟩ W8 ((HQ.out.at_.f.through HR8.out.below.size (fun b _ hl=>HR8.out.below.block b hl) (fun b hb hl=>⟨HSC.out b hb,by omega,by omega⟩))) (HYA.out.weak (fun b hb _=>⟨HC.out b (by omega),by omega,by omega⟩)) (VAt.zero W8 _ none none 0 0) HM.out.s1 (by rw [HNF.out];exact H200) (fun b hb=>⟨HC.out b (by omega),by omega,by omega⟩)
 unfold PutPost at hput
 rw [HNF.out] at hput
 have HPUT:Hid (Calls Tryz.prog 73 #[.slice q.fd nf q.fc,.agg #[.string m.key,.bool false,.bool false,.int .i64 y.v.k,.int .i64 y.v.lo,.int .i64 y.v.hi,.slice y.xd y.v.x.length y.xc,.slice y.td y.v.t.length y.tc,.slice y.fd y.v.f.length y.fc,.string y.v.n,.int .i64 0,.int .i64 0,.int .u64 0,.string ⟨#[]⟩,.slice none 0 0,.slice none 0 0]] W8 _):=hid hput
 clear hput
 go_wp2_with fail
 (with_reducible refine HPUT.out.mono ?_)
 rintro e w6 ⟨ao,ac,l',rfl,hperm,hrow,hb6⟩
 have HR6:=hid (HR8.out.keep hb6)
 have hll:l'.length=nf+1:=by have:=hperm.length_eq;rw [List.length_append,HNF.out] at this;exact this
 have HLL:=hid hll
 have HPERM:=hid hperm
 have gx:=grown_cell w6 w.heap.size 5 (.slice ao (nf+1) ac)
 have HR7:=hid (HR6.out.setT (X':=#[.int .i64 q.v.k,.int .i64 q.v.lo,.int .i64 q.v.hi,.slice q.xd nx q.xc,.slice q.td nt q.tc,.slice ao (nf+1) ac,.string q.v.n]) gx (cell_store HR6.out.bt 5 (.slice ao (nf+1) ac)))
 have HROW:=hid (hrow.grow gx (fun b e hb=>hb.2.1 (Option.some.inj e).symm))
 obtain ⟨a0,a1,a2,a3,a4,a5,a6,af⟩:=ty_cells HR6.out.bt
 have af5:=af 5
 clear hll hperm hrow hb6 gx af c0 c1 c2 c3 c4 c5 c6 b0 b1 b2 b3 b4 b5 b6 b7 b8 b9 HR8 HC8 HYA HPUT HR5
 go_upto_region 7 with fail
 generalize World.setCell w6 _ _=w7 at HR7 HROW ⊢
 clear a0 a1 a2 a3 a4 a5 a6 af5 HR6
 obtain ⟨a0,a1,a2,a3,a4,a5,a6,-⟩:=ty_cells HR7.out.bt
 obtain ⟨p0,p1,p2,p3,p4,p5,p6,pf⟩:=ty_cells HR7.out.res
 have pf0:=pf 0
 have pf1:=pf 1
 have pf2:=pf 2
 have pf3:=pf 3
 have pf4:=pf 4
 have pf5:=pf 5
 have pf6:=pf 6
 obtain ⟨W9,hW9,hr9,hg9⟩:=seven_all HR7.out.res (.int .i64 q.v.k) (.int .i64 q.v.lo) (.int .i64 q.v.hi) (.slice q.xd nx q.xc) (.slice q.td nt q.tc) (.slice ao (nf+1) ac) (.string q.v.n)
 obtain ⟨q0,q1,q2,q3,q4,q5,q6,-⟩:=ty_cells hr9
 have HW9:=hid hW9
 have HPOST:Hid (TypedPost (fun u=>RecR m.mv q.v u) S C w (.returned (.tuple #[.agg #[.int .i64 q.v.k,.int .i64 q.v.lo,.int .i64 q.v.hi,.slice q.xd nx q.xc,.slice q.td nt q.tc,.slice ao (nf+1) ac,.string q.v.n],.int .i64 (chkV m.q.v:Int)])) W9):=hid (by
  refine ⟨q.withF l' ao ac,(chkV m.q.v:Int),?_,fun h0=>⟨⟨rfl,.inl ⟨H3.out,HN.out,y.v,(HYR.out (by omega)).f,HPERM.out⟩⟩,?_⟩,HR7.out.weak.fin hg9⟩
  ·rw [withF_val,HNX.out,HNT.out,HLL.out]
  ·refine TyAt.fields HQ.out.at_.wf HX0.out HT0.out ?_
   rw [HLL.out]
   exact (HROW.out.grow hg9 (fun b e hb=>hb.2.2 (Option.some.inj e).symm)).weak (fun b hb _=>hb.1))
 clear hW9 hr9 hg9 pf
 go_wp2_with fail
 rw [<-HW9.out]
 exact bodyPost_ret (v:=.tuple #[.agg #[.int .i64 q.v.k,.int .i64 q.v.lo,.int .i64 q.v.hi,.slice q.xd nx q.xc,.slice q.td nt q.tc,.slice ao (nf+1) ac,.string q.v.n],.int .i64 (chkV m.q.v:Int)]) (by simp [results,Tryz.results49,go_sem,q0,q1,q2,q3,q4,q5,q6]) rfl HPOST.out
theorem fieldsF_len {l:List (Fd Ty)} (h:fieldsF l=0):l.length<=200:=by
 unfold fieldsF at h
 by_cases h1:200<l.length
 ·rw [if_pos h1] at h;cases h
 ·omega
theorem Seen.tidy:∀ {d:Nat} {a:Ty},Seen d a->Tidy a
 | 0,_,h=>h.elim
 | d+1,a,h=>by
   have he:=h.1.e
   obtain ⟨-,-,hor,-,hf⟩:=empty_facts he
   refine .mk a ?_ ?_ (fun b hb=>(h.2 b (kids_t hb)).tidy) (fun f hf=>(h.2 f.t (kids_f hf)).tidy)
   ·by_cases hk:a.k=10
    ·exact fieldsF_len (h.1.f hk)
    ·rw [hf hk];exact Nat.zero_le _
   ·by_cases hk:a.k=10
    ·by_cases hf0:a.f=[]
     ·exact .inl hf0
     ·refine .inr ⟨?_,hor.resolve_right hf0⟩
      unfold emptyB at he
      simp only [Bool.and_eq_true,decide_eq_true_eq,Bool.or_eq_true,beq_iff_eq] at he
      obtain ⟨⟨⟨⟨-,h4⟩,-⟩,-⟩,-⟩:=he
      rcases h4 with h4|h4
      ·omega
      ·exact List.eq_nil_of_length_eq_zero h4
    ·exact .inl (hf hk)
end Go.Proofs.YtgnonbdkmmkdgaaGreatDoor
