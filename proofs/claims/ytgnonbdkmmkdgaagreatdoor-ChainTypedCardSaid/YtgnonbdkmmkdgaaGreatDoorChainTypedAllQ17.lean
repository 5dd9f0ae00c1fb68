/-
  Lemmas for the statement: plain laws, and what functions answer; the conditions stand in each.
-/
import Derived.Test.YtgnonbdkmmkdgaaGreatDoorChainTypedAllPartH
set_option linter.unusedVariables false
set_option linter.unusedSimpArgs false
set_option maxHeartbeats 16000000
set_option maxRecDepth 100000
open Go.Lib (hid)
namespace Go.Proofs.YtgnonbdkmmkdgaaGreatDoor
open Go.RowKit Gx
theorem becomes_5 (q:Lt)  (C:Nat->Prop) (w:World) (hq:TyAt w C q) (hC:∀ b,w.heap.size<=b->C b) (h8:q.v.k=8->q.v.t.length=1):Calls Tryz.prog 76 #[q.val,.int .i64 5] w (BecPost q.v 5 C w):=by
 have hos:=OTS.start w q
 unfold Lt.val
 have HQ:=hid hq
 have HCC:=hid hC
 have H8:=hid h8
 have hxb:=hq.x.bound
 obtain ⟨nx,hnx⟩:∃ nx,q.v.x.length=nx:=⟨_,rfl⟩
 obtain ⟨nt,hnt⟩:∃ nt,q.v.t.length=nt:=⟨_,rfl⟩
 obtain ⟨nf,hnf⟩:∃ nf,q.v.f.length=nf:=⟨_,rfl⟩
 rw [hnx,hnt,hnf] at hos ⊢
 rw [hnx] at hxb
 have HNX:=hid hnx
 have HNT:=hid hnt
 have HNF:=hid hnf
 clear hq hC h8 hnx hnt hnf
 go_enter Tryz.func76,Tryz.ntmps76
 go_upto_region 1 with fail
 generalize World.alloc (World.alloc w _) _=w2 at hos ⊢
 have HO:=hid hos
 clear hos
 have hba:=(Below.refl w2.heap.size w2).alloc (Nat.le_refl _) (.cells #[.int .i64 4,.int .i64 0,.int .i64 0,.slice none 0 0,.slice none 0 0,.slice none 0 0,.string ⟨#[]⟩] 27)
 have hob:=HO.out.keep hba
 have hub:=heap_alloc_new w2 (.cells #[.int .i64 4,.int .i64 0,.int .i64 0,.slice none 0 0,.slice none 0 0,.slice none 0 0,.string ⟨#[]⟩] 27)
 have hvl:=HO.out.vlt
 go_upto_region 6 with fail
 generalize World.alloc w2 _=w3 at hob hub ⊢
 obtain ⟨g6,hg6⟩:∃ g6,w2.heap.size=g6:=⟨_,rfl⟩
 rw [hg6] at hub hvl ⊢
 obtain ⟨a0,a1,a2,a3,a4,a5,a6,-⟩:=ty_cells hob.box
 have HOB:=hid hob
 have HUB:=hid hub
 clear hba hob hub hg6 HO
 go_wp2_with fail
 clear a0 a1 a2 a3 a4 a5 a6
 go_loopw [24] (fun v24 wr=>∃ (j:Nat) (lo hi:Int),j<=nx/\v24=.int .i64 j/\Hid (OTS w q.v.k q.v.lo q.v.hi (.slice q.xd nx q.xc) (.slice q.td nt q.tc) (.slice q.fd nf q.fc) q.v.n wr)/\Hid (wr.heap[g6]?=some (.cells #[.int .i64 4,.int .i64 lo,.int .i64 hi,.slice none 0 0,.slice none 0 0,.slice none 0 0,.string ⟨#[]⟩] 27))/\Hid ((j=0/\lo=0/\hi=0)\/Betw (q.v.x.take j) lo hi)) (fun v24 _=>nx - (intOf v24).toNat)
 case atStart=>exact ⟨0,0,0,Nat.zero_le _,rfl,HOB,HUB,hid (.inl ⟨rfl,rfl,rfl⟩)⟩
 case round =>
  obtain ⟨j,lo,hi,hj,rfl,HOr,HUr,HBr⟩:=hrel
  clear HOB HUB
  by_cases hlt:j<nx
  ·obtain ⟨s,hs⟩:∃ s,q.v.x[j]?=some s:=⟨_,List.getElem?_eq_getElem (by rw [HNX.out];exact hlt)⟩
   obtain ⟨xb,xo,hxd,-,hxl,hxs⟩:=HQ.out.x.at_ (by rw [HNX.out];omega)
   have hsc:=(HOr.out.g.cell (p:=⟨xb,xo+j,none⟩) hxl).trans (hxs j s hs).1
   have r1:(0:Int)<=(j:Int):=by omega
   have r2:(j:Int)<(nx:Int):=by omega
   have HXD:=hid hxd
   have HS:=hid hs
   have hrd:=read_any s wr
   obtain ⟨rn,hrn⟩:∃ rn,(readOf s.data.toList).1=rn:=⟨_,rfl⟩
   obtain ⟨re,hre⟩:∃ re,(readOf s.data.toList).2=re:=⟨_,rfl⟩
   unfold ReadPost at hrd
   rw [hrn,hre] at hrd
   have HRD:=hid hrd
   have HRN:=hid hrn
   have HRE:=hid hre
   rw [hxd]
   clear hs hxs hrd hrn hre hxd
   go_wp2_with fail
   (with_reducible refine HRD.out.mono ?_)
   rintro e w4 ⟨rfl,hb4⟩
   have HO4:=hid (HOr.out.keep hb4)
   have hu4:=(hb4.block _ (Array.getElem?_eq_some_iff.1 HUr.out).1).trans HUr.out
   have HU4:=hid hu4
   clear hb4 hsc HRD HOr HUr hu4
   by_cases hr0:re=0
   ·subst hr0
    by_cases hj0:j=0
    ·subst hj0
     obtain ⟨u0,u1,u2,u3,u4,u5,u6,uf⟩:=ty_cells HU4.out
     have uf1:=uf 1
     have uf2:=uf 2
     have hu5:=cell_store (cell_store HU4.out 1 (.int .i64 rn)) 2 (.int .i64 rn)
     have gg:=grown_trans (grown_cell w4 g6 1 (.int .i64 rn)) (grown_cell _ g6 2 (.int .i64 rn))
     have ho5:=HO4.out.grow gg (fun b e=>by have:=Option.some.inj e;omega)
     go_upto_region 14 with fail
     generalize World.setCell (World.setCell w4 _ _) _ _=w5 at hu5 ho5 ⊢
     have hu5':w5.heap[g6]?=some (.cells #[.int .i64 4,.int .i64 rn,.int .i64 rn,.slice none 0 0,.slice none 0 0,.slice none 0 0,.string ⟨#[]⟩] 27):=hu5
     have HB5:Hid (Betw (q.v.x.take (0+1)) rn rn):=hid (by
      have h:=Betw.first HRE.out
      rw [HRN.out] at h
      rw [take_snoc HS.out,List.take_zero,List.nil_append]
      exact h)
     have HL5:Hid (rn=rn):=rfl
     clear u0 u1 u2 u3 u4 u5 u6 uf uf1 uf2 hu5 gg HO4 HU4
     have HO5:=hid ho5
     have HU5:=hid hu5'
     clear ho5 hu5'
     obtain ⟨u0,u1,u2,u3,u4,u5,u6,uf⟩:=ty_cells HU5.out
     have uf1:=uf 1
     have uf2:=uf 2
     have H2:=hid (show ((w5.setCell ⟨g6,1,none⟩ (.int .i64 rn)).setCell ⟨g6,2,none⟩ (.int .i64 rn)).heap[g6]?=some (.cells #[.int .i64 4,.int .i64 rn,.int .i64 rn,.slice none 0 0,.slice none 0 0,.slice none 0 0,.string ⟨#[]⟩] 27) from cell_store (cell_store HU5.out 1 (.int .i64 rn)) 2 (.int .i64 rn))
     have H1:=hid (HO5.out.grow (grown_trans (grown_cell w5 g6 1 (.int .i64 rn)) (grown_cell _ g6 2 (.int .i64 rn))) (fun b e=>by have:=Option.some.inj e;omega))
     clear uf
     go_wp2_with fail
     go_roundw
     case rel=>exact ⟨0+1,rn,rn,by omega,by go_num,by rw [<-HXD.out];exact H1,H2,hid (.inr HB5.out)⟩
     case measure=>simp [intOf];omega
    ·have t0:((j:Int)==0)=false:=by simp;omega
     have HB5:Hid (Betw (q.v.x.take (j+1)) (min lo rn) (max hi rn)):=hid (by
      rcases HBr.out with ⟨h,-⟩|h
      ·exact absurd h hj0
      ·have h:=h.more HRE.out
       rw [HRN.out] at h
       rw [take_snoc HS.out]
       exact h)
     obtain ⟨u0,u1,u2,u3,u4,u5,u6,uf⟩:=ty_cells HU4.out
     have uf1:=uf 1
     have uf2:=uf 2
     have H2:=hid (show ((w4.setCell ⟨g6,1,none⟩ (.int .i64 (min lo rn))).setCell ⟨g6,2,none⟩ (.int .i64 (max hi rn))).heap[g6]?=some (.cells #[.int .i64 4,.int .i64 (min lo rn),.int .i64 (max hi rn),.slice none 0 0,.slice none 0 0,.slice none 0 0,.string ⟨#[]⟩] 27) from cell_store (cell_store HU4.out 1 (.int .i64 (min lo rn))) 2 (.int .i64 (max hi rn)))
     have H1:=hid (HO4.out.grow (grown_trans (grown_cell w4 g6 1 (.int .i64 (min lo rn))) (grown_cell _ g6 2 (.int .i64 (max hi rn)))) (fun b e=>by have:=Option.some.inj e;omega))
     clear uf hj0
     go_wp2_with fail
     go_roundw
     case rel=>exact ⟨j+1,min lo rn,max hi rn,by omega,by go_num,by rw [<-HXD.out];exact H1,H2,hid (.inr HB5.out)⟩
     case measure=>simp [intOf];omega
   ·have t0:(re != 0)=true:=by simp [hr0]
    clear hr0
    obtain ⟨a0,a1,a2,a3,a4,a5,a6,-⟩:=ty_cells HO4.out.box
    obtain ⟨p0,p1,p2,p3,p4,p5,p6,pf⟩:=ty_cells HO4.out.res
    have pf0:=pf 0
    have pf1:=pf 1
    have pf2:=pf 2
    have pf3:=pf 3
    have pf4:=pf 4
    have pf5:=pf 5
    have pf6:=pf 6
    obtain ⟨W9,hW9,hr9,hg9⟩:=seven_all HO4.out.res (.int .i64 q.v.k) (.int .i64 q.v.lo) (.int .i64 q.v.hi) (.slice (some ⟨xb,xo,none⟩) nx q.xc) (.slice q.td nt q.tc) (.slice q.fd nf q.fc) (.string q.v.n)
    obtain ⟨q0,q1,q2,q3,q4,q5,q6,-⟩:=ty_cells hr9
    have HW9:=hid hW9
    have HPOST:Hid (BecPost q.v 5 C w (.returned (.tuple #[.agg #[.int .i64 q.v.k,.int .i64 q.v.lo,.int .i64 q.v.hi,.slice (some ⟨xb,xo,none⟩) nx q.xc,.slice q.td nt q.tc,.slice q.fd nf q.fc,.string q.v.n],.bool false])) W9):=hid ⟨q,false,by unfold Lt.val;rw [HNX.out,HNT.out,HNF.out,HXD.out],(fun h=>by cases h),HO4.out.g.grown hg9 (by have:=HO4.out.vlt;omega) (fun b e=>by have:=Option.some.inj e;omega)⟩
    clear hW9 hr9 hg9 pf
    rw [HXD.out] at a3
    go_wp2_with fail
    rw [<-HW9.out]
    exact bodyPost_ret (v:=.tuple #[.agg #[.int .i64 q.v.k,.int .i64 q.v.lo,.int .i64 q.v.hi,.slice (some ⟨xb,xo,none⟩) nx q.xc,.slice q.td nt q.tc,.slice q.fd nf q.fc,.string q.v.n],.bool false]) (by simp [results,Tryz.results76,go_sem,q0,q1,q2,q3,q4,q5,q6]) rfl HPOST.out
  ·obtain rfl:j=nx:=by omega
   have HBW:Hid (Betw q.v.x lo hi\/(q.v.x=[]/\lo=0/\hi=0)):=hid (by
    rcases HBr.out with ⟨h1,h2⟩|h
    ·exact .inr ⟨List.eq_nil_of_length_eq_zero (by rw [HNX.out];exact h1),h2⟩
    ·rw [<-HNX.out,List.take_length] at h;exact .inl h)
   have HWF:Hid ((Ty.mk 4 lo hi [] [] [] ⟨#[]⟩).wf):=hid (by
    have hb:-9223372036854775808<=lo/\lo<=9223372036854775807/\-9223372036854775808<=hi/\hi<=9223372036854775807:=by
     rcases HBW.out with h|⟨-,rfl,rfl⟩
     ·exact h.2
     ·omega
    exact ⟨show (-9223372036854775808:Int)<=4 by decide,show (4:Int)<=9223372036854775807 by decide,hb.1,hb.2.1,hb.2.2.1,hb.2.2.2,show (0:Nat)<=140737488351232 by decide⟩)
   go_upto_region 16 with fail
   obtain ⟨u0,u1,u2,u3,u4,u5,u6,-⟩:=ty_cells HUr.out
   cases hk:(q.v.k==7)
   ·have hk':Hid (¬ q.v.k=7):=hid (beq_eq_false_iff_ne.1 hk)
    clear hk
    obtain ⟨a0,a1,a2,a3,a4,a5,a6,-⟩:=ty_cells HOr.out.box
    obtain ⟨p0,p1,p2,p3,p4,p5,p6,pf⟩:=ty_cells HOr.out.res
    have pf0:=pf 0
    have pf1:=pf 1
    have pf2:=pf 2
    have pf3:=pf 3
    have pf4:=pf 4
    have pf5:=pf 5
    have pf6:=pf 6
    obtain ⟨W9,hW9,hr9,hg9⟩:=seven_all HOr.out.res (.int .i64 4) (.int .i64 lo) (.int .i64 hi) (.slice none 0 0) (.slice none 0 0) (.slice none 0 0) (.string ⟨#[]⟩)
    obtain ⟨q0,q1,q2,q3,q4,q5,q6,-⟩:=ty_cells hr9
    have HW9:=hid hW9
    have HPOST:Hid (BecPost q.v 5 C w (.returned (.tuple #[.agg #[.int .i64 4,.int .i64 lo,.int .i64 hi,.slice none 0 0,.slice none 0 0,.slice none 0 0,.string ⟨#[]⟩],.bool false])) W9.drew):=hid ⟨⟨.mk 4 lo hi [] [] [] ⟨#[]⟩,none,0,none,0,none,0⟩,false,by rfl,(fun h=>by cases h),(HOr.out.g.grown hg9 (by have:=HOr.out.vlt;omega) (fun b e=>by have:=Option.some.inj e;omega)).trans (Gx.drewN_below W9 1 _)⟩
    clear hW9 hr9 hg9 pf
    go_region_law (fail)
    all_goals
     go_wp2_with fail
     rw [<-HW9.out]
     exact bodyPost_ret (v:=.tuple #[.agg #[.int .i64 4,.int .i64 lo,.int .i64 hi,.slice none 0 0,.slice none 0 0,.slice none 0 0,.string ⟨#[]⟩],.bool false]) (by simp [results,Tryz.results76,go_sem,q0,q1,q2,q3,q4,q5,q6,hk'.out]) rfl HPOST.out
   ·have hk':Hid (q.v.k=7):=hid (beq_iff_eq.1 hk)
    clear hk
    obtain ⟨a0,a1,a2,a3,a4,a5,a6,-⟩:=ty_cells HOr.out.box
    obtain ⟨p0,p1,p2,p3,p4,p5,p6,pf⟩:=ty_cells HOr.out.res
    have pf0:=pf 0
    have pf1:=pf 1
    have pf2:=pf 2
    have pf3:=pf 3
    have pf4:=pf 4
    have pf5:=pf 5
    have pf6:=pf 6
    obtain ⟨W9,hW9,hr9,hg9⟩:=seven_all HOr.out.res (.int .i64 4) (.int .i64 lo) (.int .i64 hi) (.slice none 0 0) (.slice none 0 0) (.slice none 0 0) (.string ⟨#[]⟩)
    obtain ⟨q0,q1,q2,q3,q4,q5,q6,-⟩:=ty_cells hr9
    have HW9:=hid hW9
    have HPOST:Hid (BecPost q.v 5 C w (.returned (.tuple #[.agg #[.int .i64 4,.int .i64 lo,.int .i64 hi,.slice none 0 0,.slice none 0 0,.slice none 0 0,.string ⟨#[]⟩],.bool true])) W9.drew):=hid ⟨⟨.mk 4 lo hi [] [] [] ⟨#[]⟩,none,0,none,0,none,0⟩,true,by rfl,(fun _=>⟨.inr (.inl ⟨rfl,hk'.out,rfl,fun s hs=>HBW.out.elim (fun h=>h.1 s hs) (fun h=>absurd hs (by rw [h.1];exact List.not_mem_nil))⟩),HWF.out,.nil _ _,.nil _ _ _,.nil _ _ _⟩),(HOr.out.g.grown hg9 (by have:=HOr.out.vlt;omega) (fun b e=>by have:=Option.some.inj e;omega)).trans (Gx.drewN_below W9 1 _)⟩
    clear hW9 hr9 hg9 pf
    go_region_law (fail)
    all_goals
     go_wp2_with fail
     rw [<-HW9.out]
     exact bodyPost_ret (v:=.tuple #[.agg #[.int .i64 4,.int .i64 lo,.int .i64 hi,.slice none 0 0,.slice none 0 0,.slice none 0 0,.string ⟨#[]⟩],.bool true]) (by simp [results,Tryz.results76,go_sem,q0,q1,q2,q3,q4,q5,q6,hk'.out]) rfl HPOST.out
end Go.Proofs.YtgnonbdkmmkdgaaGreatDoor
