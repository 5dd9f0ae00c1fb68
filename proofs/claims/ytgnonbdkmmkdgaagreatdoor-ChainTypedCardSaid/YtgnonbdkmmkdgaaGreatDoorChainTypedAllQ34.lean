/-
  Lemmas for the statement: plain laws, and what functions answer; the conditions stand in each.
-/
import Derived.Test.YtgnonbdkmmkdgaaGreatDoorChainTypedAllQ32
import Derived.Test.YtgnonbdkmmkdgaaGreatDoorChainTypedAllQ33
set_option linter.unusedVariables false
set_option linter.unusedSimpArgs false
set_option maxHeartbeats 16000000
set_option maxRecDepth 100000
open Go.Lib (hid)
namespace Go.Proofs.YtgnonbdkmmkdgaaGreatDoor
open Go.RowKit Gx
theorem RB.low {w W W':World} {S:Nat->Prop} {X M Z:Array Value} (h:RB w S X M Z W) {n:Nat} (hb:Below n W W') (hn:w.heap.size+3<=n) (hs:W.heap.size<=W'.heap.size):RB w S X M Z W':=by
 have h3:=h.s
 exact ⟨h.k.trans (T:=fun b=>n<=b) ⟨hb.os,hb.tape,hb.output,hs,fun k hk hn'=>hb.block k (by omega)⟩ (fun b hl hb=>by omega),by omega,(hb.block _ (by omega)).trans h.bt,(hb.block _ (by omega)).trans h.bm,(hb.block _ (by omega)).trans h.res⟩
def StepR (m:Mv) (a b:Ty):Prop:=checkM m=0/\TypedR m m.p a b/\fitsE b=0
def STPost (m:Mv) (a:Ty) (w:World) (e:Ending) (w':World):Prop:=∃ (x:Lt) (code:Int),e=.returned (.tuple #[x.val,.int .i64 code])/\(code=0->StepR m a x.v/\TyAt w' (fun b=>w.heap.size<=b) x)/\Below w.heap.size w w'
theorem stepTyped_any (q:Lt) (m:Lm) (w:World) (hq:TyAt w (fun _=>True) q) (hm:MvAt w (fun _=>True) m) (hT:Tabs w):Calls Tryz.prog 12 #[q.val,m.val] w (STPost m.mv q.v w):=by
 have hrb:=RB.start w (fun _=>False) #[.int .i64 q.v.k,.int .i64 q.v.lo,.int .i64 q.v.hi,.slice q.xd q.v.x.length q.xc,.slice q.td q.v.t.length q.tc,.slice q.fd q.v.f.length q.fc,.string q.v.n] #[.int .i64 m.k,.slice m.pd m.p.length m.pc,.string m.key,.string m.dst,.int .i64 m.q.v.k,.int .i64 m.q.v.n,.int .u64 m.q.v.f,.string m.q.v.s,.slice m.q.ad m.q.v.l.length m.q.cap,.slice m.q.bd m.q.v.e.length m.q.dap]
 have hpl:∀ W,Below w.heap.size w W->Calls Tryz.prog 27 #[q.val] W (IntB (fitsE q.v) W):=fun W hb=>plain_any q W (hq.keep hb) (hT.keep hb)
 unfold Lt.val at hpl
 unfold Lt.val Lm.val
 obtain ⟨nx,hnx⟩:∃ m,q.v.x.length=m:=⟨_,rfl⟩
 obtain ⟨nt,hnt⟩:∃ m,q.v.t.length=m:=⟨_,rfl⟩
 obtain ⟨nf,hnf⟩:∃ m,q.v.f.length=m:=⟨_,rfl⟩
 obtain ⟨c1,hc1⟩:∃ c,fitsE q.v=c:=⟨_,rfl⟩
 obtain ⟨c2,hc2⟩:∃ c,checkM m.mv=c:=⟨_,rfl⟩
 rw [hnx,hnt,hnf] at hrb ⊢
 unfold IntB at hpl
 simp only [hnx,hnt,hnf,hc1] at hpl
 have HPL:=hid hpl
 have HNX:=hid hnx
 have HNT:=hid hnt
 have HNF:=hid hnf
 have HC1:=hid hc1
 have HC2:=hid hc2
 have HQ:=hid hq
 have HM:=hid hm
 have HT:=hid hT
 clear hnx hnt hnf hq hm hT hpl hc1 hc2
 go_enter Tryz.func12,Tryz.ntmps12
 go_upto_region 1 with fail
 generalize World.alloc (World.alloc (World.alloc w _) _) _=w1 at hrb ⊢
 have HR:=hid hrb
 clear hrb
 obtain ⟨a0,a1,a2,a3,a4,a5,a6,-⟩:=ty_cells HR.out.bt
 have HPL1:=hid (HPL.out w1 HR.out.below)
 go_wp2_with fail
 (with_reducible refine HPL1.out.mono ?_)
 rintro e w2 ⟨rfl,hb2⟩
 have HR2:=hid (HR.out.keep hb2)
 clear a0 a1 a2 a3 a4 a5 a6 hb2 HR HPL1 HPL
 by_cases h1:c1=0
 case neg =>
  have e1:(c1 != 0)=true:=by simp [h1]
  obtain ⟨p0,p1,p2,p3,p4,p5,p6,pf⟩:=ty_cells HR2.out.res
  have pf0:=pf 0
  have pf1:=pf 1
  have pf2:=pf 2
  have pf3:=pf 3
  have pf4:=pf 4
  have pf5:=pf 5
  have pf6:=pf 6
  obtain ⟨W9,hW9,hr9,hg9⟩:=seven_all HR2.out.res (.int .i64 0) (.int .i64 0) (.int .i64 0) (.slice none 0 0) (.slice none 0 0) (.slice none 0 0) (.string ⟨#[]⟩)
  obtain ⟨q0,q1,q2,q3,q4,q5,q6,-⟩:=ty_cells hr9
  have HW9:=hid hW9
  have HPOST:Hid (STPost m.mv q.v w (.returned (.tuple #[.agg #[.int .i64 0,.int .i64 0,.int .i64 0,.slice none 0 0,.slice none 0 0,.slice none 0 0,.string ⟨#[]⟩],.int .i64 c1])) W9):=hid ⟨⟨.zero,none,0,none,0,none,0⟩,c1,rfl,fun h=>absurd h h1,HR2.out.k.grown hg9 (fun b e hb=>by have:=Option.some.inj e;omega) |>.below (Nat.le_refl _) (fun _ h=>h.elim)⟩
  clear hW9 hr9 hg9 pf
  go_wp2_with fail
  rw [<-HW9.out]
  exact bodyPost_ret (v:=.tuple #[.agg #[.int .i64 0,.int .i64 0,.int .i64 0,.slice none 0 0,.slice none 0 0,.slice none 0 0,.string ⟨#[]⟩],.int .i64 c1]) (by simp [results,Tryz.results12,go_sem,q0,q1,q2,q3,q4,q5,q6]) rfl HPOST.out
 obtain rfl:c1=0:=h1
 have e1:((0:Int) != 0)=false:=rfl
 obtain ⟨b0,b1,b2,b3,b4,b5,b6,b7,b8,b9⟩:=ten_cells HR2.out.bm
 have hck:=stepCheck_any m w2 (HT.out.keep HR2.out.below) (HM.out.keep HR2.out.below)
 unfold CheckPost Lm.val at hck
 rw [HC2.out] at hck
 have HCK:=hid hck
 clear hck
 go_wp2_with fail
 (with_reducible refine HCK.out.mono ?_)
 rintro e w3 ⟨rfl,hb3⟩
 have HR3:=hid (HR2.out.keep hb3)
 clear b0 b1 b2 b3 b4 b5 b6 b7 b8 b9 hb3 HR2 HCK
 by_cases h2:c2=0
 case neg =>
  have e2:((c2:Int) != 0)=true:=by simp [h2]
  obtain ⟨p0,p1,p2,p3,p4,p5,p6,pf⟩:=ty_cells HR3.out.res
  have pf0:=pf 0
  have pf1:=pf 1
  have pf2:=pf 2
  have pf3:=pf 3
  have pf4:=pf 4
  have pf5:=pf 5
  have pf6:=pf 6
  obtain ⟨W9,hW9,hr9,hg9⟩:=seven_all HR3.out.res (.int .i64 0) (.int .i64 0) (.int .i64 0) (.slice none 0 0) (.slice none 0 0) (.slice none 0 0) (.string ⟨#[]⟩)
  obtain ⟨q0,q1,q2,q3,q4,q5,q6,-⟩:=ty_cells hr9
  have HW9:=hid hW9
  have HPOST:Hid (STPost m.mv q.v w (.returned (.tuple #[.agg #[.int .i64 0,.int .i64 0,.int .i64 0,.slice none 0 0,.slice none 0 0,.slice none 0 0,.string ⟨#[]⟩],.int .i64 (c2:Int)])) W9):=hid ⟨⟨.zero,none,0,none,0,none,0⟩,(c2:Int),rfl,fun h=>absurd h (fun h9=>h2 (by omega)),HR3.out.k.grown hg9 (fun b e hb=>by have:=Option.some.inj e;omega) |>.below (Nat.le_refl _) (fun _ h=>h.elim)⟩
  clear hW9 hr9 hg9 pf
  go_wp2_with fail
  rw [<-HW9.out]
  exact bodyPost_ret (v:=.tuple #[.agg #[.int .i64 0,.int .i64 0,.int .i64 0,.slice none 0 0,.slice none 0 0,.slice none 0 0,.string ⟨#[]⟩],.int .i64 (c2:Int)]) (by simp [results,Tryz.results12,go_sem,q0,q1,q2,q3,q4,q5,q6]) rfl HPOST.out
 obtain rfl:c2=0:=h2
 have hsn:Seen 20 q.v:=fitsE_seen HC1.out
 have HSN:=hid hsn
 obtain ⟨a0,a1,a2,a3,a4,a5,a6,-⟩:=ty_cells HR3.out.bt
 obtain ⟨b0,b1,b2,b3,b4,b5,b6,b7,b8,b9⟩:=ten_cells HR3.out.bm
 have hs3:=HR3.out.s
 have HOWN:Hid (∀ W,Below w3.heap.size w3 W->Calls Tryz.prog 11 #[.agg #[.int .i64 q.v.k,.int .i64 q.v.lo,.int .i64 q.v.hi,.slice q.xd nx q.xc,.slice q.td nt q.tc,.slice q.fd nf q.fc,.string q.v.n]] W (OwnTPost q.v W)):=hid (fun W hb=>by
  have h:=ownT_any q W (HQ.out.keep (HR3.out.below.trans (hb.mono HR3.out.below.size))) HSN.out.tidy
  unfold Lt.val at h
  rw [HNX.out,HNT.out,HNF.out] at h
  exact h)
 have HTYP:Hid (∀ (W:World) (p:Lt) (S C:Nat->Prop),p.v=q.v->OwnT W S p->Below w3.heap.size w3 W->(∀ b,S b->C b)->(∀ b,W.heap.size<=b->C b)->Calls Tryz.prog 29 #[.agg #[.int .i64 p.v.k,.int .i64 p.v.lo,.int .i64 p.v.hi,.slice p.xd p.v.x.length p.xc,.slice p.td p.v.t.length p.tc,.slice p.fd p.v.f.length p.fc,.string p.v.n],.slice m.pd m.p.length m.pc,.agg #[.int .i64 m.k,.slice m.pd m.p.length m.pc,.string m.key,.string m.dst,.int .i64 m.q.v.k,.int .i64 m.q.v.n,.int .u64 m.q.v.f,.string m.q.v.s,.slice m.q.ad m.q.v.l.length m.q.cap,.slice m.q.bd m.q.v.e.length m.q.dap]] W (TypedPost (fun u=>TypedR m.mv m.mv.p q.v u) S C W)):=hid (fun W p S C hv ho hb h1 h2=>by
  have hbw:=HR3.out.below.trans (hb.mono HR3.out.below.size)
  have h:=typed_any m m.p 20 p m.pd m.pc W S C ho (by rw [hv];exact HSN.out) (HM.out.keep hbw) (HT.out.keep hbw) (HM.out.p.keep hbw) HM.out.c0 HM.out.c1 h1 h2
  rw [hv] at h
  exact h)
 unfold OwnTPost at HOWN
 unfold TypedPost at HTYP
 clear hsn
 go_upto_region 7 with fail
 go_cut [8,9] (fun v8 v9 wx=>∃ (xb:Nat) (y:Lt) (code:Int),v8=.pointer (some ⟨xb,0,none⟩)/\v9=.int .i64 code/\w3.heap.size<=xb/\Hid (code=0->TypedR m.mv m.mv.p q.v y.v/\TyAt wx (fun b=>w3.heap.size<=b/\b≠xb) y)/\Hid (wx.heap[xb]?=some (.cells #[.int .i64 y.v.k,.int .i64 y.v.lo,.int .i64 y.v.hi,.slice y.xd y.v.x.length y.xc,.slice y.td y.v.t.length y.tc,.slice y.fd y.v.f.length y.fc,.string y.v.n] 27))/\Hid (Below w3.heap.size w3 wx)/\Hid (w3.heap.size<=wx.heap.size))
 case first =>
  refine wp_region_held_drew (S:=fun w'=>World.cell? w' ⟨w.heap.size,0,none⟩=some (.int .i64 q.v.k)/\World.cell? w' ⟨w.heap.size,1,none⟩=some (.int .i64 q.v.lo)/\World.cell? w' ⟨w.heap.size,2,none⟩=some (.int .i64 q.v.hi)/\World.cell? w' ⟨w.heap.size,3,none⟩=some (.slice q.xd nx q.xc)/\World.cell? w' ⟨w.heap.size,4,none⟩=some (.slice q.td nt q.tc)/\World.cell? w' ⟨w.heap.size,5,none⟩=some (.slice q.fd nf q.fc)/\World.cell? w' ⟨w.heap.size,6,none⟩=some (.string q.v.n)/\World.cell? w' ⟨w.heap.size+1,0,none⟩=some (.int .i64 m.k)/\World.cell? w' ⟨w.heap.size+1,1,none⟩=some (.slice m.pd m.p.length m.pc)/\World.cell? w' ⟨w.heap.size+1,2,none⟩=some (.string m.key)/\World.cell? w' ⟨w.heap.size+1,3,none⟩=some (.string m.dst)/\World.cell? w' ⟨w.heap.size+1,4,none⟩=some (.int .i64 m.q.v.k)/\World.cell? w' ⟨w.heap.size+1,5,none⟩=some (.int .i64 m.q.v.n)/\World.cell? w' ⟨w.heap.size+1,6,none⟩=some (.int .u64 m.q.v.f)/\World.cell? w' ⟨w.heap.size+1,7,none⟩=some (.string m.q.v.s)/\World.cell? w' ⟨w.heap.size+1,8,none⟩=some (.slice m.q.ad m.q.v.l.length m.q.cap)/\World.cell? w' ⟨w.heap.size+1,9,none⟩=some (.slice m.q.bd m.q.v.e.length m.q.dap)) (by kernel_rfl) ⟨a0,a1,a2,a3,a4,a5,a6,b0,b1,b2,b3,b4,b5,b6,b7,b8,b9⟩ (fun hHeld=>?_)
  refine wpAnyH_take (i:=0) (v:=.agg #[.int .i64 q.v.k,.int .i64 q.v.lo,.int .i64 q.v.hi,.slice q.xd nx q.xc,.slice q.td nt q.tc,.slice q.fd nf q.fc,.string q.v.n]) rfl (by kernel_rfl) (by kernel_rfl) (by kernel_rfl) (fun _ _ _ h=>h) (Or.inl ⟨by kernel_rfl,fun w' hSw=>?_⟩) (by assumption) ?_
  ·obtain ⟨s0,s1,s2,s3,s4,s5,s6,s7,s8,s9,s10,s11,s12,s13,s14,s15,s16⟩:=hSw;clear hHeld;go_simp;try rfl
  try simp only [Act.put,Go.setq]
  refine wpAnyH_take (i:=2) (v:=.pointer (some ⟨w.heap.size+1,1,none⟩)) rfl (by kernel_rfl) (by kernel_rfl) (by kernel_rfl) (fun _ _ _ h=>h) (Or.inl ⟨by kernel_rfl,fun w' hSw=>?_⟩) (by assumption) ?_
  ·obtain ⟨s0,s1,s2,s3,s4,s5,s6,s7,s8,s9,s10,s11,s12,s13,s14,s15,s16⟩:=hSw;clear hHeld;go_simp;try rfl
  try simp only [Act.put,Go.setq]
  refine wpAnyH_take (i:=3) (v:=.slice m.pd m.p.length m.pc) rfl (by kernel_rfl) (by kernel_rfl) (by kernel_rfl) (fun _ _ _ h=>h) (Or.inl ⟨by kernel_rfl,fun w' hSw=>?_⟩) (by assumption) ?_
  ·obtain ⟨s0,s1,s2,s3,s4,s5,s6,s7,s8,s9,s10,s11,s12,s13,s14,s15,s16⟩:=hSw;clear hHeld;go_simp;try rfl
  try simp only [Act.put,Go.setq]
  refine wpAnyH_take (i:=4) (v:=.agg #[.int .i64 m.k,.slice m.pd m.p.length m.pc,.string m.key,.string m.dst,.int .i64 m.q.v.k,.int .i64 m.q.v.n,.int .u64 m.q.v.f,.string m.q.v.s,.slice m.q.ad m.q.v.l.length m.q.cap,.slice m.q.bd m.q.v.e.length m.q.dap]) rfl (by kernel_rfl) (by kernel_rfl) (by kernel_rfl) (fun _ _ _ h=>h) (Or.inl ⟨by kernel_rfl,fun w' hSw=>?_⟩) (by assumption) ?_
  ·obtain ⟨s0,s1,s2,s3,s4,s5,s6,s7,s8,s9,s10,s11,s12,s13,s14,s15,s16⟩:=hSw;clear hHeld;go_simp;try rfl
  try simp only [Act.put,Go.setq]
  have HGd:Hid (Below w3.heap.size w3 w3.drew):=hid (Gx.drewN_below w3 1 _)
  have HRW:Hid (∀ W,Below w3.heap.size w3 W->World.cell? W ⟨w.heap.size,0,none⟩=some (.int .i64 q.v.k)/\World.cell? W ⟨w.heap.size,1,none⟩=some (.int .i64 q.v.lo)/\World.cell? W ⟨w.heap.size,2,none⟩=some (.int .i64 q.v.hi)/\World.cell? W ⟨w.heap.size,3,none⟩=some (.slice q.xd nx q.xc)/\World.cell? W ⟨w.heap.size,4,none⟩=some (.slice q.td nt q.tc)/\World.cell? W ⟨w.heap.size,5,none⟩=some (.slice q.fd nf q.fc)/\World.cell? W ⟨w.heap.size,6,none⟩=some (.string q.v.n)/\World.cell? W ⟨w.heap.size+1,0,none⟩=some (.int .i64 m.k)/\World.cell? W ⟨w.heap.size+1,1,none⟩=some (.slice m.pd m.p.length m.pc)/\World.cell? W ⟨w.heap.size+1,2,none⟩=some (.string m.key)/\World.cell? W ⟨w.heap.size+1,3,none⟩=some (.string m.dst)/\World.cell? W ⟨w.heap.size+1,4,none⟩=some (.int .i64 m.q.v.k)/\World.cell? W ⟨w.heap.size+1,5,none⟩=some (.int .i64 m.q.v.n)/\World.cell? W ⟨w.heap.size+1,6,none⟩=some (.int .u64 m.q.v.f)/\World.cell? W ⟨w.heap.size+1,7,none⟩=some (.string m.q.v.s)/\World.cell? W ⟨w.heap.size+1,8,none⟩=some (.slice m.q.ad m.q.v.l.length m.q.cap)/\World.cell? W ⟨w.heap.size+1,9,none⟩=some (.slice m.q.bd m.q.v.e.length m.q.dap)):=hid (fun W hb=>by
   have hc:∀ b o,b<w3.heap.size->W.cell? ⟨b,o,none⟩=w3.cell? ⟨b,o,none⟩:=fun b o hl=>hb.cell (p:=⟨b,o,none⟩) hl
   refine ⟨(hc _ _ (by omega)).trans a0,(hc _ _ (by omega)).trans a1,(hc _ _ (by omega)).trans a2,(hc _ _ (by omega)).trans a3,(hc _ _ (by omega)).trans a4,(hc _ _ (by omega)).trans a5,(hc _ _ (by omega)).trans a6,(hc _ _ (by omega)).trans b0,(hc _ _ (by omega)).trans b1,(hc _ _ (by omega)).trans b2,(hc _ _ (by omega)).trans b3,(hc _ _ (by omega)).trans b4,(hc _ _ (by omega)).trans b5,(hc _ _ (by omega)).trans b6,(hc _ _ (by omega)).trans b7,(hc _ _ (by omega)).trans b8,(hc _ _ (by omega)).trans b9⟩)
  generalize World.drew w3=wd at HGd hHeld ⊢
  clear a0 a1 a2 a3 a4 a5 a6 b0 b1 b2 b3 b4 b5 b6 b7 b8 b9
  refine wpAnyH_ready (rs:=[1,9]) (by kernel_rfl) (by simp) ?_
  refine AllReadyH.cons rfl (fun KK hK=>?_) (AllReadyH.cons rfl (fun KK hK=>?_) AllReadyH.nil)
  ·skip
   go_simp
   (with_reducible refine (HOWN.out wd HGd.out).mono ?_)
   rintro e w5 ⟨p,rfl,hpv,hpo,hb5⟩
   have HG5:Hid (Below w3.heap.size w3 w5):=hid (HGd.out.trans (hb5.mono HGd.out.size))
   have HPV:=hid hpv
   clear hpv
   have hsz1:=HGd.out.size
   have hsz2:=hb5.size
   try simp only [Lt.val]
   clear hHeld
   refine hK.out _ _ (HRW.out _ HG5.out) (fun hHeld=>?_)
   clear hK KK
   try simp only [Act.put,Go.setq]
   refine wpAnyH_ready (rs:=[5,9]) (by kernel_rfl) (by simp) ?_
   refine AllReadyH.cons rfl (fun KK hK=>?_) (AllReadyH.cons rfl (fun KK hK=>?_) AllReadyH.nil)
   ·skip
    obtain ⟨SS,hSS⟩:∃ SS:Nat->Prop,SS=(fun b=>wd.heap.size<=b):=⟨_,rfl⟩
    have HSS:Hid (∀ b,SS b->w3.heap.size<=b/\(True)):=hid (fun b hb=>by rw [hSS] at hb;exact ⟨by have h:wd.heap.size<=b:=hb;omega,trivial⟩)
    have HPO:Hid (OwnT w5 SS p):=hid (by rw [hSS];exact hpo)
    clear hSS
    go_simp
    (with_reducible refine (HTYP.out w5 p SS (fun b=>SS b\/w5.heap.size<=b) HPV.out HPO.out HG5.out (fun b hb=>.inl hb) (fun b hb=>.inr hb)).mono ?_)
    rintro e w7 ⟨y,code,rfl,hgood,hkp⟩
    have hsW:=HG5.out.size
    have hs7:=hkp.size
    have HG7:Hid (Below w3.heap.size w3 w7):=hid (HG5.out.trans (hkp.below hsW (fun b hb=>(HSS.out b hb).1)))
    try simp only [Lt.val]
    clear hHeld
    refine hK.out _ _ (HRW.out _ HG7.out) (fun hHeld=>?_)
    clear hK KK
    try simp only [Act.put,Go.setq]
    refine wpAnyH_take (i:=6) (v:=.tuple #[.agg #[.int .i64 y.v.k,.int .i64 y.v.lo,.int .i64 y.v.hi,.slice y.xd y.v.x.length y.xc,.slice y.td y.v.t.length y.tc,.slice y.fd y.v.f.length y.fc,.string y.v.n],.int .i64 code]) rfl (by kernel_rfl) (by kernel_rfl) (by kernel_rfl) (fun _ _ _ h=>h) (Or.inl ⟨by kernel_rfl,fun w' hSw=>?_⟩) (by assumption) ?_
    ·clear hHeld hSw;go_simp;try rfl
    try simp only [Act.put,Go.setq]
    refine wpAnyH_take (i:=7) (v:=.agg #[.int .i64 y.v.k,.int .i64 y.v.lo,.int .i64 y.v.hi,.slice y.xd y.v.x.length y.xc,.slice y.td y.v.t.length y.tc,.slice y.fd y.v.f.length y.fc,.string y.v.n]) rfl (by kernel_rfl) (by kernel_rfl) (by kernel_rfl) (fun _ _ _ h=>h) (Or.inl ⟨by kernel_rfl,fun w' hSw=>?_⟩) (by assumption) ?_
    ·clear hHeld hSw;go_simp;try rfl
    try simp only [Act.put,Go.setq]
    refine wpAnyH_take (i:=8) (v:=.int .i64 code) rfl (by kernel_rfl) (by kernel_rfl) (by kernel_rfl) (fun _ _ _ h=>h) (Or.inl ⟨by kernel_rfl,fun w' hSw=>?_⟩) (by assumption) ?_
    ·clear hHeld hSw;go_simp;try rfl
    try simp only [Act.put,Go.setq]
    refine wpAnyH_ready (rs:=[9]) (by kernel_rfl) (by simp) ?_
    refine AllReadyH.cons rfl (fun KK hK=>?_) AllReadyH.nil
    go_simp
    have hal:=(Below.refl w7.heap.size w7).alloc (Nat.le_refl _) (.cells #[.int .i64 0,.int .i64 0,.int .i64 0,.slice none 0 0,.slice none 0 0,.slice none 0 0,.string ⟨#[]⟩] 27)
    have HG6:Hid (Below w3.heap.size w3 (w7.alloc (.cells #[.int .i64 0,.int .i64 0,.int .i64 0,.slice none 0 0,.slice none 0 0,.slice none 0 0,.string ⟨#[]⟩] 27))):=hid (HG7.out.trans (hal.mono HG7.out.size))
    have HCA:=hid (heap_alloc_new w7 (.cells #[.int .i64 0,.int .i64 0,.int .i64 0,.slice none 0 0,.slice none 0 0,.slice none 0 0,.string ⟨#[]⟩] 27))
    have hsa:(w7.alloc (.cells #[.int .i64 0,.int .i64 0,.int .i64 0,.slice none 0 0,.slice none 0 0,.slice none 0 0,.string ⟨#[]⟩] 27)).heap.size=w7.heap.size+1:=World.size_alloc _ _
    have hxl:=HG7.out.size
    have HYR:Hid (code=0->TypedR m.mv m.mv.p q.v y.v/\TyAt (w7.alloc (.cells #[.int .i64 0,.int .i64 0,.int .i64 0,.slice none 0 0,.slice none 0 0,.slice none 0 0,.string ⟨#[]⟩] 27)) (fun b=>w3.heap.size<=b/\b≠w7.heap.size) y):=hid (fun h=>⟨(hgood h).1,((hgood h).2.weak (C:=fun b=>w3.heap.size<=b/\b≠w7.heap.size) (fun b hb hl=>⟨by rcases hb with hb|hb<;>first|exact (HSS.out b hb).1|omega,by omega⟩)).keep hal⟩)
    obtain ⟨xb,hxb⟩:∃ xb,w7.heap.size=xb:=⟨_,rfl⟩
    rw [hxb] at HCA HYR hxl ⊢
    clear hal hgood hkp hsa
    generalize World.alloc w7 _=w8 at HG6 HCA HYR ⊢
    refine hK.out _ _ (HRW.out _ HG6.out) (fun hHeld=>?_)
    clear hK KK
    try simp only [Act.put,Go.setq]
    refine wpAnyH_ready (rs:=[10]) (by kernel_rfl) (by simp) ?_
    refine AllReadyH.cons rfl (fun KK hK=>?_) AllReadyH.nil
    obtain ⟨W8,hW8,hr8,hg8⟩:=seven_all HCA.out (.int .i64 y.v.k) (.int .i64 y.v.lo) (.int .i64 y.v.hi) (.slice y.xd y.v.x.length y.xc) (.slice y.td y.v.t.length y.tc) (.slice y.fd y.v.f.length y.fc) (.string y.v.n)
    have hz0:=ty_cells HCA.out
    have z0:=hz0.1
    have z1:=hz0.2.1
    have z2:=hz0.2.2.1
    have z3:=hz0.2.2.2.1
    have z4:=hz0.2.2.2.2.1
    have z5:=hz0.2.2.2.2.2.1
    have z6:=hz0.2.2.2.2.2.2.1
    have zf0:=hz0.2.2.2.2.2.2.2 0
    have zf1:=hz0.2.2.2.2.2.2.2 1
    have zf2:=hz0.2.2.2.2.2.2.2 2
    have zf3:=hz0.2.2.2.2.2.2.2 3
    have zf4:=hz0.2.2.2.2.2.2.2 4
    have zf5:=hz0.2.2.2.2.2.2.2 5
    have zf6:=hz0.2.2.2.2.2.2.2 6
    have HW8:=hid hW8
    clear hz0 hW8
    go_simp
    rw [<-HW8.out]
    clear z0 z1 z2 z3 z4 z5 z6 zf0 zf1 zf2 zf3 zf4 zf5 zf6
    have HG8:Hid (Below w3.heap.size w3 W8):=hid (HG6.out.grown hg8 HG6.out.size (fun b e=>by have:=Option.some.inj e;omega))
    refine hK.out _ _ (HRW.out _ HG8.out) (fun hHeld2=>?_)
    clear hK KK
    try simp only [Act.put,Go.setq]
    refine wpAnyH_ready (rs:=[11]) (by kernel_rfl) (by simp) ?_
    refine AllReadyH.cons rfl (fun KK hK=>?_) AllReadyH.nil
    go_simp
    refine hK.out _ _ (HRW.out _ HG8.out) (fun hHeld3=>?_)
    clear hK KK
    try simp only [Act.put,Go.setq]
    refine wpAnyH_done (by kernel_rfl) ?_ _
    go_wp2_with fail
    go_meet
    exact ⟨xb,y,code,rfl,rfl,by omega,hid (fun h=>⟨(HYR.out h).1,(HYR.out h).2.grow hg8 (fun b e hb=>hb.2 (Option.some.inj e).symm)⟩),hid hr8,HG8,hid HG8.out.size⟩
   ·skip
    go_simp
    have hal:=(Below.refl w5.heap.size w5).alloc (Nat.le_refl _) (.cells #[.int .i64 0,.int .i64 0,.int .i64 0,.slice none 0 0,.slice none 0 0,.slice none 0 0,.string ⟨#[]⟩] 27)
    have HG6:Hid (Below w3.heap.size w3 (w5.alloc (.cells #[.int .i64 0,.int .i64 0,.int .i64 0,.slice none 0 0,.slice none 0 0,.slice none 0 0,.string ⟨#[]⟩] 27))):=hid (HG5.out.trans (hal.mono HG5.out.size))
    have HCA:=hid (heap_alloc_new w5 (.cells #[.int .i64 0,.int .i64 0,.int .i64 0,.slice none 0 0,.slice none 0 0,.slice none 0 0,.string ⟨#[]⟩] 27))
    have hsa:(w5.alloc (.cells #[.int .i64 0,.int .i64 0,.int .i64 0,.slice none 0 0,.slice none 0 0,.slice none 0 0,.string ⟨#[]⟩] 27)).heap.size=w5.heap.size+1:=World.size_alloc _ _
    have hxl:=HG5.out.size
    have hpo6:=(hpo.weak (C:=fun b=>wd.heap.size<=b/\b<w5.heap.size) (fun b h1 h2=>⟨h1,h2⟩)).keep hal
    obtain ⟨xb,hxb⟩:∃ xb,w5.heap.size=xb:=⟨_,rfl⟩
    rw [hxb] at HCA hxl hsa hpo6 ⊢
    clear hal
    generalize World.alloc w5 _=w6 at HG6 HCA hsa hpo6 ⊢
    obtain ⟨SS,hSS⟩:∃ SS:Nat->Prop,SS=(fun b=>wd.heap.size<=b/\b<xb):=⟨_,rfl⟩
    have HSS:Hid (∀ b,SS b->w3.heap.size<=b/\(b≠xb)):=hid (fun b hb=>by rw [hSS] at hb;exact ⟨by have h:=hb.1;omega,by have h:=hb.2;omega⟩)
    have HPO:Hid (OwnT w6 SS p):=hid (by rw [hSS];exact hpo6)
    clear hSS
    refine hK.out _ _ (HRW.out _ HG6.out) (fun hHeld=>?_)
    clear hK KK
    try simp only [Act.put,Go.setq]
    refine wpAnyH_ready (rs:=[5]) (by kernel_rfl) (by simp) ?_
    refine AllReadyH.cons rfl (fun KK hK=>?_) AllReadyH.nil
    go_simp
    (with_reducible refine (HTYP.out w6 p SS (fun b=>SS b\/w6.heap.size<=b) HPV.out HPO.out HG6.out (fun b hb=>.inl hb) (fun b hb=>.inr hb)).mono ?_)
    rintro e w7 ⟨y,code,rfl,hgood,hkp⟩
    have hsW:=HG6.out.size
    have hs7:=hkp.size
    have HG7:Hid (Below w3.heap.size w3 w7):=hid (HG6.out.trans (hkp.below hsW (fun b hb=>(HSS.out b hb).1)))
    try simp only [Lt.val]
    clear hHeld
    refine hK.out _ _ (HRW.out _ HG7.out) (fun hHeld=>?_)
    clear hK KK
    try simp only [Act.put,Go.setq]
    refine wpAnyH_take (i:=6) (v:=.tuple #[.agg #[.int .i64 y.v.k,.int .i64 y.v.lo,.int .i64 y.v.hi,.slice y.xd y.v.x.length y.xc,.slice y.td y.v.t.length y.tc,.slice y.fd y.v.f.length y.fc,.string y.v.n],.int .i64 code]) rfl (by kernel_rfl) (by kernel_rfl) (by kernel_rfl) (fun _ _ _ h=>h) (Or.inl ⟨by kernel_rfl,fun w' hSw=>?_⟩) (by assumption) ?_
    ·clear hHeld hSw;go_simp;try rfl
    try simp only [Act.put,Go.setq]
    refine wpAnyH_take (i:=7) (v:=.agg #[.int .i64 y.v.k,.int .i64 y.v.lo,.int .i64 y.v.hi,.slice y.xd y.v.x.length y.xc,.slice y.td y.v.t.length y.tc,.slice y.fd y.v.f.length y.fc,.string y.v.n]) rfl (by kernel_rfl) (by kernel_rfl) (by kernel_rfl) (fun _ _ _ h=>h) (Or.inl ⟨by kernel_rfl,fun w' hSw=>?_⟩) (by assumption) ?_
    ·clear hHeld hSw;go_simp;try rfl
    try simp only [Act.put,Go.setq]
    refine wpAnyH_take (i:=8) (v:=.int .i64 code) rfl (by kernel_rfl) (by kernel_rfl) (by kernel_rfl) (fun _ _ _ h=>h) (Or.inl ⟨by kernel_rfl,fun w' hSw=>?_⟩) (by assumption) ?_
    ·clear hHeld hSw;go_simp;try rfl
    try simp only [Act.put,Go.setq]
    have HCB:=hid ((hkp.block xb (by omega) (fun h=>(HSS.out xb h).2 rfl)).trans HCA.out)
    have HYR:Hid (code=0->TypedR m.mv m.mv.p q.v y.v/\TyAt w7 (fun b=>w3.heap.size<=b/\b≠xb) y):=hid (fun h=>⟨(hgood h).1,(hgood h).2.weak (fun b hb hl=>⟨by rcases hb with hb|hb<;>first|exact (HSS.out b hb).1|omega,by rcases hb with hb|hb<;>first|exact (HSS.out b hb).2|omega⟩)⟩)
    clear hgood hkp
    refine wpAnyH_ready (rs:=[10]) (by kernel_rfl) (by simp) ?_
    refine AllReadyH.cons rfl (fun KK hK=>?_) AllReadyH.nil
    obtain ⟨W8,hW8,hr8,hg8⟩:=seven_all HCB.out (.int .i64 y.v.k) (.int .i64 y.v.lo) (.int .i64 y.v.hi) (.slice y.xd y.v.x.length y.xc) (.slice y.td y.v.t.length y.tc) (.slice y.fd y.v.f.length y.fc) (.string y.v.n)
    have hz0:=ty_cells HCB.out
    have z0:=hz0.1
    have z1:=hz0.2.1
    have z2:=hz0.2.2.1
    have z3:=hz0.2.2.2.1
    have z4:=hz0.2.2.2.2.1
    have z5:=hz0.2.2.2.2.2.1
    have z6:=hz0.2.2.2.2.2.2.1
    have zf0:=hz0.2.2.2.2.2.2.2 0
    have zf1:=hz0.2.2.2.2.2.2.2 1
    have zf2:=hz0.2.2.2.2.2.2.2 2
    have zf3:=hz0.2.2.2.2.2.2.2 3
    have zf4:=hz0.2.2.2.2.2.2.2 4
    have zf5:=hz0.2.2.2.2.2.2.2 5
    have zf6:=hz0.2.2.2.2.2.2.2 6
    have HW8:=hid hW8
    clear hz0 hW8
    go_simp
    rw [<-HW8.out]
    clear z0 z1 z2 z3 z4 z5 z6 zf0 zf1 zf2 zf3 zf4 zf5 zf6
    have HG8:Hid (Below w3.heap.size w3 W8):=hid (HG7.out.grown hg8 HG7.out.size (fun b e=>by have:=Option.some.inj e;omega))
    refine hK.out _ _ (HRW.out _ HG8.out) (fun hHeld2=>?_)
    clear hK KK
    try simp only [Act.put,Go.setq]
    refine wpAnyH_ready (rs:=[11]) (by kernel_rfl) (by simp) ?_
    refine AllReadyH.cons rfl (fun KK hK=>?_) AllReadyH.nil
    go_simp
    refine hK.out _ _ (HRW.out _ HG8.out) (fun hHeld3=>?_)
    clear hK KK
    try simp only [Act.put,Go.setq]
    refine wpAnyH_done (by kernel_rfl) ?_ _
    go_wp2_with fail
    go_meet
    exact ⟨xb,y,code,rfl,rfl,by omega,hid (fun h=>⟨(HYR.out h).1,(HYR.out h).2.grow hg8 (fun b e hb=>hb.2 (Option.some.inj e).symm)⟩),hid hr8,HG8,hid HG8.out.size⟩
  ·skip
   go_simp
   have hal:=(Below.refl wd.heap.size wd).alloc (Nat.le_refl _) (.cells #[.int .i64 0,.int .i64 0,.int .i64 0,.slice none 0 0,.slice none 0 0,.slice none 0 0,.string ⟨#[]⟩] 27)
   have HGa:Hid (Below w3.heap.size w3 (wd.alloc (.cells #[.int .i64 0,.int .i64 0,.int .i64 0,.slice none 0 0,.slice none 0 0,.slice none 0 0,.string ⟨#[]⟩] 27))):=hid (HGd.out.trans (hal.mono HGd.out.size))
   have HCA:=hid (heap_alloc_new wd (.cells #[.int .i64 0,.int .i64 0,.int .i64 0,.slice none 0 0,.slice none 0 0,.slice none 0 0,.string ⟨#[]⟩] 27))
   have hsa:(wd.alloc (.cells #[.int .i64 0,.int .i64 0,.int .i64 0,.slice none 0 0,.slice none 0 0,.slice none 0 0,.string ⟨#[]⟩] 27)).heap.size=wd.heap.size+1:=World.size_alloc _ _
   have hxl:=HGd.out.size
   obtain ⟨xb,hxb⟩:∃ xb,wd.heap.size=xb:=⟨_,rfl⟩
   rw [hxb] at HCA hxl hsa ⊢
   clear hal
   generalize World.alloc wd _=wa at HGa HCA hsa ⊢
   refine hK.out _ _ (HRW.out _ HGa.out) (fun hHeld=>?_)
   clear hK KK
   try simp only [Act.put,Go.setq]
   refine wpAnyH_ready (rs:=[1]) (by kernel_rfl) (by simp) ?_
   refine AllReadyH.cons rfl (fun KK hK=>?_) AllReadyH.nil
   go_simp
   (with_reducible refine (HOWN.out wa HGa.out).mono ?_)
   rintro e w5 ⟨p,rfl,hpv,hpo,hb5⟩
   have HG5:Hid (Below w3.heap.size w3 w5):=hid (HGa.out.trans (hb5.mono HGa.out.size))
   have HPV:=hid hpv
   clear hpv
   have hsz1:=HGa.out.size
   have hsz2:=hb5.size
   try simp only [Lt.val]
   have HCA5:=hid ((hb5.block xb (by omega)).trans HCA.out)
   clear hHeld
   refine hK.out _ _ (HRW.out _ HG5.out) (fun hHeld=>?_)
   clear hK KK
   try simp only [Act.put,Go.setq]
   obtain ⟨SS,hSS⟩:∃ SS:Nat->Prop,SS=(fun b=>wa.heap.size<=b):=⟨_,rfl⟩
   have HSS:Hid (∀ b,SS b->w3.heap.size<=b/\(b≠xb)):=hid (fun b hb=>by rw [hSS] at hb;exact ⟨by have h:wa.heap.size<=b:=hb;omega,by have h:wa.heap.size<=b:=hb;omega⟩)
   have HPO:Hid (OwnT w5 SS p):=hid (by rw [hSS];exact hpo)
   clear hSS
   refine wpAnyH_ready (rs:=[5]) (by kernel_rfl) (by simp) ?_
   refine AllReadyH.cons rfl (fun KK hK=>?_) AllReadyH.nil
   go_simp
   (with_reducible refine (HTYP.out w5 p SS (fun b=>SS b\/w5.heap.size<=b) HPV.out HPO.out HG5.out (fun b hb=>.inl hb) (fun b hb=>.inr hb)).mono ?_)
   rintro e w7 ⟨y,code,rfl,hgood,hkp⟩
   have hsW:=HG5.out.size
   have hs7:=hkp.size
   have HG7:Hid (Below w3.heap.size w3 w7):=hid (HG5.out.trans (hkp.below hsW (fun b hb=>(HSS.out b hb).1)))
   try simp only [Lt.val]
   clear hHeld
   refine hK.out _ _ (HRW.out _ HG7.out) (fun hHeld=>?_)
   clear hK KK
   try simp only [Act.put,Go.setq]
   refine wpAnyH_take (i:=6) (v:=.tuple #[.agg #[.int .i64 y.v.k,.int .i64 y.v.lo,.int .i64 y.v.hi,.slice y.xd y.v.x.length y.xc,.slice y.td y.v.t.length y.tc,.slice y.fd y.v.f.length y.fc,.string y.v.n],.int .i64 code]) rfl (by kernel_rfl) (by kernel_rfl) (by kernel_rfl) (fun _ _ _ h=>h) (Or.inl ⟨by kernel_rfl,fun w' hSw=>?_⟩) (by assumption) ?_
   ·clear hHeld hSw;go_simp;try rfl
   try simp only [Act.put,Go.setq]
   refine wpAnyH_take (i:=7) (v:=.agg #[.int .i64 y.v.k,.int .i64 y.v.lo,.int .i64 y.v.hi,.slice y.xd y.v.x.length y.xc,.slice y.td y.v.t.length y.tc,.slice y.fd y.v.f.length y.fc,.string y.v.n]) rfl (by kernel_rfl) (by kernel_rfl) (by kernel_rfl) (fun _ _ _ h=>h) (Or.inl ⟨by kernel_rfl,fun w' hSw=>?_⟩) (by assumption) ?_
   ·clear hHeld hSw;go_simp;try rfl
   try simp only [Act.put,Go.setq]
   refine wpAnyH_take (i:=8) (v:=.int .i64 code) rfl (by kernel_rfl) (by kernel_rfl) (by kernel_rfl) (fun _ _ _ h=>h) (Or.inl ⟨by kernel_rfl,fun w' hSw=>?_⟩) (by assumption) ?_
   ·clear hHeld hSw;go_simp;try rfl
   try simp only [Act.put,Go.setq]
   have HCB:=hid ((hkp.block xb (by omega) (fun h=>(HSS.out xb h).2 rfl)).trans HCA5.out)
   have HYR:Hid (code=0->TypedR m.mv m.mv.p q.v y.v/\TyAt w7 (fun b=>w3.heap.size<=b/\b≠xb) y):=hid (fun h=>⟨(hgood h).1,(hgood h).2.weak (fun b hb hl=>⟨by rcases hb with hb|hb<;>first|exact (HSS.out b hb).1|omega,by rcases hb with hb|hb<;>first|exact (HSS.out b hb).2|omega⟩)⟩)
   clear hgood hkp
   refine wpAnyH_ready (rs:=[10]) (by kernel_rfl) (by simp) ?_
   refine AllReadyH.cons rfl (fun KK hK=>?_) AllReadyH.nil
   obtain ⟨W8,hW8,hr8,hg8⟩:=seven_all HCB.out (.int .i64 y.v.k) (.int .i64 y.v.lo) (.int .i64 y.v.hi) (.slice y.xd y.v.x.length y.xc) (.slice y.td y.v.t.length y.tc) (.slice y.fd y.v.f.length y.fc) (.string y.v.n)
   have hz0:=ty_cells HCB.out
   have z0:=hz0.1
   have z1:=hz0.2.1
   have z2:=hz0.2.2.1
   have z3:=hz0.2.2.2.1
   have z4:=hz0.2.2.2.2.1
   have z5:=hz0.2.2.2.2.2.1
   have z6:=hz0.2.2.2.2.2.2.1
   have zf0:=hz0.2.2.2.2.2.2.2 0
   have zf1:=hz0.2.2.2.2.2.2.2 1
   have zf2:=hz0.2.2.2.2.2.2.2 2
   have zf3:=hz0.2.2.2.2.2.2.2 3
   have zf4:=hz0.2.2.2.2.2.2.2 4
   have zf5:=hz0.2.2.2.2.2.2.2 5
   have zf6:=hz0.2.2.2.2.2.2.2 6
   have HW8:=hid hW8
   clear hz0 hW8
   go_simp
   rw [<-HW8.out]
   clear z0 z1 z2 z3 z4 z5 z6 zf0 zf1 zf2 zf3 zf4 zf5 zf6
   have HG8:Hid (Below w3.heap.size w3 W8):=hid (HG7.out.grown hg8 HG7.out.size (fun b e=>by have:=Option.some.inj e;omega))
   refine hK.out _ _ (HRW.out _ HG8.out) (fun hHeld2=>?_)
   clear hK KK
   try simp only [Act.put,Go.setq]
   refine wpAnyH_ready (rs:=[11]) (by kernel_rfl) (by simp) ?_
   refine AllReadyH.cons rfl (fun KK hK=>?_) AllReadyH.nil
   go_simp
   refine hK.out _ _ (HRW.out _ HG8.out) (fun hHeld3=>?_)
   clear hK KK
   try simp only [Act.put,Go.setq]
   refine wpAnyH_done (by kernel_rfl) ?_ _
   go_wp2_with fail
   go_meet
   exact ⟨xb,y,code,rfl,rfl,by omega,hid (fun h=>⟨(HYR.out h).1,(HYR.out h).2.grow hg8 (fun b e hb=>hb.2 (Option.some.inj e).symm)⟩),hid hr8,HG8,hid HG8.out.size⟩
 case rest =>
  obtain ⟨xb,y,code,rfl,rfl,hxb,HYR,HCX,HBC,HSX⟩:=hcut
  clear a0 a1 a2 a3 a4 a5 a6 b0 b1 b2 b3 b4 b5 b6 b7 b8 b9 HOWN HTYP
  have HRc:=hid (HR3.out.low HBC.out (by omega) HSX.out)
  clear HR3
  by_cases h0:code=0
  case neg =>
   have e3:(code==0)=false:=beq_eq_false_iff_ne.2 h0
   have e4:(code != 0)=true:=by simp [h0]
   obtain ⟨p0,p1,p2,p3,p4,p5,p6,pf⟩:=ty_cells HRc.out.res
   have pf0:=pf 0
   have pf1:=pf 1
   have pf2:=pf 2
   have pf3:=pf 3
   have pf4:=pf 4
   have pf5:=pf 5
   have pf6:=pf 6
   obtain ⟨W9,hW9,hr9,hg9⟩:=seven_all HRc.out.res (.int .i64 0) (.int .i64 0) (.int .i64 0) (.slice none 0 0) (.slice none 0 0) (.slice none 0 0) (.string ⟨#[]⟩)
   obtain ⟨q0,q1,q2,q3,q4,q5,q6,-⟩:=ty_cells hr9
   have HW9:=hid hW9
   have HPOST:Hid (STPost m.mv q.v w (.returned (.tuple #[.agg #[.int .i64 0,.int .i64 0,.int .i64 0,.slice none 0 0,.slice none 0 0,.slice none 0 0,.string ⟨#[]⟩],.int .i64 code])) W9):=hid ⟨⟨.zero,none,0,none,0,none,0⟩,code,rfl,fun h=>absurd h h0,HRc.out.k.grown hg9 (fun b e hb=>by have:=Option.some.inj e;omega) |>.below (Nat.le_refl _) (fun _ h=>h.elim)⟩
   clear hW9 hr9 hg9 pf
   go_wp2_with fail
   rw [<-HW9.out]
   exact bodyPost_ret (v:=.tuple #[.agg #[.int .i64 0,.int .i64 0,.int .i64 0,.slice none 0 0,.slice none 0 0,.slice none 0 0,.string ⟨#[]⟩],.int .i64 code]) (by simp [results,Tryz.results12,go_sem,q0,q1,q2,q3,q4,q5,q6]) rfl HPOST.out
  obtain rfl:code=0:=h0
  have e3:((0:Int)==0)=true:=rfl
  obtain ⟨g0,g1,g2,g3,g4,g5,g6,-⟩:=ty_cells HCX.out
  have hpl2:=plain_any y wc ((HYR.out (by first|rfl|trivial)).2.weak (fun _ _ _=>trivial)) (HT.out.keep HRc.out.below)
  unfold IntB Lt.val at hpl2
  obtain ⟨c3,hc3⟩:∃ c,fitsE y.v=c:=⟨_,rfl⟩
  rw [hc3] at hpl2
  have HC3:=hid hc3
  have HPL2:=hid hpl2
  clear hc3 hpl2
  go_wp2_with fail
  (with_reducible refine HPL2.out.mono ?_)
  rintro e w4 ⟨rfl,hb4⟩
  have HR4:=hid (HRc.out.keep hb4)
  have HY4:=hid ((HYR.out (by first|rfl|trivial)).2.keep hb4)
  have HCX4:=hid ((hb4.block _ (Array.getElem?_eq_some_iff.1 HCX.out).1).trans HCX.out)
  clear g0 g1 g2 g3 g4 g5 g6 hb4 HPL2
  by_cases h3:c3=0
  case neg =>
   have e4:(c3 != 0)=true:=by simp [h3]
   obtain ⟨p0,p1,p2,p3,p4,p5,p6,pf⟩:=ty_cells HR4.out.res
   have pf0:=pf 0
   have pf1:=pf 1
   have pf2:=pf 2
   have pf3:=pf 3
   have pf4:=pf 4
   have pf5:=pf 5
   have pf6:=pf 6
   obtain ⟨W9,hW9,hr9,hg9⟩:=seven_all HR4.out.res (.int .i64 0) (.int .i64 0) (.int .i64 0) (.slice none 0 0) (.slice none 0 0) (.slice none 0 0) (.string ⟨#[]⟩)
   obtain ⟨q0,q1,q2,q3,q4,q5,q6,-⟩:=ty_cells hr9
   have HW9:=hid hW9
   have HPOST:Hid (STPost m.mv q.v w (.returned (.tuple #[.agg #[.int .i64 0,.int .i64 0,.int .i64 0,.slice none 0 0,.slice none 0 0,.slice none 0 0,.string ⟨#[]⟩],.int .i64 c3])) W9):=hid ⟨⟨.zero,none,0,none,0,none,0⟩,c3,rfl,fun h=>absurd h h3,HR4.out.k.grown hg9 (fun b e hb=>by have:=Option.some.inj e;omega) |>.below (Nat.le_refl _) (fun _ h=>h.elim)⟩
   clear hW9 hr9 hg9 pf
   go_wp2_with fail
   rw [<-HW9.out]
   exact bodyPost_ret (v:=.tuple #[.agg #[.int .i64 0,.int .i64 0,.int .i64 0,.slice none 0 0,.slice none 0 0,.slice none 0 0,.string ⟨#[]⟩],.int .i64 c3]) (by simp [results,Tryz.results12,go_sem,q0,q1,q2,q3,q4,q5,q6]) rfl HPOST.out
  obtain rfl:c3=0:=h3
  have e4:((0:Int) != 0)=false:=rfl
  obtain ⟨g0,g1,g2,g3,g4,g5,g6,-⟩:=ty_cells HCX4.out
  obtain ⟨p0,p1,p2,p3,p4,p5,p6,pf⟩:=ty_cells HR4.out.res
  have pf0:=pf 0
  have pf1:=pf 1
  have pf2:=pf 2
  have pf3:=pf 3
  have pf4:=pf 4
  have pf5:=pf 5
  have pf6:=pf 6
  obtain ⟨W9,hW9,hr9,hg9⟩:=seven_all HR4.out.res (.int .i64 y.v.k) (.int .i64 y.v.lo) (.int .i64 y.v.hi) (.slice y.xd y.v.x.length y.xc) (.slice y.td y.v.t.length y.tc) (.slice y.fd y.v.f.length y.fc) (.string y.v.n)
  obtain ⟨q0,q1,q2,q3,q4,q5,q6,-⟩:=ty_cells hr9
  have HW9:=hid hW9
  have HPOST:Hid (STPost m.mv q.v w (.returned (.tuple #[.agg #[.int .i64 y.v.k,.int .i64 y.v.lo,.int .i64 y.v.hi,.slice y.xd y.v.x.length y.xc,.slice y.td y.v.t.length y.tc,.slice y.fd y.v.f.length y.fc,.string y.v.n],.int .i64 0])) W9):=hid ⟨y,0,rfl,fun _=>⟨⟨HC2.out,(HYR.out (by first|rfl|trivial)).1,HC3.out⟩,(HY4.out.grow hg9 (fun b e hb=>by have h1:=Option.some.inj e;have h2:=hb.1;omega)).weak (fun b hb _=>by have h2:=hb.1;omega)⟩,HR4.out.k.grown hg9 (fun b e hb=>by have:=Option.some.inj e;omega) |>.below (Nat.le_refl _) (fun _ h=>h.elim)⟩
  clear hW9 hr9 hg9 pf
  go_wp2_with fail
  rw [<-HW9.out]
  exact bodyPost_ret (v:=.tuple #[.agg #[.int .i64 y.v.k,.int .i64 y.v.lo,.int .i64 y.v.hi,.slice y.xd y.v.x.length y.xc,.slice y.td y.v.t.length y.tc,.slice y.fd y.v.f.length y.fc,.string y.v.n],.int .i64 0]) (by simp [results,Tryz.results12,go_sem,q0,q1,q2,q3,q4,q5,q6]) rfl HPOST.out
end Go.Proofs.YtgnonbdkmmkdgaaGreatDoor
