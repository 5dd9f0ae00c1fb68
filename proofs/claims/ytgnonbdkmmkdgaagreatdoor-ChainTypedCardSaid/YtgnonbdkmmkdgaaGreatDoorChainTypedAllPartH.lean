/-
  Lemmas for the statement: plain laws, and what functions answer; the conditions stand in each.
-/
import Derived.StillTailTactics
import Derived.Test.YtgnonbdkmmkdgaaGreatDoorChainTypedAllPartG
set_option linter.unusedVariables false
set_option linter.unusedSimpArgs false
set_option maxHeartbeats 16000000
set_option maxRecDepth 100000
open Go.Lib (hid)
namespace Go.Proofs.YtgnonbdkmmkdgaaGreatDoor
open Go.RowKit Gx
theorem becomeV_any (q:Loc) (k:Int) (z:V) (w:World) (B:Nat->Prop) (hz:becomeV q.v k=.ok z) (hq:VAt w B q) (hT:∀ W,Below w.heap.size w W->P10 W) :
 Calls Tryz.prog 88 #[q.val,.int .i64 k] w (BecVPost z B w):=by
 have hv:=v2_start w #[.int .i64 q.v.k,.int .i64 q.v.n,.int .u64 q.v.f,.string q.v.s,.slice q.ad q.v.l.length q.cap,.slice q.bd q.v.e.length q.dap]
 unfold Loc.val
 obtain ⟨nl,hnl⟩:∃ m,q.v.l.length=m:=⟨_,rfl⟩
 obtain ⟨ne,hne⟩:∃ m,q.v.e.length=m:=⟨_,rfl⟩
 rw [hnl,hne] at hv ⊢
 have HNL:=hid hnl
 have HNE:=hid hne
 have HQ:=hid hq
 have HT:=hid hT
 have hways:=becomeV_ways hz
 clear hnl hne hq hT hz
 go_enter Tryz.func88,Tryz.ntmps88
 go_upto_region 1 with fail
 generalize World.alloc (World.alloc w _) _=w1 at hv ⊢
 have HV:=hid hv
 clear hv
 rcases hways with ⟨rfl,hk,hz⟩|⟨rfl,hk,hr,hz⟩|⟨rfl,hz⟩|⟨k4,k5,k6,hk,hl⟩
 ·have e2:(q.v.k != 2)=false:=by simp [hk]
  have HZ:=hid hz
  clear hk hz
  obtain ⟨a0,a1,a2,a3,a4,a5,-⟩:=six_cells HV.out.bx
  obtain ⟨p0,p1,p2,p3,p4,p5,pf⟩:=six_cells HV.out.res
  have pf0:=pf 0
  have pf1:=pf 1
  have pf2:=pf 2
  have pf3:=pf 3
  have pf4:=pf 4
  have pf5:=pf 5
  have HC:=hid (numText_any q.v.n w1 HQ.out.wf.n0 HQ.out.wf.n1 (HT.out _ HV.out.g))
  have HLEN:Hid (((⟨(Lib.itoa q.v.n).toArray⟩:ByteArray)).size<=140737488351232):=hid (by
   have:=(itoa_bound q.v.n HQ.out.wf.n0 HQ.out.wf.n1).2
   show (Lib.itoa q.v.n).toArray.size<=_
   rw [List.size_toArray];omega)
  generalize (⟨(Lib.itoa q.v.n).toArray⟩:ByteArray)=s at HC HLEN HZ
  go_wp2_with fail
  (with_reducible refine HC.out.mono ?_)
  rintro e w2 ⟨rfl,hb2⟩
  have HV2:=hid (HV.out.keep hb2)
  clear a0 a1 a2 a3 a4 a5 p0 p1 p2 p3 p4 p5 pf pf0 pf1 pf2 pf3 pf4 pf5 HC HV hb2
  have HV:=HV2
  clear HV2
  obtain ⟨a0,a1,a2,a3,a4,a5,-⟩:=six_cells HV.out.bx
  obtain ⟨p0,p1,p2,p3,p4,p5,pf⟩:=six_cells HV.out.res
  have pf0:=pf 0
  have pf1:=pf 1
  have pf2:=pf 2
  have pf3:=pf 3
  have pf4:=pf 4
  have pf5:=pf 5
  obtain ⟨W9,hW9,hr9,hg9⟩:=val_all HV.out.res (.int .i64 4) (.int .i64 0) (.int .u64 0) (.string s) (.slice none 0 0) (.slice none 0 0)
  obtain ⟨q0,q1,q2,q3,q4,q5,-⟩:=six_cells hr9
  have HW9:=hid hW9
  have HPOST:Hid (BecVPost z B w (.returned (.tuple #[.agg #[.int .i64 4,.int .i64 0,.int .u64 0,.string s,.slice none 0 0,.slice none 0 0],.int .i64 0])) W9):=hid (by
   exact ⟨⟨mvText s,none,0,none,0⟩,rfl,HZ.out.symm,⟨wfText s HLEN.out,.nil _ _ _,.nil _ _ _⟩,HV.out.g.grown hg9 (by have:=HV.out.vlt;omega) (fun b e=>by have:=Option.some.inj e;omega)⟩)
  clear hW9 hr9 hg9
  go_wp2_with fail
  rw [<-HW9.out]
  exact bodyPost_ret (v:=.tuple #[.agg #[.int .i64 4,.int .i64 0,.int .u64 0,.string s,.slice none 0 0,.slice none 0 0],.int .i64 0]) (by simp [results,Tryz.results88,go_sem,q0,q1,q2,q3,q4,q5]) rfl HPOST.out
 ·have e2:(q.v.k != 4)=false:=by simp [hk]
  have HZ:=hid hz
  have HR:=hid hr
  clear hk hz hr
  obtain ⟨a0,a1,a2,a3,a4,a5,-⟩:=six_cells HV.out.bx
  obtain ⟨p0,p1,p2,p3,p4,p5,pf⟩:=six_cells HV.out.res
  have pf0:=pf 0
  have pf1:=pf 1
  have pf2:=pf 2
  have pf3:=pf 3
  have pf4:=pf 4
  have pf5:=pf 5
  have HC:=hid (read_any q.v.s w1)
  unfold ReadPost at HC
  have HIN:=hid (readOf_in q.v.s.data.toList)
  rw [HR.out] at HC
  generalize (readOf q.v.s.data.toList).1=n at HC HZ HIN
  go_wp2_with fail
  (with_reducible refine HC.out.mono ?_)
  rintro e w2 ⟨rfl,hb2⟩
  have HV2:=hid (HV.out.keep hb2)
  clear a0 a1 a2 a3 a4 a5 p0 p1 p2 p3 p4 p5 pf pf0 pf1 pf2 pf3 pf4 pf5 HC HV hb2 HR
  have HV:=HV2
  clear HV2
  obtain ⟨a0,a1,a2,a3,a4,a5,-⟩:=six_cells HV.out.bx
  obtain ⟨p0,p1,p2,p3,p4,p5,pf⟩:=six_cells HV.out.res
  have pf0:=pf 0
  have pf1:=pf 1
  have pf2:=pf 2
  have pf3:=pf 3
  have pf4:=pf 4
  have pf5:=pf 5
  obtain ⟨W9,hW9,hr9,hg9⟩:=val_all HV.out.res (.int .i64 2) (.int .i64 n) (.int .u64 0) (.string ⟨#[]⟩) (.slice none 0 0) (.slice none 0 0)
  obtain ⟨q0,q1,q2,q3,q4,q5,-⟩:=six_cells hr9
  have HW9:=hid hW9
  have HPOST:Hid (BecVPost z B w (.returned (.tuple #[.agg #[.int .i64 2,.int .i64 n,.int .u64 0,.string ⟨#[]⟩,.slice none 0 0,.slice none 0 0],.int .i64 0])) W9):=hid (by
   exact ⟨⟨intOfN n,none,0,none,0⟩,rfl,HZ.out.symm,⟨wfInt n HIN.out.1 HIN.out.2,.nil _ _ _,.nil _ _ _⟩,HV.out.g.grown hg9 (by have:=HV.out.vlt;omega) (fun b e=>by have:=Option.some.inj e;omega)⟩)
  clear hW9 hr9 hg9
  go_wp2_with fail
  rw [<-HW9.out]
  exact bodyPost_ret (v:=.tuple #[.agg #[.int .i64 2,.int .i64 n,.int .u64 0,.string ⟨#[]⟩,.slice none 0 0,.slice none 0 0],.int .i64 0]) (by simp [results,Tryz.results88,go_sem,q0,q1,q2,q3,q4,q5]) rfl HPOST.out
 ·have HZ:=hid hz
  clear hz
  obtain ⟨a0,a1,a2,a3,a4,a5,-⟩:=six_cells HV.out.bx
  obtain ⟨p0,p1,p2,p3,p4,p5,pf⟩:=six_cells HV.out.res
  have pf0:=pf 0
  have pf1:=pf 1
  have pf2:=pf 2
  have pf3:=pf 3
  have pf4:=pf 4
  have pf5:=pf 5
  have hv2:=HV.out.grow (World.grownBy_alloc w1 (.cells #[.int .i64 q.v.k,.int .i64 q.v.n,.int .u64 q.v.f,.string q.v.s,.slice q.ad nl q.cap,.slice q.bd ne q.dap] 32) none) (fun b e=>absurd e (by simp))
  have hn2:=heap_alloc_new w1 (.cells #[.int .i64 q.v.k,.int .i64 q.v.n,.int .u64 q.v.f,.string q.v.s,.slice q.ad nl q.cap,.slice q.bd ne q.dap] 32)
  have HQ2:=hid (((HQ.out.weak (C:=fun b=>B b/\b<w.heap.size) (fun b h1 h2=>⟨h1,h2⟩)).keep HV.out.g).keep ((Below.refl w1.heap.size w1).alloc (Nat.le_refl _) (.cells #[.int .i64 q.v.k,.int .i64 q.v.n,.int .u64 q.v.f,.string q.v.s,.slice q.ad nl q.cap,.slice q.bd ne q.dap] 32)))
  have HVL:=hid HV.out.vlt
  have HV2:=hid hv2
  have HN2:=hid hn2
  have HNLT:Hid (w1.heap.size<(w1.alloc (.cells #[.int .i64 q.v.k,.int .i64 q.v.n,.int .u64 q.v.f,.string q.v.s,.slice q.ad nl q.cap,.slice q.bd ne q.dap] 32)).heap.size):=hid (by simp)
  clear pf pf0 pf1 pf2 pf3 pf4 pf5 p0 p1 p2 p3 p4 p5 hv2 hn2
  go_upto_region 12 with fail
  obtain ⟨p0,p1,p2,p3,p4,p5,pf⟩:=six_cells HV2.out.res
  have pf0:=pf 0
  have pf1:=pf 1
  have pf2:=pf 2
  have pf3:=pf 3
  have pf4:=pf 4
  have pf5:=pf 5
  have HV:=HV2
  obtain ⟨W9,hW9,hr9,hg9⟩:=val_all HV.out.res (.int .i64 5) (.int .i64 0) (.int .u64 0) (.string ⟨#[]⟩) (.slice (some ⟨w1.heap.size,0,none⟩) 1 1) (.slice none 0 0)
  obtain ⟨q0,q1,q2,q3,q4,q5,-⟩:=six_cells hr9
  have HW9:=hid hW9
  have HPOST:Hid (BecVPost z B w (.returned (.tuple #[.agg #[.int .i64 5,.int .i64 0,.int .u64 0,.string ⟨#[]⟩,.slice (some ⟨w1.heap.size,0,none⟩) 1 1,.slice none 0 0],.int .i64 0])) W9):=hid (by
   exact ⟨⟨listOf [q.v],some ⟨w1.heap.size,0,none⟩,1,none,0⟩,rfl,HZ.out.symm,⟨wfList _,((RowAt.one (B:=fun b=>(B b/\b<w.heap.size)\/w.heap.size+1<b) (HQ2.out.weak (fun b hb _=>.inl hb)) (by rw [HNL.out,HNE.out];exact HN2.out) (.inr HVL.out)).grow hg9 (fun b e hb=>by have:=Option.some.inj e;rcases hb with hb|hb<;>omega)).weak (fun b hb _=>by rcases hb with hb|hb;exact .inl hb.1;exact .inr (by omega)),.nil _ _ _⟩,HV.out.g.grown hg9 (by have:=HV.out.vlt;omega) (fun b e=>by have:=Option.some.inj e;omega)⟩)
  clear hW9 hr9 hg9
  go_wp2_with fail
  rw [<-HW9.out]
  exact bodyPost_ret (v:=.tuple #[.agg #[.int .i64 5,.int .i64 0,.int .u64 0,.string ⟨#[]⟩,.slice (some ⟨w1.heap.size,0,none⟩) 1 1,.slice none 0 0],.int .i64 0]) (by simp [results,Tryz.results88,go_sem,q0,q1,q2,q3,q4,q5]) rfl HPOST.out
 ·have e4:(k==4)=false:=beq_eq_false_iff_ne.2 k4
  have e5:(k==5)=false:=beq_eq_false_iff_ne.2 k5
  have e6:(k==6)=false:=beq_eq_false_iff_ne.2 k6
  have e2:(q.v.k != 5)=false:=by simp [hk]
  obtain rfl:nl=1:=by rw [<-HNL.out,hl];rfl
  obtain ⟨tb,t0,htd,-,htl,hts⟩:=HQ.out.l.elem (by rw [hl];exact Nat.one_pos)
  obtain ⟨qy,hqy,hya,hqc⟩:=hts 0 z (by rw [hl];rfl)
  rw [Nat.zero_mul,Nat.add_zero] at hqc
  obtain ⟨y0,y1,y2,y3,y4,y5⟩:=hqc.through (HV.out.g.block _ htl)
  obtain ⟨ml,hml⟩:∃ m,qy.v.l.length=m:=⟨_,rfl⟩
  obtain ⟨me,hme⟩:∃ m,qy.v.e.length=m:=⟨_,rfl⟩
  rw [hml] at y4
  rw [hme] at y5
  have HML:=hid hml
  have HME:=hid hme
  have HQY:=hid hqy
  have HYA:=hid ((hya.weak (C:=fun b=>B b/\b<w.heap.size) (fun b h1 h2=>⟨h1,h2⟩)).keep HV.out.g)
  clear hl htl hts hqy hya hqc hml hme hk k4 k5 k6
  obtain ⟨a0,a1,a2,a3,a4,a5,-⟩:=six_cells HV.out.bx
  obtain ⟨p0,p1,p2,p3,p4,p5,pf⟩:=six_cells HV.out.res
  have pf0:=pf 0
  have pf1:=pf 1
  have pf2:=pf 2
  have pf3:=pf 3
  have pf4:=pf 4
  have pf5:=pf 5
  rw [htd] at a4
  have r1:(0:Int)<((1:Nat):Int):=by decide
  obtain ⟨W9,hW9,hr9,hg9⟩:=val_all HV.out.res (.int .i64 qy.v.k) (.int .i64 qy.v.n) (.int .u64 qy.v.f) (.string qy.v.s) (.slice qy.ad ml qy.cap) (.slice qy.bd me qy.dap)
  obtain ⟨q0,q1,q2,q3,q4,q5,-⟩:=six_cells hr9
  have HW9:=hid hW9
  have HPOST:Hid (BecVPost z B w (.returned (.tuple #[.agg #[.int .i64 qy.v.k,.int .i64 qy.v.n,.int .u64 qy.v.f,.string qy.v.s,.slice qy.ad ml qy.cap,.slice qy.bd me qy.dap],.int .i64 0])) W9):=hid (by
   exact ⟨qy,by unfold Loc.val;rw [HML.out,HME.out],HQY.out,(HYA.out.grow hg9 (fun b e hb=>by have:=Option.some.inj e;have:=hb.2;omega)).weak (fun b hb _=>.inl hb.1),HV.out.g.grown hg9 (by have:=HV.out.vlt;omega) (fun b e=>by have:=Option.some.inj e;omega)⟩)
  clear hW9 hr9 hg9
  go_wp2_with fail
  rw [<-HW9.out]
  exact bodyPost_ret (v:=.tuple #[.agg #[.int .i64 qy.v.k,.int .i64 qy.v.n,.int .u64 qy.v.f,.string qy.v.s,.slice qy.ad ml qy.cap,.slice qy.bd me qy.dap],.int .i64 0]) (by simp [results,Tryz.results88,go_sem,q0,q1,q2,q3,q4,q5]) rfl HPOST.out
structure V3 (w:World) (m:Lm) (X:Array Value) (W:World):Prop where
 v:V2 w (w.heap.size+2) X W
 bm:W.heap[w.heap.size+1]?=some (.cells #[.int .i64 m.k,.slice m.pd m.p.length m.pc,.string m.key,.string m.dst,.int .i64 m.q.v.k,.int .i64 m.q.v.n,.int .u64 m.q.v.f,.string m.q.v.s,.slice m.q.ad m.q.v.l.length m.q.cap,.slice m.q.bd m.q.v.e.length m.q.dap] 55)
namespace V3
variable {w W W':World} {m:Lm} {X:Array Value}
theorem grow (h:V3 w m X W) {row:Option Nat} (hg:W.grownBy W' row) (hr:∀ b,row=some b->w.heap.size+2<b):V3 w m X W' :=
 ⟨h.v.grow hg hr,(hg.block _ (Array.getElem?_eq_some_iff.1 h.bm).1 (fun e=>by have:=hr _ e.symm;omega)).trans h.bm⟩
theorem keep (h:V3 w m X W) (hb:Below W.heap.size W W'):V3 w m X W':=h.grow (grown_none hb) (fun _ e=>absurd e (by simp))
theorem setX (h:V3 w m X W) {X':Array Value} (hx:W'.heap[w.heap.size]?=some (.cells X' 32)) (hg:W.grownBy W' (some w.heap.size)):V3 w m X' W' :=
 ⟨h.v.setX hx hg,(hg.block _ (Array.getElem?_eq_some_iff.1 h.bm).1 (fun e=>by have:=Option.some.inj e;omega)).trans h.bm⟩
theorem start (w:World) (m:Lm) (X:Array Value):V3 w m X (((w.alloc (.cells X 32)).alloc (.cells #[.int .i64 m.k,.slice m.pd m.p.length m.pc,.string m.key,.string m.dst,.int .i64 m.q.v.k,.int .i64 m.q.v.n,.int .u64 m.q.v.f,.string m.q.v.s,.slice m.q.ad m.q.v.l.length m.q.cap,.slice m.q.bd m.q.v.e.length m.q.dap] 55)).alloc (.cells #[.int .i64 0,.int .i64 0,.int .u64 0,.string ⟨#[]⟩,.slice none 0 0,.slice none 0 0] 32)):=by
 refine ⟨⟨?_,?_,(((Below.refl _ w).alloc (Nat.le_refl _) _).alloc (by simp) _).alloc (by simp;omega) _,by omega⟩,?_⟩
 ·rw [Below.heap_alloc _ _ _ (by simp;omega),Below.heap_alloc _ _ _ (by simp)]
  exact heap_alloc_new w _
 ·have:=heap_alloc_new ((w.alloc (.cells X 32)).alloc (.cells #[.int .i64 m.k,.slice m.pd m.p.length m.pc,.string m.key,.string m.dst,.int .i64 m.q.v.k,.int .i64 m.q.v.n,.int .u64 m.q.v.f,.string m.q.v.s,.slice m.q.ad m.q.v.l.length m.q.cap,.slice m.q.bd m.q.v.e.length m.q.dap] 55)) (.cells #[.int .i64 0,.int .i64 0,.int .u64 0,.string ⟨#[]⟩,.slice none 0 0,.slice none 0 0] 32)
  rwa [World.size_alloc,World.size_alloc] at this
 ·rw [Below.heap_alloc _ _ _ (by simp)]
  have:=heap_alloc_new (w.alloc (.cells X 32)) (.cells #[.int .i64 m.k,.slice m.pd m.p.length m.pc,.string m.key,.string m.dst,.int .i64 m.q.v.k,.int .i64 m.q.v.n,.int .u64 m.q.v.f,.string m.q.v.s,.slice m.q.ad m.q.v.l.length m.q.cap,.slice m.q.bd m.q.v.e.length m.q.dap] 55)
  rwa [World.size_alloc] at this
end V3
theorem tableM_ways {m:Mv} {v z:V} (h:tableM m v=.ok z):(m.k=3/\¬ fidx m.key v.e<v.e.length/\z=setE v (putL v.e m.key m.v))\/(fidx m.key v.e<v.e.length/\m.k≠3 /\
 ((m.k=1/\¬ (m.dst≠m.key/\fidx m.dst v.e<v.e.length)/\z=setE v (putL (dropL v.e m.key) m.dst (entAt v.e m.key)))\/(m.k=2/\z=setE v (dropL v.e m.key))\/(m.k≠1/\m.k≠2/\∃ y,becomeV (entAt v.e m.key) m.k=.ok y/\z=setE v (putL v.e m.key y)))):=by
 unfold tableM at h
 split at h
 ·rename_i h3
  split at h
  ·cases h
  ·rename_i h1;exact .inl ⟨h3,h1,(Except.ok.inj h).symm⟩
 rename_i h3
 split at h
 ·rename_i h1
  refine .inr ⟨h1,h3,?_⟩
  split at h
  ·rename_i k1
   split at h
   ·cases h
   ·rename_i h4;exact .inl ⟨k1,h4,(Except.ok.inj h).symm⟩
  rename_i k1
  split at h
  ·rename_i k2;exact .inr (.inl ⟨k2,(Except.ok.inj h).symm⟩)
  rename_i k2
  split at h
  ·rename_i y hy;exact .inr (.inr ⟨k1,k2,y,hy,(Except.ok.inj h).symm⟩)
  ·cases h
 ·cases h
end Go.Proofs.YtgnonbdkmmkdgaaGreatDoor
namespace Go.Proofs.YtgnonbdkmmkdgaaGreatDoor
open Go.RowKit Gx
theorem entAt_of {e:List (ByteArray×V)} {s:ByteArray} {x:ByteArray×V} (h:e[fidx s e]?=some x):entAt e s=x.2:=by
 unfold entAt
 rw [List.getD_eq_getElem?_getD,h];rfl
theorem tableV_any (q:Loc) (m:Lm) (z:V) (w:World) (hz:tableM m.mv q.v=.ok z) (B:Nat->Prop) (hqB:VAt w B q) (hm:MvAt w (fun _=>True) m) (hn:q.v.e.length<=1000) (hT:∀ W,Below w.heap.size w W->P10 W) :
 Calls Tryz.prog 62 #[q.val,m.val] w (BecVPost z B w):=by
 have hq:VAt w (fun _=>True) q:=hqB.weak (fun _ _ _=>trivial)
 have hv:=V3.start w m #[.int .i64 q.v.k,.int .i64 q.v.n,.int .u64 q.v.f,.string q.v.s,.slice q.ad q.v.l.length q.cap,.slice q.bd q.v.e.length q.dap]
 unfold Loc.val Lm.val
 obtain ⟨nl,hnl⟩:∃ m,q.v.l.length=m:=⟨_,rfl⟩
 obtain ⟨ne,hne⟩:∃ m,q.v.e.length=m:=⟨_,rfl⟩
 obtain ⟨qb,hqb⟩:∃ m,q.bd=m:=⟨_,rfl⟩
 have hways:=tableM_ways hz
 have hlow:RowAt w (fun b=>B b/\b<w.heap.size) false (lp q.v.l) (.slice q.ad q.v.l.length q.cap):=hqB.l.through (Nat.le_refl _) (fun _ _ _=>rfl) (fun b h1 h2=>⟨h1,h2⟩)
 rw [hnl,hne,hqb] at hv ⊢
 rw [hnl] at hlow
 rw [hne] at hn
 have HNL:=hid hnl
 have HNE:=hid hne
 have HQB:=hid hqb
 have HQ:=hid hq
 have HM:=hid hm
 have HT:=hid hT
 have HLOW:=hid hlow
 have HWAYS:=hid hways
 have hs1:=hm.s1
 have hs2:=hm.s2
 have HS1:=hid hs1
 have HS2:=hid hs2
 clear hnl hne hqb hq hqB hm hT hz hways hlow hs1 hs2
 go_enter Tryz.func62,Tryz.ntmps62
 go_upto_region 1 with fail
 generalize World.alloc (World.alloc (World.alloc w _) _) _=w1 at hv ⊢
 have HV:=hid hv
 clear hv
 obtain ⟨a0,a1,a2,a3,a4,a5,-⟩:=six_cells HV.out.v.bx
 obtain ⟨b0,b1,b2,b3,b4,b5,b6,b7,b8,b9⟩:=ten_cells HV.out.bm
 have hfi:=find_any q.bd q.dap q.v.e m.key w1 (HQ.out.e.keep HV.out.v.g)
 unfold IdxPostE at hfi
 rw [HNE.out,HQB.out] at hfi
 have HFI:=hid hfi
 clear hfi
 go_wp2_with fail
 (with_reducible refine HFI.out.mono ?_)
 rintro e w2 ⟨rfl,hb2⟩
 have HV2:=hid (HV.out.keep hb2)
 clear a0 a1 a2 a3 a4 a5 b0 b1 b2 b3 b4 b5 b6 b7 b8 b9 hb2 HV HFI
 obtain ⟨a0,a1,a2,a3,a4,a5,-⟩:=six_cells HV2.out.v.bx
 obtain ⟨b0,b1,b2,b3,b4,b5,b6,b7,b8,b9⟩:=ten_cells HV2.out.bm
 rcases HWAYS.out with ⟨m3,hin,hz⟩|⟨hin,m3,hz⟩
 ·have HZ:=hid hz
  have e3:(m.k==3)=true:=beq_iff_eq.2 m3
  rw [if_neg (by rw [<-HNE.out];exact hin)]
  have hput:=put_any q.bd q.dap ne q.v.e m.key m.q w2 (by rw [<-HNE.out];exact HQ.out.e.keep HV2.out.v.g) HNE.out (by omega) (HM.out.v.keep HV2.out.v.g) HS1.out
  unfold PutVPost Loc.val at hput
  rw [HQB.out] at hput
  have HPUT:=hid hput
  clear hput hin hz m3 HWAYS
  go_wp2_with fail
  (with_reducible refine HPUT.out.mono ?_)
  rintro e w5 ⟨vo,vc,n5,rfl,hlen,hrow,hb5⟩
  have HV5:=hid (HV2.out.keep hb5)
  have HLEN:Hid ((putL q.v.e m.mv.key m.mv.v).length=n5):=hid hlen
  have HROW:=hid (hrow.weak (C:=fun b=>w.heap.size+2<b) (fun b hb _=>by have:=HV2.out.v.vlt;omega))
  have HQL:=hid (HLOW.out.keep HV5.out.v.g)
  clear hlen hrow hb5 a0 a1 a2 a3 a4 a5 b0 b1 b2 b3 b4 b5 b6 b7 b8 b9 HV2 HPUT
  obtain ⟨a0,a1,a2,a3,a4,a5,af⟩:=six_cells HV5.out.v.bx
  have af5:=af 5
  have gx:=grown_cell w5 w.heap.size 5 (.slice vo n5 vc)
  have hv6:=HV5.out.setX (vone_store HV5.out.v.bx 5 (.slice vo n5 vc)) gx
  have hr6:=HROW.out.grow gx (fun b e hb=>by have:=Option.some.inj e;omega)
  have hl6:=HQL.out.grow gx (fun b e hb=>by have:=Option.some.inj e;have:=hb.2;omega)
  have H6:=hid hv6
  have HR6:=hid hr6
  have HL6:=hid hl6
  clear gx hv6 hr6 hl6 af HROW
  go_upto_region 6 with fail
  generalize World.setCell w5 _ _=w6 at H6 HR6 HL6 ⊢
  clear a0 a1 a2 a3 a4 a5 af5 HV5
  obtain ⟨a0,a1,a2,a3,a4,a5,-⟩:=six_cells H6.out.v.bx
  obtain ⟨p0,p1,p2,p3,p4,p5,pf⟩:=six_cells H6.out.v.res
  have pf0:=pf 0
  have pf1:=pf 1
  have pf2:=pf 2
  have pf3:=pf 3
  have pf4:=pf 4
  have pf5:=pf 5
  obtain ⟨W9,hW9,hr9,hg9⟩:=val_all H6.out.v.res (.int .i64 q.v.k) (.int .i64 q.v.n) (.int .u64 q.v.f) (.string q.v.s) (.slice q.ad nl q.cap) (.slice vo n5 vc)
  obtain ⟨q0,q1,q2,q3,q4,q5,-⟩:=six_cells hr9
  have HW9:=hid hW9
  have HPOST:Hid (BecVPost z B w (.returned (.tuple #[.agg #[.int .i64 q.v.k,.int .i64 q.v.n,.int .u64 q.v.f,.string q.v.s,.slice q.ad nl q.cap,.slice vo n5 vc],.int .i64 0])) W9):=hid (by
   refine ⟨⟨setE q.v (putL q.v.e m.mv.key m.mv.v),q.ad,q.cap,vo,vc⟩,?_,HZ.out.symm,⟨?_,?_,?_⟩,H6.out.v.g.grown hg9 (by have:=H6.out.v.vlt;omega) (fun b e=>by have:=Option.some.inj e;omega)⟩
   ·unfold Loc.val
    rw [show (setE q.v (putL q.v.e m.mv.key m.mv.v)).l.length=nl from HNL.out,show (setE q.v (putL q.v.e m.mv.key m.mv.v)).e.length=n5 from HLEN.out]
    rfl
   ·exact ⟨HQ.out.wf.k0,HQ.out.wf.k1,HQ.out.wf.n0,HQ.out.wf.n1,HQ.out.wf.f0,HQ.out.wf.f1,HQ.out.wf.s1⟩
   ·show RowAt W9 _ false (lp q.v.l) (.slice q.ad q.v.l.length q.cap)
    rw [HNL.out]
    exact (HL6.out.grow hg9 (fun b e hb=>by have:=Option.some.inj e;have:=hb.2;omega)).weak (fun b hb _=>.inl hb.1)
   ·show RowAt W9 _ true (putL q.v.e m.mv.key m.mv.v) (.slice vo ((putL q.v.e m.mv.key m.mv.v)).length vc)
    rw [HLEN.out]
    exact (HR6.out.grow hg9 (fun b e hb=>by have:=Option.some.inj e;omega)).weak (fun b hb _=>.inr (by omega)))
  clear hW9 hr9 hg9 pf
  go_wp2_with fail
  rw [<-HW9.out]
  exact bodyPost_ret (v:=.tuple #[.agg #[.int .i64 q.v.k,.int .i64 q.v.n,.int .u64 q.v.f,.string q.v.s,.slice q.ad nl q.cap,.slice vo n5 vc],.int .i64 0]) (by simp [results,Tryz.results62,go_sem,q0,q1,q2,q3,q4,q5]) rfl HPOST.out
 ·have e3:(m.k==3)=false:=beq_eq_false_iff_ne.2 m3
  have hin':fidx m.key q.v.e<q.v.e.length:=hin
  rw [if_pos (by rw [<-HNE.out];exact hin')]
  obtain ⟨x0,hx0⟩:∃ x,q.v.e[fidx m.key q.v.e]?=some x:=⟨_,List.getElem?_eq_getElem hin'⟩
  obtain ⟨b1',o1,hd1,-,hbl1,hcs1⟩:=HQ.out.e.entry (by omega)
  obtain rfl:qb=some ⟨b1',o1,none⟩:=by rw [<-HQB.out];exact hd1
  obtain ⟨-,-,p1,hp1,hpa1,hpc1⟩:=hcs1 _ x0 hx0
  have HPV:Hid (p1.v=entAt q.v.e m.key):=hid (by rw [hp1,entAt_of hx0])
  rw [HNE.out] at hin'
  obtain ⟨ii,hii⟩:∃ ii,fidx m.key q.v.e=ii:=⟨_,rfl⟩
  rw [hii] at hin' hpc1 ⊢
  have HII:=hid hii
  obtain ⟨d0,d1,d2,d3,d4,d5⟩:=(hpc1.through (HV2.out.v.g.block _ hbl1)).seven
  have r1:(0:Int)<=(ii:Int):=by omega
  have r2:(ii:Int)<(ne:Int):=by omega
  have r4:(ii:Int).toNat=ii:=rfl
  have hba:=(Below.refl w2.heap.size w2).alloc (Nat.le_refl _) (.cells #[.int .i64 p1.v.k,.int .i64 p1.v.n,.int .u64 p1.v.f,.string p1.v.s,.slice p1.ad p1.v.l.length p1.cap,.slice p1.bd p1.v.e.length p1.dap] 32)
  have hcb:=heap_alloc_new w2 (.cells #[.int .i64 p1.v.k,.int .i64 p1.v.n,.int .u64 p1.v.f,.string p1.v.s,.slice p1.ad p1.v.l.length p1.cap,.slice p1.bd p1.v.e.length p1.dap] 32)
  have HV3:=hid (HV2.out.keep hba)
  have HPA:=hid (((hpa1.weak (C:=fun b=>b<w.heap.size) (fun b _ h=>h)).keep HV2.out.v.g).keep hba)
  have hxl:w.heap.size+2<w2.heap.size:=HV2.out.v.vlt
  clear hcs1 hx0 hp1 hpa1 hpc1 hba hin hd1 hii m3
  go_upto_region 10 with fail
  clear d0 d1 d2 d3 d4 d5 a0 a1 a2 a3 a4 a5 b0 b1 b2 b3 b4 b5 b6 b7 b8 b9
  generalize World.alloc w2 _=w3 at HV3 HPA hcb ⊢
  obtain ⟨xb,hxb⟩:∃ xb,w2.heap.size=xb:=⟨_,rfl⟩
  rw [hxb] at hcb hxl ⊢
  have HCB:=hid hcb
  clear hxb hcb HV2
  obtain ⟨a0,a1,a2,a3,a4,a5,-⟩:=six_cells HV3.out.v.bx
  obtain ⟨b0,b1,b2,b3,b4,b5,b6,b7,b8,b9⟩:=ten_cells HV3.out.bm
  obtain ⟨c0,c1,c2,c3,c4,c5,cf⟩:=six_cells HCB.out
  rcases hz with ⟨k1,hno,hz⟩|⟨k2,hz⟩|⟨k1,k2,y,hy,hz⟩
  ·have HZ:=hid hz
   have e1:(m.k==1)=true:=beq_iff_eq.2 k1
   have hno':m.dst≠m.key->¬ fidx m.dst q.v.e<ne:=fun h1 h2=>hno ⟨h1,by rw [<-HNE.out] at h2;exact h2⟩
   have HNO:=hid hno'
   clear k1 hz hno hno'
   go_upto_region 12 with fail
   go_cut [62] (fun v62 wx=>v62=.bool false/\Hid (V3 w m #[.int .i64 q.v.k,.int .i64 q.v.n,.int .u64 q.v.f,.string q.v.s,.slice q.ad nl q.cap,.slice (some ⟨b1',o1,none⟩) ne q.dap] wx)/\Hid (wx.heap[xb]?=some (.cells #[.int .i64 p1.v.k,.int .i64 p1.v.n,.int .u64 p1.v.f,.string p1.v.s,.slice p1.ad p1.v.l.length p1.cap,.slice p1.bd p1.v.e.length p1.dap] 32))/\Hid (VAt wx (fun b=>b<w.heap.size) p1))
   case first =>
    by_cases hd:m.dst=m.key
    ·have h1:(m.dst.toList==m.key.toList)=true:=by rw [hd];simp
     have h2:(m.dst.toList != m.key.toList)=false:=by rw [hd];simp
     clear hd
     go_wp2_with fail
     go_meet
     exact ⟨rfl,HV3,HCB,HPA⟩
    ·have h1:(m.dst.toList==m.key.toList)=false:=by rw [name_eq];exact decide_eq_false hd
     have h2:(m.dst.toList != m.key.toList)=true:=by unfold bne;rw [h1];rfl
     have hfi:=find_any q.bd q.dap q.v.e m.dst w3 (HQ.out.e.keep HV3.out.v.g)
     unfold IdxPostE at hfi
     rw [HNE.out,HQB.out,if_neg (HNO.out hd)] at hfi
     have HFI:=hid hfi
     clear hfi hd
     go_wp2_with fail
     (with_reducible refine HFI.out.mono ?_)
     rintro e w4 ⟨rfl,hb4⟩
     have HV4:=hid (HV3.out.keep hb4)
     have HCB4:=hid ((hb4.block _ (Array.getElem?_eq_some_iff.1 HCB.out).1).trans HCB.out)
     have HPA4:=hid (HPA.out.keep hb4)
     clear hb4
     go_wp2_with fail
     go_meet
     exact ⟨rfl,HV4,HCB4,HPA4⟩
   case rest =>
    obtain ⟨rfl,HVc,HCc,HPc⟩:=hcut
    clear HV3 HCB HPA a0 a1 a2 a3 a4 a5 b0 b1 b2 b3 b4 b5 b6 b7 b8 b9 c0 c1 c2 c3 c4 c5 cf
    obtain ⟨vb,hvb⟩:∃ vb,wc.heap.size=vb+1:=⟨wc.heap.size - 1,by have:=HVc.out.v.vlt;omega⟩
    have hdrop:=drop_any q.bd q.dap ne q.v.e m.key wc.drew vb hvb (by rw [<-HNE.out];exact (HQ.out.e.keep HVc.out.v.g).keep (Gx.drewN_below wc 1 _)) HNE.out (by omega)
    unfold DropPost at hdrop
    rw [HQB.out] at hdrop
    have HDROP:=hid hdrop
    have HVB:=hid hvb
    have HVd:Hid (V3 w m #[.int .i64 q.v.k,.int .i64 q.v.n,.int .u64 q.v.f,.string q.v.s,.slice q.ad nl q.cap,.slice (some ⟨b1',o1,none⟩) ne q.dap] wc.drew):=hid (HVc.out.keep (Gx.drewN_below wc 1 _))
    have HCd:Hid (wc.drew.heap[xb]?=some (.cells #[.int .i64 p1.v.k,.int .i64 p1.v.n,.int .u64 p1.v.f,.string p1.v.s,.slice p1.ad p1.v.l.length p1.cap,.slice p1.bd p1.v.e.length p1.dap] 32)):=hid HCc.out
    have HPd:Hid (VAt wc.drew (fun b=>b<w.heap.size) p1):=hid (HPc.out.keep (Gx.drewN_below wc 1 _))
    clear hdrop hvb
    obtain ⟨a0,a1,a2,a3,a4,a5,-⟩:=six_cells HVc.out.v.bx
    obtain ⟨b0,b1,b2,b3,b4,b5,b6,b7,b8,b9⟩:=ten_cells HVc.out.bm
    obtain ⟨c0,c1,c2,c3,c4,c5,-⟩:=six_cells HCc.out
    go_upto_region 14 with fail
    refine wp_region_held_drew (S:=fun w'=>World.cell? w' ⟨w.heap.size+1,2,none⟩=some (.string m.key)/\World.cell? w' ⟨w.heap.size+1,3,none⟩=some (.string m.dst)/\World.cell? w' ⟨xb,0,none⟩=some (.int .i64 p1.v.k)/\World.cell? w' ⟨xb,1,none⟩=some (.int .i64 p1.v.n)/\World.cell? w' ⟨xb,2,none⟩=some (.int .u64 p1.v.f)/\World.cell? w' ⟨xb,3,none⟩=some (.string p1.v.s)/\World.cell? w' ⟨xb,4,none⟩=some (.slice p1.ad p1.v.l.length p1.cap)/\World.cell? w' ⟨xb,5,none⟩=some (.slice p1.bd p1.v.e.length p1.dap)) (by kernel_rfl) ⟨b2,b3,c0,c1,c2,c3,c4,c5⟩ (fun hHeld=>?_)
    generalize World.drew wc=wd at HDROP HVd HCd HPd hHeld ⊢
    clear a0 a1 a2 a3 a4 a5 b0 b1 b2 b3 b4 b5 b6 b7 b8 b9 c0 c1 c2 c3 c4 c5
    refine wpAnyH_take (i:=0) (v:=.pointer (some ⟨w.heap.size,5,none⟩)) rfl (by kernel_rfl) (by kernel_rfl) (by kernel_rfl) (fun _ _ _ h=>h) (Or.inl ⟨by kernel_rfl,fun w' hSw=>?_⟩) (by assumption) ?_
    ·obtain ⟨s0,s1,s2,s3,s4,s5,s6,s7⟩:=hSw;clear hHeld;go_simp;try rfl
    try simp only [Act.put,Go.setq]
    refine wpAnyH_take (i:=2) (v:=.pointer (some ⟨w.heap.size+1,2,none⟩)) rfl (by kernel_rfl) (by kernel_rfl) (by kernel_rfl) (fun _ _ _ h=>h) (Or.inl ⟨by kernel_rfl,fun w' hSw=>?_⟩) (by assumption) ?_
    ·obtain ⟨s0,s1,s2,s3,s4,s5,s6,s7⟩:=hSw;clear hHeld;go_simp;try rfl
    try simp only [Act.put,Go.setq]
    refine wpAnyH_take (i:=3) (v:=.string m.key) rfl (by kernel_rfl) (by kernel_rfl) (by kernel_rfl) (fun _ _ _ h=>h) (Or.inl ⟨by kernel_rfl,fun w' hSw=>?_⟩) (by assumption) ?_
    ·obtain ⟨s0,s1,s2,s3,s4,s5,s6,s7⟩:=hSw;clear hHeld;go_simp;try rfl
    try simp only [Act.put,Go.setq]
    refine wpAnyH_take (i:=5) (v:=.pointer (some ⟨w.heap.size+1,3,none⟩)) rfl (by kernel_rfl) (by kernel_rfl) (by kernel_rfl) (fun _ _ _ h=>h) (Or.inl ⟨by kernel_rfl,fun w' hSw=>?_⟩) (by assumption) ?_
    ·obtain ⟨s0,s1,s2,s3,s4,s5,s6,s7⟩:=hSw;clear hHeld;go_simp;try rfl
    try simp only [Act.put,Go.setq]
    refine wpAnyH_take (i:=6) (v:=.string m.dst) rfl (by kernel_rfl) (by kernel_rfl) (by kernel_rfl) (fun _ _ _ h=>h) (Or.inl ⟨by kernel_rfl,fun w' hSw=>?_⟩) (by assumption) ?_
    ·obtain ⟨s0,s1,s2,s3,s4,s5,s6,s7⟩:=hSw;clear hHeld;go_simp;try rfl
    try simp only [Act.put,Go.setq]
    refine wpAnyH_take (i:=7) (v:=.agg #[.int .i64 p1.v.k,.int .i64 p1.v.n,.int .u64 p1.v.f,.string p1.v.s,.slice p1.ad p1.v.l.length p1.cap,.slice p1.bd p1.v.e.length p1.dap]) rfl (by kernel_rfl) (by kernel_rfl) (by kernel_rfl) (fun _ _ _ h=>h) (Or.inl ⟨by kernel_rfl,fun w' hSw=>?_⟩) (by assumption) ?_
    ·obtain ⟨s0,s1,s2,s3,s4,s5,s6,s7⟩:=hSw;clear hHeld;go_simp;try rfl
    try simp only [Act.put,Go.setq]
    refine wpAnyH_ready (rs:=[1]) (by kernel_rfl) (by simp) ?_
    refine AllReadyH.cons rfl (fun KK hK=>?_) AllReadyH.nil
    have a5:=(six_cells HVd.out.v.bx).2.2.2.2.2.1
    go_simp
    clear a5
    refine hK.out _ _ (by obtain ⟨-,-,t2,t3,-⟩:=ten_cells HVd.out.bm;obtain ⟨s0,s1,s2,s3,s4,s5,-⟩:=six_cells HCd.out;exact ⟨t2,t3,s0,s1,s2,s3,s4,s5⟩) (fun hHeld=>?_)
    clear hK KK
    try simp only [Act.put,Go.setq]
    refine wpAnyH_ready (rs:=[4]) (by kernel_rfl) (by simp) ?_
    refine AllReadyH.cons rfl (fun KK hK=>?_) AllReadyH.nil
    go_simp
    (with_reducible refine HDROP.out.mono ?_)
    rintro e w5 ⟨vo',vc',n5',ps5,rfl,hpl,hacc,hfd,hb5⟩
    have HVe:=hid (HVd.out.keep hb5)
    have HCe:=hid ((hb5.block _ (Array.getElem?_eq_some_iff.1 HCd.out).1).trans HCd.out)
    have HPe:=hid (HPd.out.keep hb5)
    have hle:=drop_le m.key q.v.e
    have hlen5:(dropL q.v.e m.key).length=n5':=by rw [<-hpl,<-List.length_map (f:=fun p:ByteArray×Loc=>(p.1,p.2.v)),hfd]
    have hn5:n5'<=1000:=by have h2:=HNE.out;omega
    have hrow5:=(hacc.row (xs:=dropL q.v.e m.key) (by rw [hpl];show n5' * (7 * 16 - 8)<=_;omega) hfd.symm).weak (C:=fun _=>True) (fun _ _ _=>trivial)
    have hput:=put_any vo' vc' n5' (dropL q.v.e m.key) m.dst p1 w5 hrow5 hlen5 (by omega) (HPe.out.weak (fun _ _ _=>trivial)) HS2.out
    unfold PutVPost Loc.val at hput
    have HPUT:=hid hput
    clear hpl hacc hfd hb5 hle hlen5 hrow5 hput HVd HCd HPd HDROP
    refine hK.out _ _ (by obtain ⟨-,-,t2,t3,-⟩:=ten_cells HVe.out.bm;obtain ⟨s0,s1,s2,s3,s4,s5,-⟩:=six_cells HCe.out;exact ⟨t2,t3,s0,s1,s2,s3,s4,s5⟩) (fun hHeld=>?_)
    clear hK KK
    try simp only [Act.put,Go.setq]
    refine wpAnyH_ready (rs:=[8]) (by kernel_rfl) (by simp) ?_
    refine AllReadyH.cons rfl (fun KK hK=>?_) AllReadyH.nil
    go_simp
    (with_reducible refine HPUT.out.mono ?_)
    rintro e w6' ⟨vo,vc,n5,rfl,hlen,hrow,hb6⟩
    have HV5:=hid (HVe.out.keep hb6)
    have HC5:=hid ((hb6.block _ (Array.getElem?_eq_some_iff.1 HCe.out).1).trans HCe.out)
    have HLEN:Hid ((putL (dropL q.v.e m.mv.key) m.mv.dst (entAt q.v.e m.mv.key)).length=n5):=hid (by have h:=HPV.out;show (putL (dropL q.v.e m.key) m.dst (entAt q.v.e m.key)).length=n5;rw [<-h];exact hlen)
    have HROW:Hid (RowAt w6' (fun b=>w.heap.size+2<b) true (putL (dropL q.v.e m.mv.key) m.mv.dst (entAt q.v.e m.mv.key)) (.slice vo n5 vc)):=hid (by have h:=HPV.out;show RowAt w6' _ true (putL (dropL q.v.e m.key) m.dst (entAt q.v.e m.key)) _;rw [<-h];exact hrow.weak (fun b hb _=>by have:=HVe.out.v.vlt;omega))
    have HQL:=hid (HLOW.out.keep HV5.out.v.g)
    clear hlen hrow hb6 HVe HCe HPe HPUT
    refine hK.out _ _ (by obtain ⟨-,-,t2,t3,-⟩:=ten_cells HV5.out.bm;obtain ⟨s0,s1,s2,s3,s4,s5,-⟩:=six_cells HC5.out;exact ⟨t2,t3,s0,s1,s2,s3,s4,s5⟩) (fun hHeld=>?_)
    clear hK KK
    try simp only [Act.put,Go.setq]
    refine wpAnyH_take (i:=9) (v:=.pointer (some ⟨w.heap.size,5,none⟩)) rfl (by kernel_rfl) (by kernel_rfl) (by kernel_rfl) (fun _ _ _ h=>h) (Or.inl ⟨by kernel_rfl,fun w' hSw=>?_⟩) (by assumption) ?_
    ·clear hHeld hSw;go_simp;try rfl
    try simp only [Act.put,Go.setq]
    refine wpAnyH_ready (rs:=[10]) (by kernel_rfl) (by simp) ?_
    refine AllReadyH.cons rfl (fun KK hK=>?_) AllReadyH.nil
    have a5:=(six_cells HV5.out.v.bx).2.2.2.2.2.1
    have af5:=(six_cells HV5.out.v.bx).2.2.2.2.2.2 5
    have gx:=grown_cell w6' w.heap.size 5 (.slice vo n5 vc)
    have H6:=hid (HV5.out.setX (vone_store HV5.out.v.bx 5 (.slice vo n5 vc)) gx)
    have HR6:=hid (HROW.out.grow gx (fun b e hb=>by have:=Option.some.inj e;omega))
    have HL6:=hid (HQL.out.grow gx (fun b e hb=>by have:=Option.some.inj e;have:=hb.2;omega))
    have HC6:=hid ((gx.block xb (Array.getElem?_eq_some_iff.1 HC5.out).1 (fun e=>by have:=Option.some.inj e;omega)).trans HC5.out)
    clear gx
    go_simp
    clear a5 af5
    refine hK.out _ _ (by obtain ⟨-,-,t2,t3,-⟩:=ten_cells H6.out.bm;obtain ⟨s0,s1,s2,s3,s4,s5,-⟩:=six_cells HC6.out;exact ⟨t2,t3,s0,s1,s2,s3,s4,s5⟩) (fun hHeld2=>?_)
    clear hK KK
    try simp only [Act.put,Go.setq]
    refine wpAnyH_done (by kernel_rfl) ?_ _
    clear hHeld2 HC6 HV5 HC5 HROW HQL
    go_upto_region 15 with fail
    generalize World.setCell w6' _ _=w6 at H6 HR6 HL6 ⊢
    obtain ⟨a0,a1,a2,a3,a4,a5,-⟩:=six_cells H6.out.v.bx
    obtain ⟨p0,p1,p2,p3,p4,p5,pf⟩:=six_cells H6.out.v.res
    have pf0:=pf 0
    have pf1:=pf 1
    have pf2:=pf 2
    have pf3:=pf 3
    have pf4:=pf 4
    have pf5:=pf 5
    obtain ⟨W9,hW9,hr9,hg9⟩:=val_all H6.out.v.res (.int .i64 q.v.k) (.int .i64 q.v.n) (.int .u64 q.v.f) (.string q.v.s) (.slice q.ad nl q.cap) (.slice vo n5 vc)
    obtain ⟨q0,q1,q2,q3,q4,q5,-⟩:=six_cells hr9
    have HW9:=hid hW9
    have HPOST:Hid (BecVPost z B w (.returned (.tuple #[.agg #[.int .i64 q.v.k,.int .i64 q.v.n,.int .u64 q.v.f,.string q.v.s,.slice q.ad nl q.cap,.slice vo n5 vc],.int .i64 0])) W9):=hid (by
     refine ⟨⟨setE q.v (putL (dropL q.v.e m.mv.key) m.mv.dst (entAt q.v.e m.mv.key)),q.ad,q.cap,vo,vc⟩,?_,HZ.out.symm,⟨?_,?_,?_⟩,H6.out.v.g.grown hg9 (by have:=H6.out.v.vlt;omega) (fun b e=>by have:=Option.some.inj e;omega)⟩
     ·unfold Loc.val
      rw [show (setE q.v (putL (dropL q.v.e m.mv.key) m.mv.dst (entAt q.v.e m.mv.key))).l.length=nl from HNL.out,show (setE q.v (putL (dropL q.v.e m.mv.key) m.mv.dst (entAt q.v.e m.mv.key))).e.length=n5 from HLEN.out]
      rfl
     ·exact ⟨HQ.out.wf.k0,HQ.out.wf.k1,HQ.out.wf.n0,HQ.out.wf.n1,HQ.out.wf.f0,HQ.out.wf.f1,HQ.out.wf.s1⟩
     ·show RowAt W9 _ false (lp q.v.l) (.slice q.ad q.v.l.length q.cap)
      rw [HNL.out]
      exact (HL6.out.grow hg9 (fun b e hb=>by have:=Option.some.inj e;have:=hb.2;omega)).weak (fun b hb _=>.inl hb.1)
     ·show RowAt W9 _ true (putL (dropL q.v.e m.mv.key) m.mv.dst (entAt q.v.e m.mv.key)) (.slice vo ((putL (dropL q.v.e m.mv.key) m.mv.dst (entAt q.v.e m.mv.key))).length vc)
      rw [HLEN.out]
      exact (HR6.out.grow hg9 (fun b e hb=>by have:=Option.some.inj e;omega)).weak (fun b hb _=>.inr (by omega)))
    clear hW9 hr9 hg9 pf
    go_wp2_with fail
    rw [<-HW9.out]
    exact bodyPost_ret (v:=.tuple #[.agg #[.int .i64 q.v.k,.int .i64 q.v.n,.int .u64 q.v.f,.string q.v.s,.slice q.ad nl q.cap,.slice vo n5 vc],.int .i64 0]) (by simp [results,Tryz.results62,go_sem,q0,q1,q2,q3,q4,q5]) rfl HPOST.out
  ·have HZ:=hid hz
   have e1:(m.k==1)=false:=beq_eq_false_iff_ne.2 (by have:m.k=2:=k2;omega)
   have e2:(m.k==2)=true:=beq_iff_eq.2 k2
   clear k2 hz
   obtain ⟨vb,hvb⟩:∃ vb,w3.heap.size=vb+1:=⟨w3.heap.size - 1,by have:=HV3.out.v.vlt;omega⟩
   have hdrop:=drop_any q.bd q.dap ne q.v.e m.key w3 vb hvb (by rw [<-HNE.out];exact HQ.out.e.keep HV3.out.v.g) HNE.out (by omega)
   unfold DropPost at hdrop
   rw [HQB.out] at hdrop
   have HDROP:=hid hdrop
   have HVB:=hid hvb
   clear hdrop hvb
   go_wp2_with fail
   (with_reducible refine HDROP.out.mono ?_)
   rintro e w5 ⟨vo,vc,n5,ps5,rfl,hpl,hacc,hfd,hb5⟩
   have HV5:=hid (HV3.out.keep hb5)
   have HLEN:Hid ((dropL q.v.e m.mv.key).length=n5):=hid (by rw [<-hpl,<-List.length_map (f:=fun p:ByteArray×Loc=>(p.1,p.2.v)),hfd];rfl)
   have hle:=drop_le m.key q.v.e
   have HROW:=hid ((hacc.row (xs:=dropL q.v.e m.mv.key) (by have h1:=HLEN.out;rw [hpl];have h2:=HNE.out;have h3:(dropL q.v.e m.mv.key).length<=q.v.e.length:=hle;show n5 * (7 * 16 - 8)<=_;omega) hfd.symm).weak (C:=fun b=>w.heap.size+2<b) (fun b hb _=>by have h1:=HVB.out;have h2:=HV3.out.v.vlt;have h3:vb<b:=hb;omega))
   have HQL:=hid (HLOW.out.keep HV5.out.v.g)
   clear hpl hacc hfd hb5 hle a0 a1 a2 a3 a4 a5 b0 b1 b2 b3 b4 b5 b6 b7 b8 b9 c0 c1 c2 c3 c4 c5 cf HV3 HDROP
   obtain ⟨a0,a1,a2,a3,a4,a5,af⟩:=six_cells HV5.out.v.bx
   have af5:=af 5
   have gx:=grown_cell w5 w.heap.size 5 (.slice vo n5 vc)
   have hv6:=HV5.out.setX (vone_store HV5.out.v.bx 5 (.slice vo n5 vc)) gx
   have hr6:=HROW.out.grow gx (fun b e hb=>by have:=Option.some.inj e;omega)
   have hl6:=HQL.out.grow gx (fun b e hb=>by have:=Option.some.inj e;have:=hb.2;omega)
   have H6:=hid hv6
   have HR6:=hid hr6
   have HL6:=hid hl6
   clear gx hv6 hr6 hl6 af HROW
   go_upto_region 18 with fail
   generalize World.setCell w5 _ _=w6 at H6 HR6 HL6 ⊢
   clear a0 a1 a2 a3 a4 a5 af5 HV5
   obtain ⟨a0,a1,a2,a3,a4,a5,-⟩:=six_cells H6.out.v.bx
   obtain ⟨p0,p1,p2,p3,p4,p5,pf⟩:=six_cells H6.out.v.res
   have pf0:=pf 0
   have pf1:=pf 1
   have pf2:=pf 2
   have pf3:=pf 3
   have pf4:=pf 4
   have pf5:=pf 5
   obtain ⟨W9,hW9,hr9,hg9⟩:=val_all H6.out.v.res (.int .i64 q.v.k) (.int .i64 q.v.n) (.int .u64 q.v.f) (.string q.v.s) (.slice q.ad nl q.cap) (.slice vo n5 vc)
   obtain ⟨q0,q1,q2,q3,q4,q5,-⟩:=six_cells hr9
   have HW9:=hid hW9
   have HPOST:Hid (BecVPost z B w (.returned (.tuple #[.agg #[.int .i64 q.v.k,.int .i64 q.v.n,.int .u64 q.v.f,.string q.v.s,.slice q.ad nl q.cap,.slice vo n5 vc],.int .i64 0])) W9):=hid (by
    refine ⟨⟨setE q.v (dropL q.v.e m.mv.key),q.ad,q.cap,vo,vc⟩,?_,HZ.out.symm,⟨?_,?_,?_⟩,H6.out.v.g.grown hg9 (by have:=H6.out.v.vlt;omega) (fun b e=>by have:=Option.some.inj e;omega)⟩
    ·unfold Loc.val
     rw [show (setE q.v (dropL q.v.e m.mv.key)).l.length=nl from HNL.out,show (setE q.v (dropL q.v.e m.mv.key)).e.length=n5 from HLEN.out]
     rfl
    ·exact ⟨HQ.out.wf.k0,HQ.out.wf.k1,HQ.out.wf.n0,HQ.out.wf.n1,HQ.out.wf.f0,HQ.out.wf.f1,HQ.out.wf.s1⟩
    ·show RowAt W9 _ false (lp q.v.l) (.slice q.ad q.v.l.length q.cap)
     rw [HNL.out]
     exact (HL6.out.grow hg9 (fun b e hb=>by have:=Option.some.inj e;have:=hb.2;omega)).weak (fun b hb _=>.inl hb.1)
    ·show RowAt W9 _ true (dropL q.v.e m.mv.key) (.slice vo ((dropL q.v.e m.mv.key)).length vc)
     rw [HLEN.out]
     exact (HR6.out.grow hg9 (fun b e hb=>by have:=Option.some.inj e;omega)).weak (fun b hb _=>.inr (by omega)))
   clear hW9 hr9 hg9 pf
   go_wp2_with fail
   rw [<-HW9.out]
   exact bodyPost_ret (v:=.tuple #[.agg #[.int .i64 q.v.k,.int .i64 q.v.n,.int .u64 q.v.f,.string q.v.s,.slice q.ad nl q.cap,.slice vo n5 vc],.int .i64 0]) (by simp [results,Tryz.results62,go_sem,q0,q1,q2,q3,q4,q5]) rfl HPOST.out
  ·have HZ:=hid hz
   have e1:(m.k==1)=false:=beq_eq_false_iff_ne.2 k1
   have e2:(m.k==2)=false:=beq_eq_false_iff_ne.2 k2
   have hbec:=becomeV_any p1 m.k y w3 (fun b=>b<w.heap.size) (by rw [HPV.out];exact hy) HPA.out (fun W hW=>HT.out W (HV3.out.v.g.trans (hW.mono HV3.out.v.g.size)))
   unfold BecVPost Loc.val at hbec
   have HBEC:=hid hbec
   clear hz k1 k2 hy hbec
   go_wp2_with fail
   (with_reducible refine HBEC.out.mono ?_)
   rintro e w4 ⟨y1,rfl,hyv,hya,hb4⟩
   have HV4:=hid (HV3.out.keep hb4)
   have hcb4:=(hb4.block _ (Array.getElem?_eq_some_iff.1 HCB.out).1).trans HCB.out
   obtain ⟨W8,hW8,hr8,hg8⟩:=val_all hcb4 (.int .i64 y1.v.k) (.int .i64 y1.v.n) (.int .u64 y1.v.f) (.string y1.v.s) (.slice y1.ad y1.v.l.length y1.cap) (.slice y1.bd y1.v.e.length y1.dap)
   have HV8:=hid (HV4.out.grow hg8 (fun b e=>by have:=Option.some.inj e;omega))
   have HYV:=hid hyv
   have HYA8:=hid ((hya.grow hg8 (fun b e hb=>by have h1:=Option.some.inj e;have h2:=(Array.getElem?_eq_some_iff.1 HCB.out).1;rcases hb with hb|hb<;>omega)).weak (C:=fun _=>True) (fun _ _ _=>trivial))
   have HR8:=hid hr8
   have HW8:=hid hW8
   obtain ⟨f0,f1,f2,f3,f4,f5,ff⟩:=six_cells hcb4
   have ff0:=ff 0
   have ff1:=ff 1
   have ff2:=ff 2
   have ff3:=ff 3
   have ff4:=ff 4
   have ff5:=ff 5
   clear hyv hya hb4 hcb4 hW8 hr8 hg8 ff a0 a1 a2 a3 a4 a5 b0 b1 b2 b3 b4 b5 b6 b7 b8 b9 c0 c1 c2 c3 c4 c5 cf HV3 HBEC
   go_upto_region 20 with fail
   rw [<-HW8.out]
   clear f0 f1 f2 f3 f4 f5 ff0 ff1 ff2 ff3 ff4 ff5
   obtain ⟨a0,a1,a2,a3,a4,a5,-⟩:=six_cells HV8.out.v.bx
   obtain ⟨b0,b1,b2,b3,b4,b5,b6,b7,b8,b9⟩:=ten_cells HV8.out.bm
   obtain ⟨c0,c1,c2,c3,c4,c5,-⟩:=six_cells HR8.out
   have hput:=put_any q.bd q.dap ne q.v.e m.key y1 W8 (by rw [<-HNE.out];exact HQ.out.e.keep HV8.out.v.g) HNE.out (by omega) HYA8.out HS1.out
   unfold PutVPost Loc.val at hput
   rw [HQB.out] at hput
   have HPUT:=hid hput
   clear hput
   go_wp2_with fail
   (with_reducible refine HPUT.out.mono ?_)
   rintro e w5 ⟨vo,vc,n5,rfl,hlen,hrow,hb5⟩
   have HV5:=hid (HV8.out.keep hb5)
   have HLEN:Hid ((putL q.v.e m.mv.key y).length=n5):=hid (by rw [<-HYV.out];exact hlen)
   have HROW:Hid (RowAt w5 (fun b=>w.heap.size+2<b) true (putL q.v.e m.mv.key y) (.slice vo n5 vc)):=hid (by rw [<-HYV.out];exact hrow.weak (fun b hb _=>by have:=HV8.out.v.vlt;omega))
   have HQL:=hid (HLOW.out.keep HV5.out.v.g)
   clear hlen hrow hb5 a0 a1 a2 a3 a4 a5 b0 b1 b2 b3 b4 b5 b6 b7 b8 b9 c0 c1 c2 c3 c4 c5 HV8 HPUT HW8
   obtain ⟨a0,a1,a2,a3,a4,a5,af⟩:=six_cells HV5.out.v.bx
   have af5:=af 5
   have gx:=grown_cell w5 w.heap.size 5 (.slice vo n5 vc)
   have hv6:=HV5.out.setX (vone_store HV5.out.v.bx 5 (.slice vo n5 vc)) gx
   have hr6:=HROW.out.grow gx (fun b e hb=>by have:=Option.some.inj e;omega)
   have hl6:=HQL.out.grow gx (fun b e hb=>by have:=Option.some.inj e;have:=hb.2;omega)
   have H6:=hid hv6
   have HR6:=hid hr6
   have HL6:=hid hl6
   clear gx hv6 hr6 hl6 af HROW
   go_upto_region 22 with fail
   generalize World.setCell w5 _ _=w6 at H6 HR6 HL6 ⊢
   clear a0 a1 a2 a3 a4 a5 af5 HV5
   obtain ⟨a0,a1,a2,a3,a4,a5,-⟩:=six_cells H6.out.v.bx
   obtain ⟨p0,p1,p2,p3,p4,p5,pf⟩:=six_cells H6.out.v.res
   have pf0:=pf 0
   have pf1:=pf 1
   have pf2:=pf 2
   have pf3:=pf 3
   have pf4:=pf 4
   have pf5:=pf 5
   obtain ⟨W9,hW9,hr9,hg9⟩:=val_all H6.out.v.res (.int .i64 q.v.k) (.int .i64 q.v.n) (.int .u64 q.v.f) (.string q.v.s) (.slice q.ad nl q.cap) (.slice vo n5 vc)
   obtain ⟨q0,q1,q2,q3,q4,q5,-⟩:=six_cells hr9
   have HW9:=hid hW9
   have HPOST:Hid (BecVPost z B w (.returned (.tuple #[.agg #[.int .i64 q.v.k,.int .i64 q.v.n,.int .u64 q.v.f,.string q.v.s,.slice q.ad nl q.cap,.slice vo n5 vc],.int .i64 0])) W9):=hid (by
    refine ⟨⟨setE q.v (putL q.v.e m.mv.key y),q.ad,q.cap,vo,vc⟩,?_,HZ.out.symm,⟨?_,?_,?_⟩,H6.out.v.g.grown hg9 (by have:=H6.out.v.vlt;omega) (fun b e=>by have:=Option.some.inj e;omega)⟩
    ·unfold Loc.val
     rw [show (setE q.v (putL q.v.e m.mv.key y)).l.length=nl from HNL.out,show (setE q.v (putL q.v.e m.mv.key y)).e.length=n5 from HLEN.out]
     rfl
    ·exact ⟨HQ.out.wf.k0,HQ.out.wf.k1,HQ.out.wf.n0,HQ.out.wf.n1,HQ.out.wf.f0,HQ.out.wf.f1,HQ.out.wf.s1⟩
    ·show RowAt W9 _ false (lp q.v.l) (.slice q.ad q.v.l.length q.cap)
     rw [HNL.out]
     exact (HL6.out.grow hg9 (fun b e hb=>by have:=Option.some.inj e;have:=hb.2;omega)).weak (fun b hb _=>.inl hb.1)
    ·show RowAt W9 _ true (putL q.v.e m.mv.key y) (.slice vo ((putL q.v.e m.mv.key y)).length vc)
     rw [HLEN.out]
     exact (HR6.out.grow hg9 (fun b e hb=>by have:=Option.some.inj e;omega)).weak (fun b hb _=>.inr (by omega)))
   clear hW9 hr9 hg9 pf
   go_wp2_with fail
   rw [<-HW9.out]
   exact bodyPost_ret (v:=.tuple #[.agg #[.int .i64 q.v.k,.int .i64 q.v.n,.int .u64 q.v.f,.string q.v.s,.slice q.ad nl q.cap,.slice vo n5 vc],.int .i64 0]) (by simp [results,Tryz.results62,go_sem,q0,q1,q2,q3,q4,q5]) rfl HPOST.out
theorem apply1_any (q:Loc) (m:Lm) (z:V) (Kb:Nat) (w:World) (hz:tableM m.mv q.v=.ok z) (B:Nat->Prop) (hq:VAt w B q) (hm:MvAt w (fun _=>True) m) (hK:w.heap[Kb]?=some (.cells #[.int .i64 m.k,.slice m.pd m.p.length m.pc,.string m.key,.string m.dst,.int .i64 m.q.v.k,.int .i64 m.q.v.n,.int .u64 m.q.v.f,.string m.q.v.s,.slice m.q.ad m.q.v.l.length m.q.cap,.slice m.q.bd m.q.v.e.length m.q.dap] 55)) (hn:q.v.e.length<=1000) (hT:∀ W,Below w.heap.size w W->P10 W) :
 Calls Tryz.prog 61 #[q.val,.pointer (some ⟨Kb,0,none⟩)] w (BecVPost z B w):=by
 have hv:=v2_start w #[.int .i64 q.v.k,.int .i64 q.v.n,.int .u64 q.v.f,.string q.v.s,.slice q.ad q.v.l.length q.cap,.slice q.bd q.v.e.length q.dap]
 obtain ⟨B',hB'⟩:∃ B':Nat->Prop,B'=fun b=>B b/\b<w.heap.size:=⟨_,rfl⟩
 have htab:=fun (W:World) (hb:Below w.heap.size w W)=>tableV_any q m z W hz B' ((hq.weak (C:=B') (fun b h1 h2=>by rw [hB'];exact ⟨h1,h2⟩)).keep hb) (hm.keep hb) hn (fun W' h'=>hT W' (hb.trans (h'.mono hb.size)))
 unfold BecVPost Loc.val Lm.val at htab
 unfold Loc.val
 obtain ⟨nl,hnl⟩:∃ m,q.v.l.length=m:=⟨_,rfl⟩
 obtain ⟨ne,hne⟩:∃ m,q.v.e.length=m:=⟨_,rfl⟩
 rw [hnl,hne] at hv ⊢
 simp only [hnl,hne] at htab
 have HTAB:=hid htab
 have HK:=hid hK
 have HB':=hid hB'
 clear hz hq hm hn hT htab hK hnl hne hB'
 go_enter Tryz.func61,Tryz.ntmps61
 go_upto_region 1 with fail
 generalize World.alloc (World.alloc w _) _=w1 at hv ⊢
 have HV:=hid hv
 clear hv
 obtain ⟨a0,a1,a2,a3,a4,a5,-⟩:=six_cells HV.out.bx
 obtain ⟨b0,b1,b2,b3,b4,b5,b6,b7,b8,b9⟩:=ten_cells ((HV.out.g.block _ (Array.getElem?_eq_some_iff.1 HK.out).1).trans HK.out)
 have HT1:=hid (HTAB.out w1 HV.out.g)
 go_wp2_with fail
 (with_reducible refine HT1.out.mono ?_)
 rintro e w5 ⟨y,rfl,hyv,hya,hb5⟩
 have HV5:=hid (HV.out.keep hb5)
 have HYV:=hid hyv
 have HYA:Hid (VAt w5 (fun b=>(B b\/w.heap.size<=b)/\b≠w.heap.size+1) y):=hid (hya.weak (fun b hb _=>by
  have h1:=HV.out.vlt
  rw [HB'.out] at hb
  rcases hb with hb|hb
  ·exact ⟨.inl hb.1,by omega⟩
  ·exact ⟨.inr (by omega),by omega⟩))
 clear a0 a1 a2 a3 a4 a5 b0 b1 b2 b3 b4 b5 b6 b7 b8 b9 hyv hya hb5 HV HT1
 obtain ⟨p0,p1,p2,p3,p4,p5,pf⟩:=six_cells HV5.out.res
 have pf0:=pf 0
 have pf1:=pf 1
 have pf2:=pf 2
 have pf3:=pf 3
 have pf4:=pf 4
 have pf5:=pf 5
 obtain ⟨yl,hyl⟩:∃ m,y.v.l.length=m:=⟨_,rfl⟩
 obtain ⟨ye,hye⟩:∃ m,y.v.e.length=m:=⟨_,rfl⟩
 rw [hyl,hye]
 have HYL:=hid hyl
 have HYE:=hid hye
 clear hyl hye
 obtain ⟨W9,hW9,hr9,hg9⟩:=val_all HV5.out.res (.int .i64 y.v.k) (.int .i64 y.v.n) (.int .u64 y.v.f) (.string y.v.s) (.slice y.ad yl y.cap) (.slice y.bd ye y.dap)
 obtain ⟨q0,q1,q2,q3,q4,q5,-⟩:=six_cells hr9
 have HW9:=hid hW9
 have HPOST:Hid (BecVPost z B w (.returned (.tuple #[.agg #[.int .i64 y.v.k,.int .i64 y.v.n,.int .u64 y.v.f,.string y.v.s,.slice y.ad yl y.cap,.slice y.bd ye y.dap],.int .i64 0])) W9):=hid ⟨y,by unfold Loc.val;rw [HYL.out,HYE.out],HYV.out,(HYA.out.grow hg9 (fun b e hb=>hb.2 (Option.some.inj e).symm)).weak (fun b hb _=>hb.1),HV5.out.g.grown hg9 (by have:=HV5.out.vlt;have:=HV5.out.lt;omega) (fun b e=>by have:=Option.some.inj e;have:=HV5.out.lt;omega)⟩
 clear hW9 hr9 hg9 pf
 go_wp2_with fail
 rw [<-HW9.out]
 exact bodyPost_ret (v:=.tuple #[.agg #[.int .i64 y.v.k,.int .i64 y.v.n,.int .u64 y.v.f,.string y.v.s,.slice y.ad yl y.cap,.slice y.bd ye y.dap],.int .i64 0]) (by simp [results,Tryz.results61,go_sem,q0,q1,q2,q3,q4,q5]) rfl HPOST.out
theorem AccT.row2 {w:World} {vb:Nat} {B C:Nat->Prop} {t:Bool} {e:TypeId} {v:Value} {ps:List Ft} {xs:List (Fd Ty)} (h:AccT w vb B t e v ps) (hl:ps.length * 112<=140737488351232) (hx:xs=ps.map Ft.fd) (hC:∀ b,b<w.heap.size->B b->C b) (hgC:∀ b,v.ownBlock=some b->C b):TRow w C t xs v:=by
 subst hx
 have hcell:=fun g=>h.own.cells (g:=g)
 have hlt:=h.own.lt
 rcases h.own.2 with ⟨rfl,h0⟩|⟨g,cap,cur,rfl,hb,-⟩
 ·obtain rfl:ps=[]:=List.eq_nil_of_length_eq_zero h0
  exact .nil _ _ _
 by_cases hne:ps=[]
 ·subst hne;exact .nil _ _ _
 have hm:(ps.map Ft.fd).length=ps.length:=List.length_map _
 have hget:∀ i x,(ps.map Ft.fd)[i]?=some x->∃ p:Ft,ps[i]?=some p/\p.fd=x:=fun i x hi=>by
  rw [List.getElem?_map] at hi
  exact Option.map_eq_some_iff.1 hi
 have hc:∀ i p,ps[i]?=some p->∀ j u,j<sw t->(cellsF t p)[j]?=some u->w.cell? ⟨g,0+i * sw t+j,none⟩=some u:=fun i p hi j u hj hu=>by
  have:=hcell g rfl (i * sw t+j) u ((flat_get (cellsF_len t) ps i p hi j hj).trans hu)
  rw [Addr.add_lit] at this
  rw [Nat.add_assoc];exact this
 have hin:∀ i p,ps[i]?=some p->p∈ps:=fun i p hi=>List.mem_of_getElem? hi
 have hB:∀ {p:Ft},p∈ps->TyAt w C p.t:=fun hp=>(h.at_ _ hp).weak (fun b hb hl=>hC b hl hb.1)
 have hD:∀ {p:Ft},p∈ps->VAt w C p.d:=fun hp=>(h.ad _ hp).weak (fun b hb hl=>hC b hl hb.1)
 have hsl:∀ i:Nat,∃ s:Lt×Loc,∀ p,ps[i]?=some p->s=(p.t,p.d):=fun i=>by
  cases hp:ps[i]? with
  | none=>exact ⟨(default,default),fun p h=>(by cases h)⟩
  | some p=>exact ⟨(p.t,p.d),fun q h=>(by cases h;rfl)⟩
 obtain ⟨S,hS⟩:∃ S:Nat->Lt×Loc,∀ i p,ps[i]?=some p->S i=(p.t,p.d):=⟨fun i=>Classical.choose (hsl i),fun i=>Classical.choose_spec (hsl i)⟩
 have hgt:=hlt g rfl
 have key:TRow w C t (ps.map Ft.fd) (.slice (some ⟨g,0,none⟩) (ps.map Ft.fd).length cap):=by
  refine .row t _ g 0 cap (fun i=>.slice (S i).1.xd (S i).1.v.x.length (S i).1.xc) (fun i=>.slice (S i).1.td (S i).1.v.t.length (S i).1.tc) (fun i=>.slice (S i).1.fd (S i).1.v.f.length (S i).1.fc)
   (fun i=>.slice (S i).2.ad (S i).2.v.l.length (S i).2.cap) (fun i=>.slice (S i).2.bd (S i).2.v.e.length (S i).2.dap) (by simpa using hne) (by rw [hm];exact hl) (hgC g rfl) hgt.2
   (fun ht i x hi=>?_) (fun ht i x hi=>?_) (fun i x hi=>?_) (fun i x hi=>?_) (fun i x hi=>?_) (fun i x hi=>?_) (fun ht i x hi=>?_) (fun ht i x hi=>?_)
  ·obtain ⟨p,hp,rfl⟩:=hget i x hi
   subst ht
   exact ⟨⟨hc i p hp 0 _ (by decide) rfl,h.key p (hin i p hp)⟩,hc i p hp 1 _ (by decide) rfl,hc i p hp 2 _ (by decide) rfl⟩
  ·obtain ⟨p,hp,rfl⟩:=hget i x hi
   subst ht
   refine ⟨(hD (hin i p hp)).wf,?_⟩
   simp only [hS i p hp]
   exact ⟨hc i p hp 10 _ (by decide) rfl,hc i p hp 11 _ (by decide) rfl,hc i p hp 12 _ (by decide) rfl,hc i p hp 13 _ (by decide) rfl,hc i p hp 14 _ (by decide) rfl,hc i p hp 15 _ (by decide) rfl⟩
  ·obtain ⟨p,hp,rfl⟩:=hget i x hi
   refine ⟨(hB (hin i p hp)).wf,?_⟩
   simp only [hS i p hp]
   cases t with
   | false=>exact ⟨hc i p hp 0 _ (by decide) rfl,hc i p hp 1 _ (by decide) rfl,hc i p hp 2 _ (by decide) rfl,hc i p hp 3 _ (by decide) rfl,hc i p hp 4 _ (by decide) rfl,hc i p hp 5 _ (by decide) rfl,hc i p hp 6 _ (by decide) rfl⟩
   | true=>exact ⟨hc i p hp 3 _ (by decide) rfl,hc i p hp 4 _ (by decide) rfl,hc i p hp 5 _ (by decide) rfl,hc i p hp 6 _ (by decide) rfl,hc i p hp 7 _ (by decide) rfl,hc i p hp 8 _ (by decide) rfl,hc i p hp 9 _ (by decide) rfl⟩
  ·obtain ⟨p,hp,rfl⟩:=hget i x hi
   simp only [hS i p hp]
   exact (hB (hin i p hp)).x
  ·obtain ⟨p,hp,rfl⟩:=hget i x hi
   simp only [hS i p hp]
   exact (hB (hin i p hp)).t
  ·obtain ⟨p,hp,rfl⟩:=hget i x hi
   simp only [hS i p hp]
   exact (hB (hin i p hp)).f
  ·obtain ⟨p,hp,rfl⟩:=hget i x hi
   simp only [hS i p hp]
   exact (hD (hin i p hp)).l
  ·obtain ⟨p,hp,rfl⟩:=hget i x hi
   simp only [hS i p hp]
   exact (hD (hin i p hp)).e
 rw [hm] at key
 exact key
theorem field_cells {w:World} {b:Nat} {ty:TypeId} {a0 a1 a2 a3 a4 a5 a6 a7 a8 a9 a10 a11 a12 a13 a14 a15:Value} (h:w.heap[b]?=some (.cells #[a0,a1,a2,a3,a4,a5,a6,a7,a8,a9,a10,a11,a12,a13,a14,a15] ty)):w.cell? ⟨b,0,none⟩=some a0/\w.cell? ⟨b,1,none⟩=some a1/\w.cell? ⟨b,2,none⟩=some a2/\w.cell? ⟨b,3,none⟩=some a3/\w.cell? ⟨b,4,none⟩=some a4/\w.cell? ⟨b,5,none⟩=some a5/\w.cell? ⟨b,6,none⟩=some a6/\w.cell? ⟨b,7,none⟩=some a7/\w.cell? ⟨b,8,none⟩=some a8/\w.cell? ⟨b,9,none⟩=some a9/\w.cell? ⟨b,10,none⟩=some a10/\w.cell? ⟨b,11,none⟩=some a11/\w.cell? ⟨b,12,none⟩=some a12/\w.cell? ⟨b,13,none⟩=some a13/\w.cell? ⟨b,14,none⟩=some a14/\w.cell? ⟨b,15,none⟩=some a15 :=
 ⟨by simp [World.cell?,h],by simp [World.cell?,h],by simp [World.cell?,h],by simp [World.cell?,h],by simp [World.cell?,h],by simp [World.cell?,h],by simp [World.cell?,h],by simp [World.cell?,h],by simp [World.cell?,h],by simp [World.cell?,h],by simp [World.cell?,h],by simp [World.cell?,h],by simp [World.cell?,h],by simp [World.cell?,h],by simp [World.cell?,h],by simp [World.cell?,h]⟩
theorem SRow.tail {w:World} {B:Nat->Prop} {s:ByteArray} {p:List ByteArray} {b o n c:Nat} (h:SRow w B (s::p) (.slice (some ⟨b,o,none⟩) n c)) (c':Nat):SRow w B p (.slice (some ⟨b,o+1,none⟩) p.length c'):=by
 by_cases hp:p=[]
 ·subst hp;exact .nil _ _
 ·generalize hv:Value.slice (some ⟨b,o,none⟩) n c=v at h
  generalize hx:s::p=xs at h
  cases h with
  | nil ad cap=>cases hx
  | row xs blk off cap hne hn hB hlt hc =>
    simp only [Value.slice.injEq,Option.some.injEq,Addr.mk.injEq,and_true] at hv
    obtain ⟨⟨rfl,rfl⟩,-,-⟩:=hv
    subst hx
    refine .row p b (o+1) c' hp (by rw [List.length_cons] at hn;omega) hB hlt (fun i x hi=>?_)
    have:=hc (i+1) x (by rw [List.getElem?_cons_succ];exact hi)
    rw [show o+1+i=o+(i+1) by omega]
    exact this
theorem alongV_ways {ch:V->Except Int V} {s:ByteArray} {p:List ByteArray} {v z:V} (h:alongV ch (s::p) v=.ok z):v.k=6/\fidx s v.e<v.e.length/\∃ x,alongV ch p (entAt v.e s)=.ok x/\z=setE v (putL v.e s x):=by
 rw [alongV] at h
 split at h
 ·rename_i hk
  split at h
  ·rename_i hi
   split at h
   ·rename_i x hx;exact ⟨hk,hi,x,hx,(Except.ok.inj h).symm⟩
   ·cases h
  ·cases h
 ·cases h
def AlongC (m:Lm) (Kb:Nat) (p:List ByteArray):Prop:=∀ (d:Nat) (q:Loc) (z:V) (pd:Option Addr) (pc:Nat) (B:Nat->Prop) (w:World),alongV (tableM m.mv) p q.v=.ok z->Gd d q.v->VAt w B q->MvAt w (fun _=>True) m->w.heap[Kb]?=some (.cells #[.int .i64 m.k,.slice m.pd m.p.length m.pc,.string m.key,.string m.dst,.int .i64 m.q.v.k,.int .i64 m.q.v.n,.int .u64 m.q.v.f,.string m.q.v.s,.slice m.q.ad m.q.v.l.length m.q.cap,.slice m.q.bd m.q.v.e.length m.q.dap] 55) ->
 SRow w (fun _=>True) p (.slice pd p.length pc)->p.length<=pc->pc<=9223372036854775807->(∀ W,Below w.heap.size w W->P10 W)->Calls Tryz.prog 60 #[q.val,.slice pd p.length pc,(.func (.func 61) #[] #[.pointer (some ⟨Kb,0,none⟩)])] w (BecVPost z B w)
theorem along_nil (m:Lm) (Kb:Nat):AlongC m Kb []:=by
 intro d q z pd pc B w hz hg hq hm hK hp hpc hpc1 hT
 have hk:q.v.k=6:=by
  rw [alongV] at hz
  split at hz
  ·assumption
  ·cases hz
 have hz':tableM m.mv q.v=.ok z:=by rw [alongV,if_pos hk] at hz;exact hz
 have hn:q.v.e.length<=1000:=by
  cases d with
  | zero=>exact hg.elim
  | succ d=>have:=(ownV_zero hg.1).2.2.2.1;omega
 have hv:=v2_start w #[.int .i64 q.v.k,.int .i64 q.v.n,.int .u64 q.v.f,.string q.v.s,.slice q.ad q.v.l.length q.cap,.slice q.bd q.v.e.length q.dap]
 obtain ⟨B',hB'⟩:∃ B':Nat->Prop,B'=fun b=>B b/\b<w.heap.size:=⟨_,rfl⟩
 have hap:=fun (W:World) (hb:Below w.heap.size w W)=>apply1_any q m z Kb W hz' B' ((hq.weak (C:=B') (fun b h1 h2=>by rw [hB'];exact ⟨h1,h2⟩)).keep hb) (hm.keep hb) ((hb.block _ (Array.getElem?_eq_some_iff.1 hK).1).trans hK) hn (fun W' h'=>hT W' (hb.trans (h'.mono hb.size)))
 unfold BecVPost Loc.val at hap
 unfold Loc.val
 obtain ⟨nl,hnl⟩:∃ m,q.v.l.length=m:=⟨_,rfl⟩
 obtain ⟨ne,hne⟩:∃ m,q.v.e.length=m:=⟨_,rfl⟩
 rw [hnl,hne] at hv ⊢
 simp only [hnl,hne] at hap
 have HAP:=hid hap
 have HB':=hid hB'
 have e6:(q.v.k != 6)=false:=by simp [hk]
 rw [show ([]:List ByteArray).length=0 from rfl]
 clear hz hz' hg hq hm hK hp hpc hpc1 hT hn hap hnl hne hB' hk
 go_enter Tryz.func60,Tryz.ntmps60
 go_upto_region 1 with fail
 generalize World.alloc (World.alloc w _) _=w1 at hv ⊢
 have HV:=hid hv
 clear hv
 obtain ⟨a0,a1,a2,a3,a4,a5,-⟩:=six_cells HV.out.bx
 have HT1:=hid (HAP.out w1 HV.out.g)
 go_wp2_with fail
 (with_reducible refine HT1.out.mono ?_)
 rintro e w5 ⟨y,rfl,hyv,hya,hb5⟩
 have HV5:=hid (HV.out.keep hb5)
 have HYV:=hid hyv
 have HYA:Hid (VAt w5 (fun b=>(B b\/w.heap.size<=b)/\b≠w.heap.size+1) y):=hid (hya.weak (fun b hb _=>by
  have h1:=HV.out.vlt
  rw [HB'.out] at hb
  rcases hb with hb|hb
  ·exact ⟨.inl hb.1,by omega⟩
  ·exact ⟨.inr (by omega),by omega⟩))
 clear a0 a1 a2 a3 a4 a5 hyv hya hb5 HV HT1
 obtain ⟨p0,p1,p2,p3,p4,p5,pf⟩:=six_cells HV5.out.res
 have pf0:=pf 0
 have pf1:=pf 1
 have pf2:=pf 2
 have pf3:=pf 3
 have pf4:=pf 4
 have pf5:=pf 5
 obtain ⟨yl,hyl⟩:∃ m,y.v.l.length=m:=⟨_,rfl⟩
 obtain ⟨ye,hye⟩:∃ m,y.v.e.length=m:=⟨_,rfl⟩
 rw [hyl,hye]
 have HYL:=hid hyl
 have HYE:=hid hye
 clear hyl hye
 obtain ⟨W9,hW9,hr9,hg9⟩:=val_all HV5.out.res (.int .i64 y.v.k) (.int .i64 y.v.n) (.int .u64 y.v.f) (.string y.v.s) (.slice y.ad yl y.cap) (.slice y.bd ye y.dap)
 obtain ⟨q0,q1,q2,q3,q4,q5,-⟩:=six_cells hr9
 have HW9:=hid hW9
 have HPOST:Hid (BecVPost z B w (.returned (.tuple #[.agg #[.int .i64 y.v.k,.int .i64 y.v.n,.int .u64 y.v.f,.string y.v.s,.slice y.ad yl y.cap,.slice y.bd ye y.dap],.int .i64 0])) W9):=hid ⟨y,by unfold Loc.val;rw [HYL.out,HYE.out],HYV.out,(HYA.out.grow hg9 (fun b e hb=>hb.2 (Option.some.inj e).symm)).weak (fun b hb _=>hb.1),HV5.out.g.grown hg9 (by have:=HV5.out.vlt;have:=HV5.out.lt;omega) (fun b e=>by have:=Option.some.inj e;have:=HV5.out.lt;omega)⟩
 clear hW9 hr9 hg9 pf
 go_wp2_with fail
 rw [<-HW9.out]
 exact bodyPost_ret (v:=.tuple #[.agg #[.int .i64 y.v.k,.int .i64 y.v.n,.int .u64 y.v.f,.string y.v.s,.slice y.ad yl y.cap,.slice y.bd ye y.dap],.int .i64 0]) (by simp [results,Tryz.results60,go_sem,q0,q1,q2,q3,q4,q5]) rfl HPOST.out
end Go.Proofs.YtgnonbdkmmkdgaaGreatDoor
