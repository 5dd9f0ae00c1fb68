/-
  Lemmas for the statement: plain laws, and what functions answer; the conditions stand in each.
-/
import Derived.Test.YtgnonbdkmmkdgaaGreatDoorChainTypedAllQ02
set_option linter.unusedVariables false
set_option linter.unusedSimpArgs false
set_option maxHeartbeats 16000000
set_option maxRecDepth 100000
open Go.Lib (hid)
namespace Go.Proofs.YtgnonbdkmmkdgaaGreatDoor
open Go.RowKit Gx
def cmpEn (f:V->V->Int) (x y:ByteArray×V):Int:=orL [sgnB x.1 y.1,f x.2 y.2]
def cmpD:Nat->V->V->Int
 | 0,_,_=>0
 | n+1,v,u=>orL [sgn v.k u.k,sgn v.n u.n,sgn (fbits v.f) (fbits u.f),sgnB v.s u.s,cmpL (cmpD n) v.l u.l,cmpL (cmpEn (cmpD n)) v.e u.e]
structure TwoE (w:World) (x y:ByteArray) (q p:Loc) (W:World):Prop where
 a:SevAt W w.heap.size x q
 b:SevAt W (w.heap.size+1) y p
 g:Below w.heap.size w W
 s:w.heap.size+2<=W.heap.size
theorem TwoE.start (x y:ByteArray) (q p:Loc) (w:World):TwoE w x y q p ((w.alloc (.cells #[.string x,.int .i64 q.v.k,.int .i64 q.v.n,.int .u64 q.v.f,.string q.v.s,.slice q.ad q.v.l.length q.cap,.slice q.bd q.v.e.length q.dap] 96)).alloc
 (.cells #[.string y,.int .i64 p.v.k,.int .i64 p.v.n,.int .u64 p.v.f,.string p.v.s,.slice p.ad p.v.l.length p.cap,.slice p.bd p.v.e.length p.dap] 96)):=by
 refine ⟨?_,?_,((Below.refl _ w).alloc (Nat.le_refl _) _).alloc (by simp) _,by simp⟩
 ·refine SevAt.box (ty:=96) ?_
  rw [Below.heap_alloc _ _ _ (by simp)]
  exact heap_alloc_new w _
 ·refine SevAt.box (ty:=96) ?_
  have:=heap_alloc_new (w.alloc (.cells #[.string x,.int .i64 q.v.k,.int .i64 q.v.n,.int .u64 q.v.f,.string q.v.s,.slice q.ad q.v.l.length q.cap,.slice q.bd q.v.e.length q.dap] 96)) (.cells #[.string y,.int .i64 p.v.k,.int .i64 p.v.n,.int .u64 p.v.f,.string p.v.s,.slice p.ad p.v.l.length p.cap,.slice p.bd p.v.e.length p.dap] 96)
  rwa [World.size_alloc] at this
theorem TwoE.keep {w:World} {x y:ByteArray} {q p:Loc} {W W':World} (h:TwoE w x y q p W) (hb:Below W.heap.size W W'):TwoE w x y q p W':=by
 have hs:=h.s
 exact ⟨h.a.through (hb.block _ (by omega)),h.b.through (hb.block _ (by omega)),h.g.trans (hb.mono h.g.size),by have:=hb.size;omega⟩
theorem ints_at (W:World) (zs:List Int) (ty:TypeId):∀ k x,zs[k]?=some x->(W.alloc (.cells (zs.map (Value.int .i64)).toArray ty)).cell? ⟨W.heap.size,k,none⟩=some (.int .i64 x):=fun k x h=>by
 have:=World.cell?_alloc_mark W (zs.map (Value.int .i64)).toArray ty (0,0) k
 rw [this];simpa using h
def SevTwo (w:World) (a b:Nat) (x y:ByteArray) (q p:Loc):Prop :=
 w.cell? ⟨a,0,none⟩=some (.string x)/\w.cell? ⟨a,1,none⟩=some (.int .i64 q.v.k)/\w.cell? ⟨a,2,none⟩=some (.int .i64 q.v.n)/\w.cell? ⟨a,3,none⟩=some (.int .u64 q.v.f)/\w.cell? ⟨a,4,none⟩=some (.string q.v.s)/\w.cell? ⟨a,5,none⟩=some (.slice q.ad q.v.l.length q.cap)/\w.cell? ⟨a,6,none⟩=some (.slice q.bd q.v.e.length q.dap)/\w.cell? ⟨b,0,none⟩=some (.string y)/\w.cell? ⟨b,1,none⟩=some (.int .i64 p.v.k)/\w.cell? ⟨b,2,none⟩=some (.int .i64 p.v.n)/\w.cell? ⟨b,3,none⟩=some (.int .u64 p.v.f)/\w.cell? ⟨b,4,none⟩=some (.string p.v.s)/\w.cell? ⟨b,5,none⟩=some (.slice p.ad p.v.l.length p.cap)/\w.cell? ⟨b,6,none⟩=some (.slice p.bd p.v.e.length p.dap)
theorem TwoE.cells {w:World} {x y:ByteArray} {q p:Loc} {W:World} (h:TwoE w x y q p W):SevTwo W w.heap.size (w.heap.size+1) x y q p :=
 ⟨h.a.k,h.a.c0,h.a.c1,h.a.c2,h.a.c3,h.a.c4,h.a.c5,h.b.k,h.b.c0,h.b.c1,h.b.c2,h.b.c3,h.b.c4,h.b.c5⟩
theorem cmpEnt_any (x y:ByteArray) (q p:Loc) (r:Int) (w:World) (hq:VAt w (fun _=>True) q) (hp:VAt w (fun _=>True) p)
 (ih:∀ W,Below w.heap.size w W->Calls Tryz.prog 18 #[.agg #[.int .i64 q.v.k,.int .i64 q.v.n,.int .u64 q.v.f,.string q.v.s,.slice q.ad q.v.l.length q.cap,.slice q.bd q.v.e.length q.dap],.agg #[.int .i64 p.v.k,.int .i64 p.v.n,.int .u64 p.v.f,.string p.v.s,.slice p.ad p.v.l.length p.cap,.slice p.bd p.v.e.length p.dap]] W (IntPost r W)) :
 Calls Tryz.prog 39 #[.agg #[.string x,.int .i64 q.v.k,.int .i64 q.v.n,.int .u64 q.v.f,.string q.v.s,.slice q.ad q.v.l.length q.cap,.slice q.bd q.v.e.length q.dap],.agg #[.string y,.int .i64 p.v.k,.int .i64 p.v.n,.int .u64 p.v.f,.string p.v.s,.slice p.ad p.v.l.length p.cap,.slice p.bd p.v.e.length p.dap]] w (IntPost (orL [sgnB x y,r]) w):=by
 have HT:=hid (TwoE.start x y q p w)
 have IH:=hid ih
 clear hq hp ih
 go_enter Tryz.func39,Tryz.ntmps39
 go_upto_region 1 with fail
 generalize hw2:World.alloc (World.alloc w _) _=w2 at HT ⊢
 clear hw2
 have HTd:=hid (HT.out.keep (Gx.drewN_below w2 1 _))
 have hk2:SevTwo w2.drew w.heap.size (w.heap.size+1) x y q p:=HTd.out.cells
 unfold SevTwo at hk2
 obtain ⟨s1,hs1⟩:∃ s1,sgnB x y=s1:=⟨_,rfl⟩
 have HS1:=hid hs1
 clear hs1
 have hst:∀ W,Calls Tryz.prog 36 #[.string x,.string y] W (CmpPost s1 W):=fun W=>by have:=cmpStr_any x y W;rwa [HS1.out] at this
 have HST:=hid hst
 clear hst
 go_region_held3 (fun w'=>w'.cell? ⟨w.heap.size,0,none⟩=some (.string x)/\w'.cell? ⟨w.heap.size,1,none⟩=some (.int .i64 q.v.k)/\w'.cell? ⟨w.heap.size,2,none⟩=some (.int .i64 q.v.n)/\w'.cell? ⟨w.heap.size,3,none⟩=some (.int .u64 q.v.f)/\w'.cell? ⟨w.heap.size,4,none⟩=some (.string q.v.s)/\w'.cell? ⟨w.heap.size,5,none⟩=some (.slice q.ad q.v.l.length q.cap)/\w'.cell? ⟨w.heap.size,6,none⟩=some (.slice q.bd q.v.e.length q.dap)/\w'.cell? ⟨w.heap.size+1,0,none⟩=some (.string y)/\w'.cell? ⟨w.heap.size+1,1,none⟩=some (.int .i64 p.v.k)/\w'.cell? ⟨w.heap.size+1,2,none⟩=some (.int .i64 p.v.n)/\w'.cell? ⟨w.heap.size+1,3,none⟩=some (.int .u64 p.v.f)/\w'.cell? ⟨w.heap.size+1,4,none⟩=some (.string p.v.s)/\w'.cell? ⟨w.heap.size+1,5,none⟩=some (.slice p.ad p.v.l.length p.cap)/\w'.cell? ⟨w.heap.size+1,6,none⟩=some (.slice p.bd p.v.e.length p.dap)) (first|exact hk2|exact hk3|exact hk4|go_keep)
  (first
    | (go_simp;refine (HST.out _).mono ?_;rintro e w' ⟨rfl,rfl⟩)
    | (go_simp;refine (IH.out _ HTd.out.g).mono ?_;rintro e w3 ⟨rfl,hb3⟩;have hT3:=HTd.out.keep (W':=w3) (hb3);have hk3:=hT3.cells;unfold SevTwo at hk3;have HT3:=hid hT3;have hT4:=hT3.keep ((Below.refl _ w3).alloc (Nat.le_refl _) (.cells #[.int .i64 s1,.int .i64 r] 3));have hk4:=hT4.cells;unfold SevTwo at hk4;have HT4:=hid hT4;clear hb3 hT3 hT4)
    | (go_simp;refine (or_any _ 2 [s1,r] _ (ints_at w3 [s1,r] 3) (by simp)).mono ?_;rintro e w' ⟨rfl,rfl⟩))
 go_wp2_with fail
 try go_ret
 exact ⟨by rw [HS1.out];rfl,HT4.out.g⟩
def SixTwo (w:World) (a b:Nat) (q p:Loc):Prop :=
 w.cell? ⟨a,0,none⟩=some (.int .i64 q.v.k)/\w.cell? ⟨a,1,none⟩=some (.int .i64 q.v.n)/\w.cell? ⟨a,2,none⟩=some (.int .u64 q.v.f)/\w.cell? ⟨a,3,none⟩=some (.string q.v.s)/\w.cell? ⟨a,4,none⟩=some (.slice q.ad q.v.l.length q.cap)/\w.cell? ⟨a,5,none⟩=some (.slice q.bd q.v.e.length q.dap)/\w.cell? ⟨b,0,none⟩=some (.int .i64 p.v.k)/\w.cell? ⟨b,1,none⟩=some (.int .i64 p.v.n)/\w.cell? ⟨b,2,none⟩=some (.int .u64 p.v.f)/\w.cell? ⟨b,3,none⟩=some (.string p.v.s)/\w.cell? ⟨b,4,none⟩=some (.slice p.ad p.v.l.length p.cap)/\w.cell? ⟨b,5,none⟩=some (.slice p.bd p.v.e.length p.dap)
theorem Two.cells {w:World} {q p:Loc} {W:World} (h:Two w q p W):SixTwo W w.heap.size (w.heap.size+1) q p :=
 ⟨h.a.c0,h.a.c1,h.a.c2,h.a.c3,h.a.c4,h.a.c5,h.b.c0,h.b.c1,h.b.c2,h.b.c3,h.b.c4,h.b.c5⟩
theorem compare_step (q p:Loc) (w:World) (r5 r6:Int) (hq:q.v.wf) (hp:p.v.wf)
 (ih5:∀ W,Below w.heap.size w W->Calls Tryz.prog 37 #[.slice q.ad q.v.l.length q.cap,.slice p.ad p.v.l.length p.cap,.func (.func 18) #[] #[]] W (IntPost r5 W))
 (ih6:∀ W,Below w.heap.size w W->Calls Tryz.prog 38 #[.slice q.bd q.v.e.length q.dap,.slice p.bd p.v.e.length p.dap,.func (.func 39) #[] #[]] W (IntPost r6 W)) :
 Calls Tryz.prog 18 #[.agg #[.int .i64 q.v.k,.int .i64 q.v.n,.int .u64 q.v.f,.string q.v.s,.slice q.ad q.v.l.length q.cap,.slice q.bd q.v.e.length q.dap],.agg #[.int .i64 p.v.k,.int .i64 p.v.n,.int .u64 p.v.f,.string p.v.s,.slice p.ad p.v.l.length p.cap,.slice p.bd p.v.e.length p.dap]] w
  (IntPost (orL [sgn q.v.k p.v.k,sgn q.v.n p.v.n,sgn (fbits q.v.f) (fbits p.v.f),sgnB q.v.s p.v.s,r5,r6]) w):=by
 have HT:=hid (Two.start q p w)
 have IH5:=hid ih5
 have IH6:=hid ih6
 obtain ⟨g1,hg1⟩:∃ g,fbits q.v.f=g:=⟨_,rfl⟩
 obtain ⟨g2,hg2⟩:∃ g,fbits p.v.f=g:=⟨_,rfl⟩
 obtain ⟨s1,hs1⟩:∃ s,sgn q.v.k p.v.k=s:=⟨_,rfl⟩
 obtain ⟨s2,hs2⟩:∃ s,sgn q.v.n p.v.n=s:=⟨_,rfl⟩
 rw [hg1,hg2,hs1,hs2]
 obtain ⟨s3,hs3⟩:∃ s,sgn g1 g2=s:=⟨_,rfl⟩
 obtain ⟨s4,hs4⟩:∃ s,sgnB q.v.s p.v.s=s:=⟨_,rfl⟩
 rw [hs3,hs4]
 obtain ⟨rr,hrr⟩:∃ rr,orL [s1,s2,s3,s4,r5,r6]=rr:=⟨_,rfl⟩
 rw [hrr]
 have HRR:=hid hrr
 clear hrr
 have C1:Hid (∀ W,Calls Tryz.prog 32 #[.int .i64 q.v.k,.int .i64 p.v.k] W (CmpPost s1 W)):=hid (fun W=>by have:=cmpInt_any q.v.k p.v.k W;rwa [hs1] at this)
 have C2:Hid (∀ W,Calls Tryz.prog 33 #[.int .i64 q.v.n,.int .i64 p.v.n] W (CmpPost s2 W)):=hid (fun W=>by have:=cmpI64_any q.v.n p.v.n W;rwa [hs2] at this)
 have C3:Hid (∀ W,Calls Tryz.prog 34 #[.int .u64 g1,.int .u64 g2] W (CmpPost s3 W)):=hid (fun W=>by have:=cmpU64_any g1 g2 W;rwa [hs3] at this)
 have C4:Hid (∀ W,Calls Tryz.prog 36 #[.string q.v.s,.string p.v.s] W (CmpPost s4 W)):=hid (fun W=>by have:=cmpStr_any q.v.s p.v.s W;rwa [hs4] at this)
 have R1:Hid (∀ W,Calls Tryz.prog 35 #[.int .u64 q.v.f] W (RankPost g1 W)):=hid (fun W=>by have:=rank_any q.v.f W hq.f0 hq.f1;rwa [hg1] at this)
 have R2:Hid (∀ W,Calls Tryz.prog 35 #[.int .u64 p.v.f] W (RankPost g2 W)):=hid (fun W=>by have:=rank_any p.v.f W hp.f0 hp.f1;rwa [hg2] at this)
 clear hg1 hg2 hs1 hs2 hs3 hs4 hq hp ih5 ih6
 go_enter Tryz.func18,Tryz.ntmps18
 go_upto_region 1 with fail
 generalize hw2:World.alloc (World.alloc w _) _=w2 at HT ⊢
 clear hw2
 have HTd:=hid (HT.out.keep (Gx.drewN_below w2 1 _))
 have hk2:SixTwo w2.drew w.heap.size (w.heap.size+1) q p:=HTd.out.cells
 unfold SixTwo at hk2
 go_region_held3 (fun w'=>w'.cell? ⟨w.heap.size,0,none⟩=some (.int .i64 q.v.k)/\w'.cell? ⟨w.heap.size,1,none⟩=some (.int .i64 q.v.n)/\w'.cell? ⟨w.heap.size,2,none⟩=some (.int .u64 q.v.f)/\w'.cell? ⟨w.heap.size,3,none⟩=some (.string q.v.s)/\w'.cell? ⟨w.heap.size,4,none⟩=some (.slice q.ad q.v.l.length q.cap)/\w'.cell? ⟨w.heap.size,5,none⟩=some (.slice q.bd q.v.e.length q.dap)/\w'.cell? ⟨w.heap.size+1,0,none⟩=some (.int .i64 p.v.k)/\w'.cell? ⟨w.heap.size+1,1,none⟩=some (.int .i64 p.v.n)/\w'.cell? ⟨w.heap.size+1,2,none⟩=some (.int .u64 p.v.f)/\w'.cell? ⟨w.heap.size+1,3,none⟩=some (.string p.v.s)/\w'.cell? ⟨w.heap.size+1,4,none⟩=some (.slice p.ad p.v.l.length p.cap)/\w'.cell? ⟨w.heap.size+1,5,none⟩=some (.slice p.bd p.v.e.length p.dap)) (first|exact hk2|exact hk3|exact hk4|exact hk5|go_keep)
  (first
    | (go_simp;(with_reducible refine (C1.out _).mono ?_);rintro e w' ⟨rfl,rfl⟩)
    | (go_simp;(with_reducible refine (C2.out _).mono ?_);rintro e w' ⟨rfl,rfl⟩)
    | (go_simp;(with_reducible refine (R1.out _).mono ?_);rintro e w' ⟨rfl,rfl⟩)
    | (go_simp;(with_reducible refine (R2.out _).mono ?_);rintro e w' ⟨rfl,rfl⟩)
    | (go_simp;(with_reducible refine (C3.out _).mono ?_);rintro e w' ⟨rfl,rfl⟩)
    | (go_simp;(with_reducible refine (C4.out _).mono ?_);rintro e w' ⟨rfl,rfl⟩)
    | (go_simp;refine (IH5.out _ HTd.out.g).mono ?_;rintro e w3 ⟨rfl,hb3⟩;have hT3:=HTd.out.keep (W':=w3) (hb3);have hk3:=hT3.cells;unfold SixTwo at hk3;have HT3:=hid hT3;clear hb3 hT3)
    | (go_simp;refine (IH6.out _ HT3.out.g).mono ?_;rintro e w4 ⟨rfl,hb4⟩;have hT4:=HT3.out.keep (W':=w4) (hb4);have hk4:=hT4.cells;unfold SixTwo at hk4;have HT4:=hid hT4;have hT5:=hT4.keep ((Below.refl _ w4).alloc (Nat.le_refl _) (.cells #[.int .i64 s1,.int .i64 s2,.int .i64 s3,.int .i64 s4,.int .i64 r5,.int .i64 r6] 3));have hk5:=hT5.cells;unfold SixTwo at hk5;have HT5:=hid hT5;clear hb4 hT4 hT5)
    | (go_simp;refine (or_any _ 6 [s1,s2,s3,s4,r5,r6] _ (ints_at w4 [s1,s2,s3,s4,r5,r6] 3) (by simp)).mono ?_;rintro e w' ⟨rfl,rfl⟩))
 go_wp2_with fail
 try go_ret
 exact ⟨by rw [<-HRR.out];rfl,HT5.out.g⟩
theorem Compare_any:∀ (n:Nat) (q p:Loc) (w:World),SizeOf.sizeOf q.v<=n->VAt w (fun _=>True) q->VAt w (fun _=>True) p->Calls Tryz.prog 18 #[q.val,p.val] w (IntPost (cmpD n q.v p.v) w)
 | 0,q,p,w,h,_,_=>by cases q with|mk v _ _ _ _=>cases v;simp at h
 | n+1,q,p,w,h,hq,hp=>by
   have ih:=Compare_any n
   refine compare_step q p w _ _ hq.wf hp.wf (fun W hW=>?_) (fun W hW=>?_)
   ·exact cmpVals_any (cmpD n) q.v.l p.v.l q.ad p.ad q.cap p.cap W (hq.l.keep hW) (hp.l.keep hW) (fun q' p' w' hm h1 h2=>ih q' p' w' (by have:=V.lt_l hm;omega) h1 h2)
   ·refine cmpEnts_any (cmpEn (cmpD n)) q.v.e p.v.e q.bd p.bd q.dap p.dap W (hq.e.keep hW) (hp.e.keep hW) (fun x y q' p' w' hm e1 e2 h1 h2=>?_)
    have hlt:=V.lt_e hm
    have:=cmpEnt_any x.1 y.1 q' p' (cmpD n q'.v p'.v) w' h1 h2 (fun W' hW'=>ih q' p' W' (by rw [e1];omega) (h1.keep hW') (h2.keep hW'))
    rw [e1,e2] at this ⊢
    exact this
end Go.Proofs.YtgnonbdkmmkdgaaGreatDoor
