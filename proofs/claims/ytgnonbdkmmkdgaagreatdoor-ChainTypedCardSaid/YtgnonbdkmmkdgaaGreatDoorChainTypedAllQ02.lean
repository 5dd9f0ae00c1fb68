/-
  Lemmas for the statement: plain laws, and what functions answer; the conditions stand in each.
-/
import Derived.BigRegion
import Derived.Test.YtgnonbdkmmkdgaaGreatDoorChainTypedAllQ01
set_option linter.unusedVariables false
set_option linter.unusedSimpArgs false
set_option maxHeartbeats 16000000
set_option maxRecDepth 100000
open Go.Lib (hid)
namespace Go.Proofs.YtgnonbdkmmkdgaaGreatDoor
open Go.RowKit Gx
def cmpL {α:Type} (f:α->α->Int):List α->List α->Int
 | [],[]=>0
 | [],_::_=>-1
 | _::_,[]=>1
 | x::xs,y::ys=>if f x y≠0 then f x y else cmpL f xs ys
theorem cmpL_step {α:Type} {f:α->α->Int} {a b:List α} {k:Nat} {x y:α} (hx:a[k]?=some x) (hy:b[k]?=some y):cmpL f (a.drop k) (b.drop k)=if f x y≠0 then f x y else cmpL f (a.drop (k+1)) (b.drop (k+1)):=by
 obtain ⟨h1,e1⟩:=List.getElem?_eq_some_iff.1 hx
 obtain ⟨h2,e2⟩:=List.getElem?_eq_some_iff.1 hy
 rw [List.drop_eq_getElem_cons h1,List.drop_eq_getElem_cons h2,e1,e2,cmpL]
theorem cmpL_long {α:Type} {f:α->α->Int} {a b:List α} {k:Nat} (ha:k<a.length) (hb:b.length<=k):cmpL f (a.drop k) (b.drop k)=1:=by
 rw [List.drop_eq_getElem_cons ha,List.drop_of_length_le hb,cmpL]
theorem cmpL_end {α:Type} {f:α->α->Int} {a b:List α} {k:Nat} (ha:a.length<=k):cmpL f (a.drop k) (b.drop k)=if k<b.length then -1 else 0:=by
 rw [List.drop_of_length_le ha]
 by_cases h:k<b.length
 ·rw [if_pos h,List.drop_eq_getElem_cons h,cmpL]
 ·rw [if_neg h,List.drop_of_length_le (by omega),cmpL]
def IntPost (c:Int) (w:World) (e:Ending) (w':World):Prop:=e=.returned (.int .i64 c)/\Below w.heap.size w w'
theorem cmpVals_any (f:V->V->Int) (l l':List V) (ad ad':Option Addr) (cap cap':Nat) (w:World) (h:RowAt w (fun _=>True) false (lp l) (.slice ad l.length cap)) (h':RowAt w (fun _=>True) false (lp l') (.slice ad' l'.length cap'))
 (ih:∀ (q p:Loc) (w:World),q.v∈l->VAt w (fun _=>True) q->VAt w (fun _=>True) p->Calls Tryz.prog 18 #[q.val,p.val] w (IntPost (f q.v p.v) w)) :
 Calls Tryz.prog 37 #[.slice ad l.length cap,.slice ad' l'.length cap',.func (.func 18) #[] #[]] w (IntPost (cmpL f l l') w):=by
 have hb:=h.lbound
 have hb':=h'.lbound
 obtain ⟨n,hn⟩:∃ n,l.length=n:=⟨_,rfl⟩
 obtain ⟨n',hn'⟩:∃ n',l'.length=n':=⟨_,rfl⟩
 rw [hn] at hb h ⊢
 rw [hn'] at hb' h' ⊢
 have HN:=hid hn
 have HN':=hid hn'
 have H:=hid h
 have H':=hid h'
 have IH:=hid ih
 clear hn hn' h h' ih
 go_enter Tryz.func37,Tryz.ntmps37
 go_wp2_with fail
 go_loopw [13] (fun v13 wr=>∃ k:Nat,k<=n/\v13=.int .i64 k/\Hid (Below w.heap.size w wr)/\Hid (cmpL f (l.drop k) (l'.drop k)=cmpL f l l')) (fun v13 _=>n - (intOf v13).toNat)
 case atStart=>exact ⟨0,Nat.zero_le _,rfl,hid (Below.refl _ _),rfl⟩
 case round =>
  obtain ⟨k,hk,rfl,HB,HK⟩:=hrel
  by_cases hlt:k<n
  ·obtain ⟨x,hx⟩:∃ x,l[k]?=some x:=⟨_,List.getElem?_eq_getElem (by rw [HN.out];exact hlt)⟩
   obtain ⟨b,off,hd,-,hbl,hcs⟩:=H.out.elem (by rw [HN.out];omega)
   subst hd
   obtain ⟨q,rfl,hvq,gs⟩:=hcs k x hx
   obtain ⟨g0,g1,g2,g3,g4,g5⟩:=gs.through (HB.out.block _ hbl)
   have hc6:CellsAt (wr.alloc (.cells #[.int .i64 q.v.k,.int .i64 q.v.n,.int .u64 q.v.f,.string q.v.s,.slice q.ad q.v.l.length q.cap,.slice q.bd q.v.e.length q.dap] 32)) wr.heap.size 0 q:=CellsAt.box (heap_alloc_new wr _)
   have hb6:Below w.heap.size w (wr.alloc (.cells #[.int .i64 q.v.k,.int .i64 q.v.n,.int .u64 q.v.f,.string q.v.s,.slice q.ad q.v.l.length q.cap,.slice q.bd q.v.e.length q.dap] 32)):=HB.out.alloc HB.out.size _
   have hsz6:wr.heap.size<(wr.alloc (.cells #[.int .i64 q.v.k,.int .i64 q.v.n,.int .u64 q.v.f,.string q.v.s,.slice q.ad q.v.l.length q.cap,.slice q.bd q.v.e.length q.dap] 32)).heap.size:=by simp
   go_upto_region 4 with fail
   generalize hw6:World.alloc wr _=w6 at hc6 hb6 hsz6 ⊢
   clear hw6 g0 g1 g2 g3 g4 g5 gs hcs
   have HB6:=hid hb6
   have HC6:=hid hc6
   have HQ:=hid hvq
   have HX:=hid hx
   clear hb6 hc6 hvq hx
   by_cases hlt2:k<n'
   ·have t1:decide ((n':Int)<=(k:Int))=false:=decide_eq_false (by omega)
    have t1n:decide (n'<=k)=false:=decide_eq_false (by omega)
    obtain ⟨y,hy⟩:∃ y,l'[k]?=some y:=⟨_,List.getElem?_eq_getElem (by rw [HN'.out];exact hlt2)⟩
    obtain ⟨b',off',hd,-,hbl',hcs⟩:=H'.out.elem (by rw [HN'.out];omega)
    subst hd
    obtain ⟨p,rfl,hvp,gs⟩:=hcs k y hy
    obtain ⟨g0,g1,g2,g3,g4,g5⟩:=gs.through (HB6.out.block _ hbl')
    have hc7:CellsAt (w6.alloc (.cells #[.int .i64 p.v.k,.int .i64 p.v.n,.int .u64 p.v.f,.string p.v.s,.slice p.ad p.v.l.length p.cap,.slice p.bd p.v.e.length p.dap] 32)) w6.heap.size 0 p:=CellsAt.box (heap_alloc_new w6 _)
    have hb7:Below w.heap.size w (w6.alloc (.cells #[.int .i64 p.v.k,.int .i64 p.v.n,.int .u64 p.v.f,.string p.v.s,.slice p.ad p.v.l.length p.cap,.slice p.bd p.v.e.length p.dap] 32)):=HB6.out.alloc HB6.out.size _
    have hb67:CellsAt (w6.alloc (.cells #[.int .i64 p.v.k,.int .i64 p.v.n,.int .u64 p.v.f,.string p.v.s,.slice p.ad p.v.l.length p.cap,.slice p.bd p.v.e.length p.dap] 32)) wr.heap.size 0 q:=HC6.out.through (Below.heap_alloc w6 _ _ hsz6)
    go_upto_region 7 with fail
    generalize hw7:World.alloc w6 _=w7 at hc7 hb7 hb67 ⊢
    clear hw7 g0 g1 g2 g3 g4 g5 gs hcs t1 t1n
    obtain ⟨a0,a1,a2,a3,a4,a5⟩:=hb67
    obtain ⟨d0,d1,d2,d3,d4,d5⟩:=hc7
    have hih:=IH.out q p w7 (List.mem_of_getElem? HX.out) (HQ.out.keep hb7) (hvp.keep hb7)
    simp only [Loc.val] at hih
    have HIH:=hid hih
    have hst:=cmpL_step (f:=f) HX.out hy
    rw [HK.out] at hst
    have HST:=hid hst
    have HB7:=hid hb7
    clear hih hst hb7 hvp hy
    obtain ⟨r,hr⟩:∃ r,f q.v p.v=r:=⟨_,rfl⟩
    rw [hr] at HIH HST
    clear hr
    go_wp2_with fail
    (with_reducible refine HIH.out.mono ?_)
    rintro e w8 ⟨rfl,hb8⟩
    have HB8:=hid (HB7.out.trans (hb8.mono HB7.out.size))
    clear hb8 a0 a1 a2 a3 a4 a5 d0 d1 d2 d3 d4 d5
    by_cases h0:r=0
    ·subst h0
     have HK2:Hid (cmpL f (l.drop (k+1)) (l'.drop (k+1))=cmpL f l l'):=hid (by rw [HST.out];rfl)
     go_wp2_with fail
     go_roundw
     case rel=>exact ⟨k+1,by omega,by go_num,HB8,HK2⟩
     case measure=>simp [intOf];omega
    ·have t2:(r != 0)=true:=by simpa using h0
     have HR:Hid (cmpL f l l'=r):=hid (by rw [HST.out,if_pos h0])
     clear h0
     go_wp2_with fail
     try go_ret
     exact ⟨by rw [HR.out];rfl,HB8.out⟩
   ·have t1:decide ((n':Int)<=(k:Int))=true:=decide_eq_true (by omega)
    have t1n:decide (n'<=k)=true:=decide_eq_true (by omega)
    have HR:Hid (cmpL f l l'=1):=hid (by rw [<-HK.out];exact cmpL_long (by rw [HN.out];exact hlt) (by rw [HN'.out];omega))
    go_wp2_with fail
    try go_ret
    exact ⟨by rw [HR.out];rfl,HB6.out⟩
  ·obtain rfl:k=n:=by omega
   have hke:=HK.out
   rw [cmpL_end (Nat.le_of_eq HN.out),HN'.out] at hke
   have HKE:=hid hke
   clear hke
   by_cases hlt2:k<n'
   ·have t1:decide ((k:Int)<(n':Int))=true:=decide_eq_true (by omega)
    have t1n:decide (k<n')=true:=decide_eq_true (by omega)
    have HR:Hid (cmpL f l l'=-1):=hid (by rw [<-HKE.out,if_pos hlt2])
    go_wp2_with fail
    try go_ret
    exact ⟨by rw [HR.out];rfl,HB.out⟩
   ·have t1:decide ((k:Int)<(n':Int))=false:=decide_eq_false (by omega)
    have t1n:decide (k<n')=false:=decide_eq_false (by omega)
    have HR:Hid (cmpL f l l'=0):=hid (by rw [<-HKE.out,if_neg hlt2])
    go_wp2_with fail
    try go_ret
    exact ⟨by rw [HR.out];rfl,HB.out⟩
structure SevAt (w:World) (b:Nat) (key:ByteArray) (q:Loc):Prop where
 k:w.cell? ⟨b,0,none⟩=some (.string key)
 c0:w.cell? ⟨b,1,none⟩=some (.int .i64 q.v.k)
 c1:w.cell? ⟨b,2,none⟩=some (.int .i64 q.v.n)
 c2:w.cell? ⟨b,3,none⟩=some (.int .u64 q.v.f)
 c3:w.cell? ⟨b,4,none⟩=some (.string q.v.s)
 c4:w.cell? ⟨b,5,none⟩=some (.slice q.ad q.v.l.length q.cap)
 c5:w.cell? ⟨b,6,none⟩=some (.slice q.bd q.v.e.length q.dap)
theorem SevAt.box {w:World} {b:Nat} {key:ByteArray} {q:Loc} {ty:TypeId} (h:w.heap[b]?=some (.cells #[.string key,.int .i64 q.v.k,.int .i64 q.v.n,.int .u64 q.v.f,.string q.v.s,.slice q.ad q.v.l.length q.cap,.slice q.bd q.v.e.length q.dap] ty)):SevAt w b key q:=by
 constructor<;>simp [World.cell?,h]
theorem SevAt.through {w w':World} {b:Nat} {key:ByteArray} {q:Loc} (h:SevAt w b key q) (hb:w'.heap[b]?=w.heap[b]?):SevAt w' b key q:=by
 have hq:∀ o,w'.cell? ⟨b,o,none⟩=w.cell? ⟨b,o,none⟩:=fun o=>World.cell?_of_block hb
 exact ⟨(hq _).trans h.k,(hq _).trans h.c0,(hq _).trans h.c1,(hq _).trans h.c2,(hq _).trans h.c3,(hq _).trans h.c4,(hq _).trans h.c5⟩
theorem cmpEnts_any (f:ByteArray×V->ByteArray×V->Int) (l l':List (ByteArray×V)) (ad ad':Option Addr) (cap cap':Nat) (w:World) (h:RowAt w (fun _=>True) true l (.slice ad l.length cap)) (h':RowAt w (fun _=>True) true l' (.slice ad' l'.length cap'))
 (ih:∀ (x y:ByteArray×V) (q p:Loc) (w:World),x∈l->q.v=x.2->p.v=y.2->VAt w (fun _=>True) q->VAt w (fun _=>True) p->Calls Tryz.prog 39 #[.agg #[.string x.1,.int .i64 q.v.k,.int .i64 q.v.n,.int .u64 q.v.f,.string q.v.s,.slice q.ad q.v.l.length q.cap,.slice q.bd q.v.e.length q.dap],.agg #[.string y.1,.int .i64 p.v.k,.int .i64 p.v.n,.int .u64 p.v.f,.string p.v.s,.slice p.ad p.v.l.length p.cap,.slice p.bd p.v.e.length p.dap]] w (IntPost (f x y) w)) :
 Calls Tryz.prog 38 #[.slice ad l.length cap,.slice ad' l'.length cap',.func (.func 39) #[] #[]] w (IntPost (cmpL f l l') w):=by
 have hb:=h.ebound
 have hb':=h'.ebound
 obtain ⟨n,hn⟩:∃ n,l.length=n:=⟨_,rfl⟩
 obtain ⟨n',hn'⟩:∃ n',l'.length=n':=⟨_,rfl⟩
 rw [hn] at hb h ⊢
 rw [hn'] at hb' h' ⊢
 have HN:=hid hn
 have HN':=hid hn'
 have H:=hid h
 have H':=hid h'
 have IH:=hid ih
 clear hn hn' h h' ih
 go_enter Tryz.func38,Tryz.ntmps38
 go_wp2_with fail
 go_loopw [13] (fun v13 wr=>∃ k:Nat,k<=n/\v13=.int .i64 k/\Hid (Below w.heap.size w wr)/\Hid (cmpL f (l.drop k) (l'.drop k)=cmpL f l l')) (fun v13 _=>n - (intOf v13).toNat)
 case atStart=>exact ⟨0,Nat.zero_le _,rfl,hid (Below.refl _ _),rfl⟩
 case round =>
  obtain ⟨k,hk,rfl,HB,HK⟩:=hrel
  by_cases hlt:k<n
  ·obtain ⟨x,hx⟩:∃ x,l[k]?=some x:=⟨_,List.getElem?_eq_getElem (by rw [HN.out];exact hlt)⟩
   obtain ⟨b,off,hd,-,hbl,hcs⟩:=H.out.entry (by rw [HN.out];omega)
   subst hd
   obtain ⟨-,gk,q,hqx,hvq,gs⟩:=hcs k x hx
   have HQX:=hid hqx
   clear hqx
   have gk':wr.cell? ⟨b,off+k * 7,none⟩=_:=(World.cell?_of_block (HB.out.block _ hbl)).trans gk
   obtain ⟨g0,g1,g2,g3,g4,g5⟩:=(gs.through (HB.out.block _ hbl)).seven
   have hc6:SevAt (wr.alloc (.cells #[.string x.1,.int .i64 q.v.k,.int .i64 q.v.n,.int .u64 q.v.f,.string q.v.s,.slice q.ad q.v.l.length q.cap,.slice q.bd q.v.e.length q.dap] 96)) wr.heap.size x.1 q:=SevAt.box (heap_alloc_new wr _)
   have hb6:Below w.heap.size w (wr.alloc (.cells #[.string x.1,.int .i64 q.v.k,.int .i64 q.v.n,.int .u64 q.v.f,.string q.v.s,.slice q.ad q.v.l.length q.cap,.slice q.bd q.v.e.length q.dap] 96)):=HB.out.alloc HB.out.size _
   have hsz6:wr.heap.size<(wr.alloc (.cells #[.string x.1,.int .i64 q.v.k,.int .i64 q.v.n,.int .u64 q.v.f,.string q.v.s,.slice q.ad q.v.l.length q.cap,.slice q.bd q.v.e.length q.dap] 96)).heap.size:=by simp
   go_upto_region 4 with fail
   generalize hw6:World.alloc wr _=w6 at hc6 hb6 hsz6 ⊢
   clear hw6 gk gk' g0 g1 g2 g3 g4 g5 gs hcs
   have HB6:=hid hb6
   have HC6:=hid hc6
   have HQ:=hid hvq
   have HX:=hid hx
   clear hb6 hc6 hvq hx
   by_cases hlt2:k<n'
   ·have t1:decide ((n':Int)<=(k:Int))=false:=decide_eq_false (by omega)
    have t1n:decide (n'<=k)=false:=decide_eq_false (by omega)
    obtain ⟨y,hy⟩:∃ y,l'[k]?=some y:=⟨_,List.getElem?_eq_getElem (by rw [HN'.out];exact hlt2)⟩
    obtain ⟨b',off',hd,-,hbl',hcs⟩:=H'.out.entry (by rw [HN'.out];omega)
    subst hd
    obtain ⟨-,gk,p,hpy,hvp,gs⟩:=hcs k y hy
    have HPY:=hid hpy
    clear hpy
    have gk':w6.cell? ⟨b',off'+k * 7,none⟩=_:=(World.cell?_of_block (HB6.out.block _ hbl')).trans gk
    obtain ⟨g0,g1,g2,g3,g4,g5⟩:=(gs.through (HB6.out.block _ hbl')).seven
    have hc7:SevAt (w6.alloc (.cells #[.string y.1,.int .i64 p.v.k,.int .i64 p.v.n,.int .u64 p.v.f,.string p.v.s,.slice p.ad p.v.l.length p.cap,.slice p.bd p.v.e.length p.dap] 96)) w6.heap.size y.1 p:=SevAt.box (heap_alloc_new w6 _)
    have hb7:Below w.heap.size w (w6.alloc (.cells #[.string y.1,.int .i64 p.v.k,.int .i64 p.v.n,.int .u64 p.v.f,.string p.v.s,.slice p.ad p.v.l.length p.cap,.slice p.bd p.v.e.length p.dap] 96)):=HB6.out.alloc HB6.out.size _
    have hb67:SevAt (w6.alloc (.cells #[.string y.1,.int .i64 p.v.k,.int .i64 p.v.n,.int .u64 p.v.f,.string p.v.s,.slice p.ad p.v.l.length p.cap,.slice p.bd p.v.e.length p.dap] 96)) wr.heap.size x.1 q:=HC6.out.through (Below.heap_alloc w6 _ _ hsz6)
    go_upto_region 7 with fail
    generalize hw7:World.alloc w6 _=w7 at hc7 hb7 hb67 ⊢
    clear hw7 gk gk' g0 g1 g2 g3 g4 g5 gs hcs t1 t1n
    obtain ⟨ak,a0,a1,a2,a3,a4,a5⟩:=hb67
    obtain ⟨dk,d0,d1,d2,d3,d4,d5⟩:=hc7
    have hih:=IH.out x y q p w7 (List.mem_of_getElem? HX.out) HQX.out HPY.out (HQ.out.keep hb7) (hvp.keep hb7)
    have HIH:=hid hih
    have hst:=cmpL_step (f:=f) HX.out hy
    rw [HK.out] at hst
    have HST:=hid hst
    have HB7:=hid hb7
    clear hih hst hb7 hvp hy
    obtain ⟨r,hr⟩:∃ r,f x y=r:=⟨_,rfl⟩
    rw [hr] at HIH HST
    clear hr
    go_wp2_with fail
    (with_reducible refine HIH.out.mono ?_)
    rintro e w8 ⟨rfl,hb8⟩
    have HB8:=hid (HB7.out.trans (hb8.mono HB7.out.size))
    clear hb8 ak dk a0 a1 a2 a3 a4 a5 d0 d1 d2 d3 d4 d5
    by_cases h0:r=0
    ·subst h0
     have HK2:Hid (cmpL f (l.drop (k+1)) (l'.drop (k+1))=cmpL f l l'):=hid (by rw [HST.out];rfl)
     go_wp2_with fail
     go_roundw
     case rel=>exact ⟨k+1,by omega,by go_num,HB8,HK2⟩
     case measure=>simp [intOf];omega
    ·have t2:(r != 0)=true:=by simpa using h0
     have HR:Hid (cmpL f l l'=r):=hid (by rw [HST.out,if_pos h0])
     clear h0
     go_wp2_with fail
     try go_ret
     exact ⟨by rw [HR.out];rfl,HB8.out⟩
   ·have t1:decide ((n':Int)<=(k:Int))=true:=decide_eq_true (by omega)
    have t1n:decide (n'<=k)=true:=decide_eq_true (by omega)
    have HR:Hid (cmpL f l l'=1):=hid (by rw [<-HK.out];exact cmpL_long (by rw [HN.out];exact hlt) (by rw [HN'.out];omega))
    go_wp2_with fail
    try go_ret
    exact ⟨by rw [HR.out];rfl,HB6.out⟩
  ·obtain rfl:k=n:=by omega
   have hke:=HK.out
   rw [cmpL_end (Nat.le_of_eq HN.out),HN'.out] at hke
   have HKE:=hid hke
   clear hke
   by_cases hlt2:k<n'
   ·have t1:decide ((k:Int)<(n':Int))=true:=decide_eq_true (by omega)
    have t1n:decide (k<n')=true:=decide_eq_true (by omega)
    have HR:Hid (cmpL f l l'=-1):=hid (by rw [<-HKE.out,if_pos hlt2])
    go_wp2_with fail
    try go_ret
    exact ⟨by rw [HR.out];rfl,HB.out⟩
   ·have t1:decide ((k:Int)<(n':Int))=false:=decide_eq_false (by omega)
    have t1n:decide (k<n')=false:=decide_eq_false (by omega)
    have HR:Hid (cmpL f l l'=0):=hid (by rw [<-HKE.out,if_neg hlt2])
    go_wp2_with fail
    try go_ret
    exact ⟨by rw [HR.out];rfl,HB.out⟩
theorem findF_any (ad:Option Addr) (cap:Nat) (l:List (Fd Ty)) (s:ByteArray) (w:World) (h:TRow w (fun _=>True) true l (.slice ad l.length cap)) :
 Calls Tryz.prog 74 #[.slice ad l.length cap,.string s] w (IdxPostE (fpos s l) l.length w):=by
 have hbl:=(Below.refl w.heap.size w).alloc (Nat.le_refl _) (.cells #[.string s] 9)
 have hs1:(w.alloc (.cells #[.string s] 9)).cell? ⟨w.heap.size,0,none⟩=some (.string s):=by have:=heap_alloc_new w (.cells #[.string s] 9);exact (by simp only [World.cell?,this];rfl)
 have HC:=hid (indexFd_any 101 (.inr rfl) ad cap l w.heap.size s _ (h.keep' hbl) hs1)
 have HB:=hid hbl
 obtain ⟨I,hI⟩:∃ I:Int,(if fpos s l<l.length then (fpos s l:Int) else -1)=I:=⟨_,rfl⟩
 unfold IdxPostE at HC ⊢
 rw [hI] at HC ⊢
 clear h hs1 hbl hI
 generalize l.length=n at *
 go_enter Tryz.func74,Tryz.ntmps74
 go_upto_region 1 with fail
 generalize hw2:World.alloc w _=w2 at HB HC ⊢
 clear hw2
 go_wp2_with fail
 (with_reducible refine HC.out.mono ?_)
 rintro e w3 ⟨rfl,hb3⟩
 have HB3:=hid (HB.out.trans (hb3.mono HB.out.size))
 clear hb3
 go_wp2_with fail
 try go_ret
 refine ⟨?_,HB3.out⟩
 rfl
def askedF (a:Ty) (s:ByteArray):Int:=match fdOf a.f s with
 | none=>-1
 | some f=>if f.o || f.h then -2 else (fpos s a.f:Int)
theorem asked_any (q:Lt) (s:ByteArray) (w:World) (hq:TyAt w (fun _=>True) q):Calls Tryz.prog 50 #[q.val,.string s] w (IntB (askedF q.v s) w):=by
 have hb:=(Below.refl w.heap.size w).alloc (Nat.le_refl _) (.cells #[.int .i64 q.v.k,.int .i64 q.v.lo,.int .i64 q.v.hi,.slice q.xd q.v.x.length q.xc,.slice q.td q.v.t.length q.tc,.slice q.fd q.v.f.length q.fc,.string q.v.n] 27)
 have hc:=heap_alloc_new w (.cells #[.int .i64 q.v.k,.int .i64 q.v.lo,.int .i64 q.v.hi,.slice q.xd q.v.x.length q.xc,.slice q.td q.v.t.length q.tc,.slice q.fd q.v.f.length q.fc,.string q.v.n] 27)
 have HB:=hid hb
 have HQ:=hid (hq.keep hb)
 have hfw:=hq.f.wide
 obtain ⟨nf,hnf⟩:∃ nf,q.v.f.length=nf:=⟨_,rfl⟩
 have HNF:=hid hnf
 unfold Lt.val
 rw [hnf] at hc HB HQ hfw
 rw [hnf]
 generalize hfa:q.fd=fa at *
 have HFA:=hid hfa
 clear hb hq hnf hfa
 go_enter Tryz.func50,Tryz.ntmps50
 go_upto_region 1 with fail
 generalize World.alloc w _=w1 at hc HB HQ ⊢
 generalize hS:w.heap.size=S at hc ⊢
 obtain ⟨c0,c1,c2,c3,c4,c5,c6,-⟩:=ty_cells hc
 have hcall:=findF_any q.fd q.fc q.v.f s w1 HQ.out.f
 unfold IdxPostE at hcall
 rw [HNF.out,HFA.out] at hcall
 have HC:=hid hcall
 have HTC:=hid hc
 clear hc hS hcall
 go_wp2_with fail
 (with_reducible refine HC.out.mono ?_)
 rintro e w2 ⟨rfl,hb2⟩
 have HB2:=hid hb2
 have hc2:=(hb2.block _ (Array.getElem?_eq_some_iff.1 HTC.out).1).trans HTC.out
 clear c0 c1 c2 c3 c4 c5 c6 hb2 HC HTC
 by_cases hi:fpos s q.v.f<nf
 ·rw [if_pos hi]
  obtain ⟨i,hii⟩:∃ i,fpos s q.v.f=i:=⟨_,rfl⟩
  rw [hii] at hi ⊢
  obtain ⟨f,hf⟩:∃ f,q.v.f[i]?=some f:=⟨_,List.getElem?_eq_getElem (by rw [HNF.out];exact hi)⟩
  have hfd:fdOf q.v.f s=some f:=by rw [fdOf_fpos,hii];exact hf
  obtain ⟨b2,o2,hd2,-,hbl2,hcs2⟩:=HQ.out.f.fieldF (by rw [HNF.out];omega)
  rw [HFA.out] at hd2
  subst hd2
  obtain ⟨p,hp,-,-,-,hpc⟩:=hcs2 i f hf
  obtain ⟨-,z1,z2,-⟩:=hpc.through (w':=w2) (HB2.out.block _ hbl2)
  obtain ⟨po,hpo⟩:∃ po,p.o=po:=⟨_,rfl⟩
  obtain ⟨ph,hph⟩:∃ ph,p.h=ph:=⟨_,rfl⟩
  have HA:Hid (askedF q.v s=if po || ph then -2 else (i:Int)):=hid (by
   unfold askedF
   rw [hfd,hii]
   simp only
   rw [<-hp,<-hpo,<-hph];rfl)
  rw [hpo] at z1
  rw [hph] at z2
  obtain ⟨c0,c1,c2,c3,c4,c5,c6,-⟩:=ty_cells hc2
  have r3:(0:Int)<=(i:Int):=by omega
  have r5:(i:Int)<(nf:Int):=by omega
  have HX:Hid (∀ n,askedF q.v s=n->IntB (askedF q.v s) w (.returned (.int .i64 n)) w2):=hid (fun n h=>by rw [h];exact ⟨rfl,HB.out.trans (HB2.out.mono HB.out.size)⟩)
  clear hc2 hii hf hfd hp hpc hcs2 hpo hph HQ
  cases po<;>cases ph
  all_goals
   have HR:=hid (HX.out _ HA.out)
   simp only [Bool.or_true,Bool.or_false,Bool.true_or,Bool.false_or,if_true,if_false,Bool.false_eq_true] at HR
   clear HX HA
   go_wp2_with fail
   try go_ret
   exact HR.out
 ·rw [if_neg hi]
  have HR:Hid (IntB (askedF q.v s) w (.returned (.int .i64 (-1))) w2):=hid (by
   have h:fdOf q.v.f s=none:=by rw [fdOf_fpos];exact List.getElem?_eq_none (by rw [HNF.out];omega)
   unfold askedF
   rw [h]
   exact ⟨rfl,HB.out.trans (HB2.out.mono HB.out.size)⟩)
  clear hi hc2
  go_wp2_with fail
  try go_ret
  exact HR.out
theorem cmp_less:∀ a b:List UInt8,decide (Lib.compareBytes a b<0)=Op.bytesLess a b
 | [],[]=>rfl
 | [],_::_=>rfl
 | _::_,[]=>rfl
 | x::a,y::b=>by
   rw [Lib.compareBytes,Op.bytesLess]
   by_cases h1:x<y
   ·rw [if_pos h1,decide_eq_true h1];rfl
   ·rw [if_neg h1,decide_eq_false h1]
    by_cases h2:y<x
    ·have hne:¬ x=y:=fun e=>by subst e;exact h1 h2
     rw [if_pos h2,beq_eq_false_iff_ne.2 hne];rfl
    ·have he:x=y:=by
      rw [UInt8.lt_iff_toNat_lt] at h1 h2
      exact UInt8.toNat_inj.1 (by omega)
     subst he
     rw [if_neg h2,cmp_less a b];simp
theorem names_swo {cf:Ft->Ft->Int} (h:∀ p q,decide (cf p q<0)=Op.bytesLess p.n.data.toList q.n.data.toList):Sort.SWO (ltOf cf):=by
 have e:∀ p q,ltOf cf p q=Op.bytesLess p.n.data.toList q.n.data.toList:=h
 refine ⟨fun x=>?_,fun x y z h1 h2=>?_,fun x y z h1 h2=>?_⟩
 ·rw [e];exact bl_no _
 ·rw [e] at *;exact bl_tr h1 h2
 ·rw [e] at *
  cases hxz:Op.bytesLess x.n.data.toList z.n.data.toList with
  | false=>rfl
  | true =>
    rcases bl_tot x.n.data.toList y.n.data.toList with h|h|h
    ·rw [h1] at h;cases h
    ·rw [h,h2] at hxz;cases hxz
    ·have:=bl_tr h hxz
     rw [h2] at this;cases this
def cmpPut (p q:Ft):Int:=Lib.compareBytes p.n.data.toList q.n.data.toList
theorem cmpPut_swo:Sort.SWO (ltOf cmpPut):=names_swo fun p q=>cmp_less _ _
theorem put1_any (p q:Ft) (W:World):CmpDoes 98 p.val q.val (cmpPut p q) W:=by
 unfold CmpDoes cmpPut Ft.val
 have HC:=hid (fun W'=>Tryz.strings_Compare p.n q.n W')
 generalize Lib.compareBytes p.n.data.toList q.n.data.toList=r at HC ⊢
 go_enter Tryz.func98,Tryz.ntmps98
 go_wp2_with fail
 (with_reducible refine (HC.out _).mono ?_)
 rintro e w2 ⟨rfl,rfl⟩
 go_wp2_with fail
 try go_ret
 exact ⟨rfl,0,_,by rw [Sort.alloc_eq_grow,Sort.alloc_eq_grow,Sort.grow_grow];rfl⟩
def cmpTab (p q:Ft):Int:=if Op.bytesLess p.n.data.toList q.n.data.toList=true then -1 else 1
theorem cmpTab_swo:Sort.SWO (ltOf cmpTab):=names_swo fun p q=>by
 unfold cmpTab
 cases Op.bytesLess p.n.data.toList q.n.data.toList<;>rfl
theorem tables3_any (p q:Ft) (W:World):CmpDoes 169 p.val q.val (cmpTab p q) W:=by
 unfold CmpDoes cmpTab Ft.val
 have hl:Op.bytesLess p.n.toList q.n.toList=Op.bytesLess p.n.data.toList q.n.data.toList:=by rw [ByteArray.toList_eq,ByteArray.toList_eq]
 cases hb:Op.bytesLess p.n.data.toList q.n.data.toList with
 | true =>
   rw [hb] at hl
   clear hb
   go_enter Tryz.func169,Tryz.ntmps169
   go_wp2_with fail
   try go_ret
   exact ⟨rfl,0,_,by rw [Sort.alloc_eq_grow,Sort.alloc_eq_grow,Sort.grow_grow];rfl⟩
 | false =>
   rw [hb] at hl
   clear hb
   go_enter Tryz.func169,Tryz.ntmps169
   go_wp2_with fail
   try go_ret
   exact ⟨rfl,0,_,by rw [Sort.alloc_eq_grow,Sort.alloc_eq_grow,Sort.grow_grow];rfl⟩
def Pn (K:List ByteArray):Nat->Ty->Prop
 | 0,_=>False
 | d+1,a=>Nm a/\Prt a.k/\(∀ f∈a.f,f.n∈K)/\(∀ b∈a.t,∀ c∈partsT b,Pn K d c)/\∀ f∈a.f,∀ c∈partsT f.t,Pn K d c
def Jn (K:List ByteArray) (d:Nat) (a:Ty):Prop:=Nm a/\∀ c∈partsT a,Pn K d c
theorem Pn.up {K:List ByteArray}:∀ {d:Nat} {a:Ty},Pn K d a->Pn K (d+1) a
 | 0,_,h=>h.elim
 | d+1,a,h=>⟨h.1,h.2.1,h.2.2.1,fun b hb c hc=>(h.2.2.2.1 b hb c hc).up,fun f hf c hc=>(h.2.2.2.2 f hf c hc).up⟩
theorem Pn.mono {K:List ByteArray} {d e:Nat} {a:Ty} (h:Pn K d a) (hde:d<=e):Pn K e a:=by
 induction e with
 | zero=>obtain rfl:d=0:=by omega
         exact h
 | succ e ih =>
   by_cases hd:d=e+1
   ·subst hd;exact h
   ·exact (ih (by omega)).up
theorem Pn.nm {K:List ByteArray}:∀ {d:Nat} {a:Ty},Pn K d a->Nm a/\Prt a.k
 | 0,_,h=>h.elim
 | _+1,_,h=>⟨h.1,h.2.1⟩
theorem Pn.jn {K:List ByteArray} {d:Nat} {a:Ty} (h:Pn K d a):Jn K d a:=by
 refine ⟨h.nm.1,fun c hc=>?_⟩
 unfold partsT at hc
 rw [if_neg h.nm.2.ne.1] at hc
 rw [List.mem_singleton.1 hc];exact h
theorem jn_none {K:List ByteArray} {d:Nat} {a:Ty} (hk:a.k=11) (ht:a.t=[]):Jn K d a :=
 ⟨.union a hk (by rw [ht];simp) (fun b hb=>by rw [ht] at hb;cases hb) (fun b hb=>by rw [ht] at hb;cases hb),fun c hc=>by unfold partsT at hc;rw [if_pos hk,ht] at hc;cases hc⟩
theorem pn_leaf {K:List ByteArray} {a:Ty} (hp:Prt a.k) (h8:a.k≠8) (h10:a.k≠10) (hf:a.f=[]) (ht:a.t=[]):Pn K 1 a:=by
 unfold Pn
 rw [hf,ht]
 exact ⟨.leaf a hp h8 h10,hp,fun f h=>absurd h List.not_mem_nil,fun b h=>absurd h List.not_mem_nil,fun f h=>absurd h List.not_mem_nil⟩
theorem names_le:∀ {l K:List ByteArray},l.Nodup->(∀ x∈l,x∈K)->l.length<=K.length
 | [],_,_,_=>Nat.zero_le _
 | x::l,K,hn,hK=>by
   rw [List.nodup_cons] at hn
   have hx:x∈K:=hK x List.mem_cons_self
   have ih:=names_le (l:=l) (K:=K.filter fun y=>!decide (y=x)) hn.2 (fun y hy=>by
    have hne:y≠x:=fun e=>hn.1 (e▸hy)
    exact List.mem_filter.2 ⟨hK y (List.mem_cons_of_mem _ hy),by simp [hne]⟩)
   have h1:(K.filter fun y=>!decide (y=x)).length<K.length:=List.length_filter_lt_length_iff_exists.2 ⟨x,hx,by simp⟩
   rw [List.length_cons];omega
theorem Nm.rec_inv {x:Ty} (hx:Nm x) (hk:x.k=10):(x.f.map Fd.n).Nodup/\(∀ f∈x.f,f.h=false)/\∀ f∈x.f,Nm f.t:=by
 cases hx with
 | leaf _ _ _ h=>exact absurd hk h
 | list _ _ h=>omega
 | record _ _ h1 h2 h3=>exact ⟨h1,h2,h3⟩
 | union _ h=>omega
theorem Nm.list_inv {x:Ty} (hx:Nm x) (hk:x.k=8):∃ b,x.t=[b]/\Nm b:=by
 cases hx with
 | leaf _ _ h=>exact absurd hk h
 | list _ b _ h1 h2=>exact ⟨b,h1,h2⟩
 | record _ h=>omega
 | union _ h=>omega
theorem Pn.fields {K:List ByteArray} {d:Nat} {a:Ty} (h:Pn K d a) (hk:a.k=10):a.f.length<=K.length:=by
 cases d with
 | zero=>exact h.elim
 | succ d =>
   have h1:=(h.1.rec_inv hk).1
   have:=names_le h1 (fun x hx=>by
    obtain ⟨f,hf,rfl⟩:=List.mem_map.1 hx
    exact h.2.2.1 f hf)
   rwa [List.length_map] at this
structure JoinO (K:List ByteArray) (d:Nat) (a b c:Ty):Prop where
 ok:JoinOk a b c
 jn:Jn K d c
def FldJ (K:List ByteArray) (d:Nat) (b:List (Fd Ty)) (f g:Fd Ty):Prop:=FldR b f g/\Jn K d g.t
theorem AllF.imp {α β:Type} {R S:α->β->Prop} {l:List α} {m:List β} (h:AllF R l m) (hi:∀ a b,R a b->S a b):AllF S l m:=by
 induction h with
 | nil=>exact .nil
 | cons x y l m h hl ih=>exact .cons _ _ _ _ (hi _ _ h) ih
theorem Pn.fjn {K:List ByteArray} {d:Nat} {a:Ty} (h:Pn K (d+1) a) (hk:a.k=10):∀ f∈a.f,Jn K d f.t:=fun f hf=>⟨(h.1.rec_inv hk).2.2 f hf,h.2.2.2.2 f hf⟩
theorem fdOf_pos {l:List (Fd Ty)} {s:ByteArray}:∀ {h:Fd Ty},l[fpos s l]?=some h->fdOf l s=some h:=by
 intro h hh
 unfold fdOf fpos at *
 rw [List.find?_eq_some_iff_getElem]
 obtain ⟨hlt,rfl⟩:=List.getElem?_eq_some_iff.1 hh
 exact ⟨List.findIdx_getElem (w:=hlt),_,hlt,rfl,fun j hj=>by
  have:=List.not_of_lt_findIdx hj
  simpa using this⟩
theorem fdOf_out {l:List (Fd Ty)} {s:ByteArray} (h:¬ fpos s l<l.length):fdOf l s=none:=by
 unfold fdOf fpos at *
 rw [List.find?_eq_none]
 intro x hx hd
 exact h (List.findIdx_lt_length_of_exists ⟨x,hx,hd⟩)
theorem tables_pn {K:List ByteArray} {d:Nat} {a b c:Ty} {m:List (Fd Ty)} (ha:Pn K (d+1) a) (hb:Pn K (d+1) b) (ka:a.k=10) (kb:b.k=10) (kc:c.k=10) (ht:c.t=a.t) (hm:AllF (FldJ K d b.f) a.f m) (hp:c.f.Perm (m++newF a.f b.f)):JoinOk a b c/\Pn K (d+1) c:=by
 have hj:JoinOk a b c:=tables_ok ha.1 hb.1 ka kb kc (hm.imp fun _ _ h=>h.1) hp
 have mem:∀ g∈c.f,g.n∈K/\Jn K d g.t:=by
  intro g hg
  rcases List.mem_append.1 (hp.mem_iff.1 hg) with hg|hg
  ·obtain ⟨f,hf,hr⟩:=hm.right g hg
   exact ⟨by rw [hr.1.1];exact ha.2.2.1 f hf,hr.2⟩
  ·obtain ⟨h,h1,-,rfl⟩:=mem_newF.1 hg
   exact ⟨hb.2.2.1 h h1,hb.fjn kb h h1⟩
 refine ⟨hj,?_⟩
 unfold Pn
 exact ⟨hj.n,by rw [kc,<-ka];exact ha.2.1,fun g hg=>(mem g hg).1,by rw [ht];exact ha.2.2.2.1,fun g hg=>(mem g hg).2.2⟩
def KIn (K:List ByteArray):Nat->V->Prop
 | 0,_=>True
 | d+1,v=>(∀ c∈v.e,c.1∈K)/\∀ x∈v.parts,KIn K d x
theorem KIn.mono {K L:List ByteArray} (h:∀ s∈K,s∈L):∀ {d:Nat} {v:V},KIn K d v->KIn L d v
 | 0,_,_=>trivial
 | _+1,_,hk=>⟨fun c hc=>h _ (hk.1 c hc),fun x hx=>(hk.2 x hx).mono h⟩
theorem chk_keys:∀ (d:Nat) (v:V) (m:Nat),(chk d v m).1=0->∃ K:List ByteArray,KIn K d v/\K.length+m+1<=(chk d v m).2/\(chk d v m).2<=2000
 | 0,v,m,h=>by simp only [chk] at h;split at h<;>cases h
 | d+1,v,m,h=>by
   simp only [chk] at h ⊢
   by_cases h1:2000<m+1
   ·rw [if_pos h1] at h;cases h
   rw [if_neg h1] at h ⊢
   by_cases h2:ownV v≠0
   ·rw [if_pos h2] at h;exact absurd h h2
   rw [if_neg h2] at h ⊢
   by_cases h3:keyE none v.e≠0
   ·rw [if_pos h3] at h;exact absurd h h3
   rw [if_neg h3] at h ⊢
   have hall:∀ (xs:List V) (m:Nat),m<=2000->(chkAll (chk d) xs m).1=0->∃ K:List ByteArray,(∀ x∈xs,KIn K d x)/\K.length+m+xs.length<=(chkAll (chk d) xs m).2/\(chkAll (chk d) xs m).2<=2000:=by
    intro xs
    induction xs with
    | nil=>intro m hm _;exact ⟨[],fun x hx=>absurd hx List.not_mem_nil,by show 0+m+0<=m;omega,hm⟩
    | cons y ys ih =>
      intro m hm hc
      have e:chkAll (chk d) (y::ys) m=if (chk d y m).1=0 then chkAll (chk d) ys (chk d y m).2 else chk d y m:=rfl
      rw [e] at hc ⊢
      by_cases hy:(chk d y m).1=0
      ·rw [if_pos hy] at hc ⊢
       obtain ⟨K1,k1,k2,k3⟩:=chk_keys d y m hy
       obtain ⟨K2,j1,j2,j3⟩:=ih _ k3 hc
       refine ⟨K1++K2,fun x hx=>?_,by rw [List.length_append,List.length_cons];omega,j3⟩
       rcases List.mem_cons.1 hx with rfl|hx
       ·exact k1.mono fun s hs=>List.mem_append_left _ hs
       ·exact (j1 x hx).mono fun s hs=>List.mem_append_right _ hs
      ·rw [if_neg hy] at hc;exact absurd hc hy
   obtain ⟨K,k1,k2,k3⟩:=hall v.parts (m+1) (by omega) h
   have hp:v.e.length<=v.parts.length:=by unfold V.parts;rw [List.length_append,List.length_map];omega
   refine ⟨v.e.map Prod.fst++K,⟨fun c hc=>List.mem_append_left _ (List.mem_map_of_mem hc),fun x hx=>(k1 x hx).mono fun s hs=>List.mem_append_right _ hs⟩,by rw [List.length_append,List.length_map];omega,k3⟩
theorem good_keys {v:V} (h:chkV v=0):∃ K:List ByteArray,KIn K 20 v/\K.length<=2000:=by
 obtain ⟨K,h1,h2,h3⟩:=chk_keys 20 v 0 h
 exact ⟨K,h1,by omega⟩
structure OfK (K:List ByteArray) (d:Nat) (v:V) (a:Ty):Prop where
 o:OfR v a
 p:Pn K d a
theorem ofK_leaf {K:List ByteArray} {d:Nat} {a:Ty} {v:V} (h:OfR v a) (hp:Prt a.k) (h8:a.k≠8) (h10:a.k≠10) (hf:a.f=[]) (ht:a.t=[]):OfK K (d+1) v a:=⟨h,(pn_leaf hp h8 h10 hf ht).mono (by omega)⟩
theorem ofK_list {K:List ByteArray} {d:Nat} {a b:Ty} {v:V} (hk:a.k=8) (hv:v.k=5) (hlo:a.lo=v.l.length) (hhi:a.hi=v.l.length) (ht:a.t=[b]) (hf0:a.f=[]) (hb:Jn K d b) (hf:∀ c∈v.l,Fit false b c):OfK K (d+1) v a:=by
 have ho:=of_list hk hv hlo hhi ht hb.1 hf
 refine ⟨ho,?_⟩
 unfold Pn
 rw [hf0,ht]
 exact ⟨ho.n,by unfold Prt;omega,fun f h=>absurd h List.not_mem_nil,fun c hc=>by rw [List.mem_singleton.1 hc];exact hb.2,fun f h=>absurd h List.not_mem_nil⟩
def EntK (K:List ByteArray) (d:Nat) (e:ByteArray×V) (f:Fd Ty):Prop:=f.n=e.1/\f.o=false/\f.h=false/\OfK K d e.2 f.t
theorem ofK_table {K:List ByteArray} {d:Nat} {a:Ty} {v:V} (hk:a.k=10) (hv:v.k=6) (ht:a.t=[]) (hr:Rise v.e) (hK:∀ c∈v.e,c.1∈K) (hf:AllF (EntK K d) v.e a.f):OfK K (d+1) v a:=by
 have ho:=of_table hk hv hr (hf.imp fun _ _ h=>⟨h.1,h.2.1,h.2.2.1,h.2.2.2.o⟩)
 refine ⟨ho,?_⟩
 unfold Pn
 rw [ht]
 refine ⟨ho.n,by unfold Prt;omega,fun f h=>?_,fun c h=>absurd h List.not_mem_nil,fun f h=>?_⟩
 ·obtain ⟨e,he,h1⟩:=hf.right f h
  rw [h1.1];exact hK e he
 ·obtain ⟨e,he,h1⟩:=hf.right f h
  exact h1.2.2.2.p.jn.2
theorem union1_any (q:Lt) (w:World):Calls Tryz.prog 150 #[q.val] w (BoolB (q.v.k==1) w):=by
 unfold Lt.val
 have hb:=(Below.refl w.heap.size w).alloc (Nat.le_refl _) (.cells #[.int .i64 q.v.k,.int .i64 q.v.lo,.int .i64 q.v.hi,.slice q.xd q.v.x.length q.xc,.slice q.td q.v.t.length q.tc,.slice q.fd q.v.f.length q.fc,.string q.v.n] 27)
 have hc:=heap_alloc_new w (.cells #[.int .i64 q.v.k,.int .i64 q.v.lo,.int .i64 q.v.hi,.slice q.xd q.v.x.length q.xc,.slice q.td q.v.t.length q.tc,.slice q.fd q.v.f.length q.fc,.string q.v.n] 27)
 have HB:=hid hb
 clear hb
 go_enter Tryz.func150,Tryz.ntmps150
 go_upto_region 1 with fail
 generalize World.alloc w _=w1 at hc HB ⊢
 obtain ⟨c0,c1,c2,c3,c4,c5,c6,-⟩:=ty_cells hc
 clear hc
 go_wp2_with fail
 try go_ret
 exact ⟨rfl,HB.out⟩
theorem join1_any (q y:Lt) (K:Nat) (w:World) (hK:TcAt w K 0 y) (hl:K<w.heap.size) (h1:1<=q.v.k) (h2:q.v.k<=10) (h3:1<=y.v.k) (h4:y.v.k<=10):Calls Tryz.prog 128 #[q.val,.pointer (some ⟨K,0,none⟩)] w (BoolB (kindV q.v.k==kindV y.v.k) w):=by
 have HJ:Hid (∀ W,Calls Tryz.prog 129 #[q.val] W (IntB (kindV q.v.k) W)):=hid (fun W=>kindJ_any q W h1 h2)
 have HY:Hid (∀ W,Calls Tryz.prog 129 #[y.val] W (IntB (kindV y.v.k) W)):=hid (fun W=>kindJ_any y W h3 h4)
 unfold Lt.val at HJ HY ⊢
 have hb:=(Below.refl w.heap.size w).alloc (Nat.le_refl _) (.cells #[.int .i64 q.v.k,.int .i64 q.v.lo,.int .i64 q.v.hi,.slice q.xd q.v.x.length q.xc,.slice q.td q.v.t.length q.tc,.slice q.fd q.v.f.length q.fc,.string q.v.n] 27)
 have hc:=heap_alloc_new w (.cells #[.int .i64 q.v.k,.int .i64 q.v.lo,.int .i64 q.v.hi,.slice q.xd q.v.x.length q.xc,.slice q.td q.v.t.length q.tc,.slice q.fd q.v.f.length q.fc,.string q.v.n] 27)
 have hk1:=hK.through (hb.block K hl)
 have hlt:w.heap.size<(w.alloc (.cells #[.int .i64 q.v.k,.int .i64 q.v.lo,.int .i64 q.v.hi,.slice q.xd q.v.x.length q.xc,.slice q.td q.v.t.length q.tc,.slice q.fd q.v.f.length q.fc,.string q.v.n] 27)).heap.size:=by simp
 have hlk:=Nat.lt_trans hl hlt
 clear h1 h2 h3 h4 hK
 go_enter Tryz.func128,Tryz.ntmps128
 go_upto_region 1 with fail
 generalize World.alloc w _=w1 at hc hb hk1 hlt hlk ⊢
 generalize hS:w.heap.size=S at hc hlt hb ⊢
 have HS:=hid hS
 obtain ⟨c0,c1,c2,c3,c4,c5,c6,-⟩:=ty_cells hc
 obtain ⟨d0,d1,d2,d3,d4,d5,d6⟩:=hk1
 have HC:=hid hc
 have HK:Hid (TcAt w1 K 0 y):=hid ⟨d0,d1,d2,d3,d4,d5,d6⟩
 have HB:=hid hb
 have HLT:=hid hlt
 have HLK:=hid hlk
 clear hc hb hlt hlk hS
 go_region_law (first
  | (go_simp;(with_reducible refine (HJ.out _).mono ?_);rintro e w5 ⟨rfl,hb5⟩;obtain ⟨f0,f1,f2,f3,f4,f5,f6⟩:=HK.out.through (w':=w5) (hb5.block K HLK.out);have HB5:=hid hb5;clear hb5)
  | (go_simp;(with_reducible refine (HY.out _).mono ?_);rintro e w6 ⟨rfl,hb6⟩;have HB6:=hid hb6;clear hb6))
 all_goals
  go_wp2_with fail
  try go_ret
  exact ⟨rfl,by rw [HS.out];exact (HB.out.trans (Gx.drewN_below w1 1 _)).trans ((HB5.out.trans (HB6.out.mono HB5.out.size)).mono (Nat.le_of_lt HLT.out))⟩
theorem idxAny_any (ad:Option Addr) (cap:Nat) (l:List Ty) (w:World) (h:TRow w (fun _=>True) false (tf l) (.slice ad l.length cap)) :
 Calls Tryz.prog 127 #[.slice ad l.length cap,.func (.func 150) #[] #[]] w (IdxPostE (l.findIdx (fun z:Ty=>z.k==1)) l.length w):=by
 have H:=hid h
 have hbn:=h.bound
 rw [tf_len] at hbn
 have HNO:Hid ((∀ j z,j<l.length->l[j]?=some z->((fun z:Ty=>z.k==1)) z=false)->l.findIdx (fun z:Ty=>z.k==1)=l.length):=hid (fun hh=>by
  rw [List.findIdx_eq_length]
  intro x hx
  obtain ⟨j,hj⟩:=List.getElem?_of_mem hx
  exact hh j x (List.getElem?_eq_some_iff.1 hj).1 hj)
 have HAT:Hid (∀ k z0,l[k]?=some z0->((fun z:Ty=>z.k==1)) z0=true->(∀ j z,j<k->l[j]?=some z->((fun z:Ty=>z.k==1)) z=false)->l.findIdx (fun z:Ty=>z.k==1)=k):=hid (fun k z0 hy hb hlt=>by
  obtain ⟨hk,rfl⟩:=List.getElem?_eq_some_iff.1 hy
  rw [List.findIdx_eq hk]
  exact ⟨hb,fun j hj=>hlt j _ hj (List.getElem?_eq_getElem (by omega))⟩)
 obtain ⟨n,hn⟩:∃ n,l.length=n:=⟨_,rfl⟩
 rw [hn] at hbn HNO ⊢
 have HN:=hid hn
 have HC:Hid (∀ (p:Lt) (W:World),Below w.heap.size w W->∀ b:Bool,(p.v.k==1)=b->p.v∈l->Calls Tryz.prog 150 #[p.val] W (BoolB b W)):=hid (fun p W _ b hb _=>by rw [<-hb];exact union1_any p W)
 unfold Lt.val at HC
 clear h hn
 go_enter Tryz.func127,Tryz.ntmps127
 go_wp2_with fail
 go_loopw [5,8] (fun _ v wr=>∃ k:Nat,k<=n/\v=.int .i64 k/\Hid (∀ j z,j<k->l[j]?=some z->((fun z:Ty=>z.k==1)) z=false)/\Hid (Below w.heap.size w wr)) (fun _ v _=>n - (intOf v).toNat)
 case atStart=>exact ⟨0,Nat.zero_le _,rfl,hid (fun j z h=>by omega),hid (Below.refl _ _)⟩
 case round =>
  obtain ⟨k,hk,rfl,HL,HB⟩:=hrel
  by_cases hlt:k<n
  ·obtain ⟨x,hx⟩:∃ x,l[k]?=some x:=⟨_,List.getElem?_eq_getElem (by rw [HN.out];exact hlt)⟩
   obtain ⟨b1,o1,hd1,-,hbl1,hcs1⟩:=H.out.elem (by rw [HN.out];omega)
   subst hd1
   obtain ⟨p,hp,-,hg⟩:=hcs1 k x hx
   obtain ⟨c0,c1,c2,c3,c4,c5,c6⟩:=hg.through (w':=wr) (HB.out.block _ hbl1)
   obtain ⟨b,hb⟩:∃ b,((fun z:Ty=>z.k==1)) x=b:=⟨_,rfl⟩
   have HC1:=hid (HC.out p wr HB.out b (by rw [hp];exact hb) (by rw [hp];exact List.mem_of_getElem? hx))
   have HX:=hid hx
   have HBB:=hid hb
   have r1:(0:Int)<=(k:Int):=by omega
   have r2:(k:Int)<(n:Int):=by omega
   clear hx hp hg hcs1 hb
   go_wp2_with fail
   (with_reducible refine HC1.out.mono ?_)
   rintro e w2 ⟨rfl,hb2⟩
   have HB2:=hid (HB.out.trans (hb2.mono HB.out.size))
   clear hb2 c0 c1 c2 c3 c4 c5 c6
   cases b with
   | true =>
     have hf:=hid (HAT.out k x HX.out HBB.out HL.out)
     go_wp2_with fail
     try go_ret
     exact ⟨by rw [hf.out,if_pos hlt];rfl,HB2.out⟩
   | false =>
     have HL2:Hid (∀ j z,j<k+1->l[j]?=some z->((fun z:Ty=>z.k==1)) z=false):=hid (fun j z hj hz=>by
      by_cases e:j=k
      ·subst e
       rw [HX.out] at hz
       cases hz
       exact HBB.out
      ·exact HL.out j z (by omega) hz)
     go_wp2_with fail
     go_roundw
     case rel=>exact ⟨k+1,by omega,by go_num,HL2,HB2⟩
     case measure=>simp [intOf];omega
  ·obtain rfl:k=n:=by omega
   have hf:=hid (HNO.out HL.out)
   go_wp2_with fail
   try go_ret
   exact ⟨by rw [hf.out,if_neg (Nat.lt_irrefl _)];rfl,HB.out⟩
theorem idxKind_any (ad:Option Addr) (cap:Nat) (l:List Ty) (y:Lt) (K:Nat) (w:World) (h:TRow w (fun _=>True) false (tf l) (.slice ad l.length cap)) (hK:TcAt w K 0 y) (hKl:K<w.heap.size) (h3:1<=y.v.k) (h4:y.v.k<=10) (hl:∀ z∈l,1<=z.k/\z.k<=10) :
 Calls Tryz.prog 127 #[.slice ad l.length cap,.func (.func 128) #[] #[.pointer (some ⟨K,0,none⟩)]] w (IdxPostE (l.findIdx (fun z:Ty=>kindV z.k==kindV y.v.k)) l.length w):=by
 have H:=hid h
 have hbn:=h.bound
 rw [tf_len] at hbn
 have HNO:Hid ((∀ j z,j<l.length->l[j]?=some z->((fun z:Ty=>kindV z.k==kindV y.v.k)) z=false)->l.findIdx (fun z:Ty=>kindV z.k==kindV y.v.k)=l.length):=hid (fun hh=>by
  rw [List.findIdx_eq_length]
  intro x hx
  obtain ⟨j,hj⟩:=List.getElem?_of_mem hx
  exact hh j x (List.getElem?_eq_some_iff.1 hj).1 hj)
 have HAT:Hid (∀ k z0,l[k]?=some z0->((fun z:Ty=>kindV z.k==kindV y.v.k)) z0=true->(∀ j z,j<k->l[j]?=some z->((fun z:Ty=>kindV z.k==kindV y.v.k)) z=false)->l.findIdx (fun z:Ty=>kindV z.k==kindV y.v.k)=k):=hid (fun k z0 hy hb hlt=>by
  obtain ⟨hk,rfl⟩:=List.getElem?_eq_some_iff.1 hy
  rw [List.findIdx_eq hk]
  exact ⟨hb,fun j hj=>hlt j _ hj (List.getElem?_eq_getElem (by omega))⟩)
 obtain ⟨n,hn⟩:∃ n,l.length=n:=⟨_,rfl⟩
 rw [hn] at hbn HNO ⊢
 have HN:=hid hn
 have HC:Hid (∀ (p:Lt) (W:World),Below w.heap.size w W->∀ b:Bool,(kindV p.v.k==kindV y.v.k)=b->p.v∈l->Calls Tryz.prog 128 #[p.val,.pointer (some ⟨K,0,none⟩)] W (BoolB b W)):=hid (fun p W hbW b hb hm=>by rw [<-hb];exact join1_any p y K W (hK.through (hbW.block K hKl)) (Nat.lt_of_lt_of_le hKl hbW.size) (hl _ hm).1 (hl _ hm).2 h3 h4)
 unfold Lt.val at HC
 clear h hn hK hl
 go_enter Tryz.func127,Tryz.ntmps127
 go_wp2_with fail
 go_loopw [5,8] (fun _ v wr=>∃ k:Nat,k<=n/\v=.int .i64 k/\Hid (∀ j z,j<k->l[j]?=some z->((fun z:Ty=>kindV z.k==kindV y.v.k)) z=false)/\Hid (Below w.heap.size w wr)) (fun _ v _=>n - (intOf v).toNat)
 case atStart=>exact ⟨0,Nat.zero_le _,rfl,hid (fun j z h=>by omega),hid (Below.refl _ _)⟩
 case round =>
  obtain ⟨k,hk,rfl,HL,HB⟩:=hrel
  by_cases hlt:k<n
  ·obtain ⟨x,hx⟩:∃ x,l[k]?=some x:=⟨_,List.getElem?_eq_getElem (by rw [HN.out];exact hlt)⟩
   obtain ⟨b1,o1,hd1,-,hbl1,hcs1⟩:=H.out.elem (by rw [HN.out];omega)
   subst hd1
   obtain ⟨p,hp,-,hg⟩:=hcs1 k x hx
   obtain ⟨c0,c1,c2,c3,c4,c5,c6⟩:=hg.through (w':=wr) (HB.out.block _ hbl1)
   obtain ⟨b,hb⟩:∃ b,((fun z:Ty=>kindV z.k==kindV y.v.k)) x=b:=⟨_,rfl⟩
   have HC1:=hid (HC.out p wr HB.out b (by rw [hp];exact hb) (by rw [hp];exact List.mem_of_getElem? hx))
   have HX:=hid hx
   have HBB:=hid hb
   have r1:(0:Int)<=(k:Int):=by omega
   have r2:(k:Int)<(n:Int):=by omega
   clear hx hp hg hcs1 hb
   go_wp2_with fail
   (with_reducible refine HC1.out.mono ?_)
   rintro e w2 ⟨rfl,hb2⟩
   have HB2:=hid (HB.out.trans (hb2.mono HB.out.size))
   clear hb2 c0 c1 c2 c3 c4 c5 c6
   cases b with
   | true =>
     have hf:=hid (HAT.out k x HX.out HBB.out HL.out)
     go_wp2_with fail
     try go_ret
     exact ⟨by rw [hf.out,if_pos hlt];rfl,HB2.out⟩
   | false =>
     have HL2:Hid (∀ j z,j<k+1->l[j]?=some z->((fun z:Ty=>kindV z.k==kindV y.v.k)) z=false):=hid (fun j z hj hz=>by
      by_cases e:j=k
      ·subst e
       rw [HX.out] at hz
       cases hz
       exact HBB.out
      ·exact HL.out j z (by omega) hz)
     go_wp2_with fail
     go_roundw
     case rel=>exact ⟨k+1,by omega,by go_num,HL2,HB2⟩
     case measure=>simp [intOf];omega
  ·obtain rfl:k=n:=by omega
   have hf:=hid (HNO.out HL.out)
   go_wp2_with fail
   try go_ret
   exact ⟨by rw [hf.out,if_neg (Nat.lt_irrefl _)];rfl,HB.out⟩
def UnionR (l:List Ty) (c:Ty):Prop:=∃ m:List Ty,m.Perm l/\((m.length=1/\m=[c])\/(m.length≠1/\c.k=11/\c.t=m))
def UnionPost (l:List Ty) (v:Value) (C:Nat->Prop) (w:World) (e:Ending) (w':World):Prop:=∃ y:Lt,e=.returned y.val/\UnionR l y.v/\TyAt w' C y/\w.grownBy w' v.ownBlock
theorem bare_of {ps:List Ft} {l:List Ty} (h:ps.map Ft.fd=tf l):(∀ p∈ps,p.fd=⟨⟨#[]⟩,false,false,p.t.v,.zero⟩)/\ps.map (fun p=>p.t.v)=l:=by
 refine ⟨fun p hp=>?_,?_⟩
 ·have h1:p.fd∈tf l:=by rw [<-h];exact List.mem_map_of_mem hp
  unfold tf at h1
  obtain ⟨x,-,hx⟩:=List.mem_map.1 h1
  have h2:p.t.v=x:=by have:=congrArg Fd.t hx;exact this.symm
  rw [<-hx,h2]
 ·have h1:=congrArg (List.map Fd.t) h
  rw [List.map_map] at h1
  have h2:(tf l).map Fd.t=l:=by unfold tf;rw [List.map_map];exact List.map_id' l
  rw [h2] at h1
  exact h1
theorem tf_of {ps:List Ft} (h:∀ p∈ps,p.fd=⟨⟨#[]⟩,false,false,p.t.v,.zero⟩):ps.map Ft.fd=tf (ps.map fun p=>p.t.v):=by
 unfold tf
 rw [List.map_map]
 exact List.map_congr_left h
theorem grown_chain {w a b c:World} {r:Option Nat} {S:Nat} (h1:Below w.heap.size w a) (h2:a.grownBy b r) (h3:b.grownBy c (some S)) (hS:w.heap.size<=S):w.grownBy c r :=
 ⟨h3.os.trans (h2.os.trans h1.os),h3.tape.trans (h2.tape.trans h1.tape),h3.output.trans (h2.output.trans h1.output),Nat.le_trans h1.size (Nat.le_trans h2.size h3.size),fun k hk hn=>by
   have ha:=Nat.lt_of_lt_of_le hk h1.size
   exact (h3.block k (Nat.lt_of_lt_of_le ha h2.size) (fun e=>by have:=Option.some.inj e;omega)).trans ((h2.block k ha hn).trans (h1.block k hk))⟩
theorem wf11 (t:List Ty):(Ty.mk 11 0 0 [] t [] ⟨#[]⟩).wf:=⟨show (-9223372036854775808:Int)<=11 by decide,show (11:Int)<=9223372036854775807 by decide,show (-9223372036854775808:Int)<=0 by decide,show (0:Int)<=9223372036854775807 by decide,show (-9223372036854775808:Int)<=0 by decide,show (0:Int)<=9223372036854775807 by decide,show (0:Nat)<=140737488351232 by decide⟩
theorem enters152:∀ args w,(callFunc 152 args).run Tryz.prog w=.ok (.enter 152 args) w:=enters_of Tryz.func152 (by kernel_rfl) rfl
theorem union_any (vb:Nat) (B C:Nat->Prop) (vo:Option Addr) (c n:Nat) (l:List Ty) (ps:List Ft) (w:World) (h:AccT w vb B false 27 (.slice vo n c) ps) (hps:ps.map Ft.fd=tf l) (hn:ps.length=n) (h200:n<=1000) (hk:∀ z∈l,Prt z.k) (hC:∀ b,B b\/vb<b->C b) :
 Calls Tryz.prog 131 #[.slice vo n c] w (UnionPost l (.slice vo n c) C w):=by
 have h':=h.same (C:=fun b=>B b/\b<w.heap.size) (Nat.le_refl _) (fun _ _=>rfl) (fun _ _ _=>rfl) (fun b h1 h2=>⟨h1,h2⟩)
 have hb0:=(Below.refl w.heap.size w).alloc (Nat.le_refl _) (.cells #[.int .i64 0,.int .i64 0,.int .i64 0,.slice none 0 0,.slice none 0 0,.slice none 0 0,.string ⟨#[]⟩] 27)
 have hr0:=heap_alloc_new w (.cells #[.int .i64 0,.int .i64 0,.int .i64 0,.slice none 0 0,.slice none 0 0,.slice none 0 0,.string ⟨#[]⟩] 27)
 have ha0:=h'.keep hb0
 have hln:l.length=n:=by rw [<-hn,<-tf_len,<-hps,List.length_map]
 have hlow:=h.own.lt
 have hrow:=h'.row (C:=fun b=>C b/\b<w.heap.size) (by rw [hn];omega) rfl (fun b hl hb=>⟨hC b (hb.imp And.left id),hl⟩)
 rw [hps] at hrow
 have hrow0:=hrow.keep' hb0
 obtain ⟨hbare,hpl⟩:=bare_of hps
 have hk10:∀ z∈l,1<=z.k/\z.k<=10:=fun z hz=>by have:=hk z hz;unfold Prt at this;omega
 have hno:l.findIdx (fun z:Ty=>z.k==1)=n:=by
  rw [<-hln,List.findIdx_eq_length]
  intro x hx
  have:=(hk x hx).ne.2.1
  simp [this]
 have HN:=hid hn
 have HLN:=hid hln
 have HBA:=hid hbare
 have HPL:=hid hpl
 have HK10:=hid hk10
 have HLOW:=hid hlow
 have HC:=hid hC
 have HPS:=hid hps
 have HNO:=hid hno
 clear h h' hps hn hk hC hln hlow hbare hpl hk10 hrow hno
 go_enter Tryz.func131,Tryz.ntmps131
 go_upto_region 1 with fail
 generalize World.alloc w _=w1 at hb0 hr0 ha0 hrow0 ⊢
 have hcall:=idxAny_any vo c l w1 (by rw [HLN.out];exact hrow0.weak (fun _ _ _=>trivial))
 unfold IdxPostE at hcall
 rw [HLN.out,HNO.out,if_neg (Nat.lt_irrefl _)] at hcall
 have HCALL:=hid hcall
 have HB0:=hid hb0
 have HR0:=hid hr0
 have HA0:=hid ha0
 have HROW:=hid hrow0
 clear hcall hb0 hr0 ha0 hrow0
 go_wp2_with fail
 (with_reducible refine HCALL.out.mono ?_)
 rintro e w2 ⟨rfl,hb2⟩
 have HB2:=hid (HB0.out.trans (hb2.mono HB0.out.size))
 have HA2:=hid (HA0.out.keep hb2)
 have HROW2:=hid (HROW.out.keep' hb2)
 have hsl:=(Array.getElem?_eq_some_iff.1 HR0.out).1
 have hr2:=(hb2.block _ hsl).trans HR0.out
 have HR2:=hid hr2
 clear hb2 HB0 HA0 HROW HR0 hsl HCALL
 by_cases hn1:n=1
 ·subst hn1
  obtain ⟨x,hx⟩:∃ x,l=[x]:=List.length_eq_one_iff.1 HLN.out
  have hrw:=HROW2.out
  obtain ⟨b,off,hvo,-,-,hcs⟩:=hrw.elem (by rw [HLN.out];decide)
  obtain ⟨y,hy,hya,hyc⟩:=hcs 0 x (by rw [hx];rfl)
  rw [Nat.zero_mul,Nat.add_zero] at hyc
  subst hvo
  obtain ⟨c0,c1,c2,c3,c4,c5,c6⟩:=hyc
  have HU:Hid (UnionR l y.v):=hid ⟨l,List.Perm.refl _,.inl ⟨HLN.out,by rw [hx,hy]⟩⟩
  have HYA:=hid hya
  obtain ⟨ym,hym⟩:∃ ym,y.v.x.length=ym:=⟨_,rfl⟩
  obtain ⟨yt,hyt⟩:∃ yt,y.v.t.length=yt:=⟨_,rfl⟩
  obtain ⟨yf,hyf⟩:∃ yf,y.v.f.length=yf:=⟨_,rfl⟩
  rw [hym] at c3
  rw [hyt] at c4
  rw [hyf] at c5
  have HY1:=hid hym
  have HY2:=hid hyt
  have HY3:=hid hyf
  clear hx hrw hcs hy hya hym hyt hyf
  obtain ⟨p0,p1,p2,p3,p4,p5,p6,pf⟩:=ty_cells HR2.out
  have pf0:=pf 0
  have pf1:=pf 1
  have pf2:=pf 2
  have pf3:=pf 3
  have pf4:=pf 4
  have pf5:=pf 5
  have pf6:=pf 6
  obtain ⟨W9,hW9,hr9,hg9⟩:=seven_all HR2.out (.int .i64 y.v.k) (.int .i64 y.v.lo) (.int .i64 y.v.hi) (.slice y.xd ym y.xc) (.slice y.td yt y.tc) (.slice y.fd yf y.fc) (.string y.v.n)
  obtain ⟨q0,q1,q2,q3,q4,q5,q6,-⟩:=ty_cells hr9
  have HW9:=hid hW9
  have HPOST:Hid (UnionPost l (.slice (some ⟨b,off,none⟩) 1 c) C w (.returned (.agg #[.int .i64 y.v.k,.int .i64 y.v.lo,.int .i64 y.v.hi,.slice y.xd ym y.xc,.slice y.td yt y.tc,.slice y.fd yf y.fc,.string y.v.n])) W9):=hid ⟨y,by unfold Lt.val;rw [HY1.out,HY2.out,HY3.out],HU.out,(HYA.out.grow hg9 (fun b e hb=>by have:=Option.some.inj e;have:=hb.2;omega)).weak (fun b hb _=>hb.1),grown_chain HB2.out (World.grownBy.refl _ _) hg9 (Nat.le_refl _)⟩
  clear hW9 hr9 hg9 pf
  go_wp2_with fail
  rw [<-HW9.out]
  exact bodyPost_ret (v:=.agg #[.int .i64 y.v.k,.int .i64 y.v.lo,.int .i64 y.v.hi,.slice y.xd ym y.xc,.slice y.td yt y.tc,.slice y.fd yf y.fc,.string y.v.n]) (by simp [results,Tryz.results131,go_sem,q0,q1,q2,q3,q4,q5,q6]) rfl HPOST.out
 ·have t1:((n:Int)==1)=false:=by simp;omega
  have hsort:=sortTy_any 152 cmpKind cmpKind_swo enters152 (fun p q W=>union2_any p q W) vo c n ps w2 HA2.out HN.out (by omega) (fun p hp=>HK10.out p.t.v (by rw [<-HPL.out];exact List.mem_map_of_mem hp))
  unfold SortPost at hsort
  have HSO:=hid hsort
  clear hsort
  go_wp2_with fail
  (with_reducible refine HSO.out.mono ?_)
  rintro e w3 ⟨rfl,ps',hp,ha3,hg3⟩
  have hr3:=(hg3.block _ (Array.getElem?_eq_some_iff.1 HR2.out).1 (fun e=>by have:=(HLOW.out _ e.symm).2;omega)).trans HR2.out
  have HR3:=hid hr3
  have HG3:=hid hg3
  have hrow3:=ha3.row2 (C:=fun b=>C b/\b≠w.heap.size) (xs:=tf (ps'.map fun p=>p.t.v)) (by rw [hp.length_eq,HN.out];omega) (tf_of (fun p hm=>HBA.out p (hp.mem_iff.1 hm))).symm (fun b hl hb=>⟨HC.out b (.inl hb.1),by have:=hb.2;omega⟩) (fun b e=>⟨HC.out b (.inr (by have:=(HLOW.out b e).1;omega)),by have:=(HLOW.out b e).2;omega⟩)
  have HROW3:=hid hrow3
  have HPM:Hid ((ps'.map fun p=>p.t.v).Perm l):=hid (by rw [<-HPL.out];exact hp.map _)
  clear hr3 hg3 hrow3 hp ha3 HSO
  obtain ⟨p0,p1,p2,p3,p4,p5,p6,pf⟩:=ty_cells HR3.out
  have pf0:=pf 0
  have pf1:=pf 1
  have pf2:=pf 2
  have pf3:=pf 3
  have pf4:=pf 4
  have pf5:=pf 5
  have pf6:=pf 6
  obtain ⟨W9,hW9,hr9,hg9⟩:=seven_all HR3.out (.int .i64 11) (.int .i64 0) (.int .i64 0) (.slice none 0 0) (.slice vo n c) (.slice none 0 0) (.string ⟨#[]⟩)
  obtain ⟨q0,q1,q2,q3,q4,q5,q6,-⟩:=ty_cells hr9
  have HW9:=hid hW9
  have HPOST:Hid (UnionPost l (.slice vo n c) C w (.returned (.agg #[.int .i64 11,.int .i64 0,.int .i64 0,.slice none 0 0,.slice vo n c,.slice none 0 0,.string ⟨#[]⟩])) W9):=hid ⟨⟨.mk 11 0 0 [] (ps'.map fun p=>p.t.v) [] ⟨#[]⟩,none,0,vo,c,none,0⟩,by unfold Lt.val;rw [show (Ty.mk 11 0 0 [] (ps'.map fun p=>p.t.v) [] ⟨#[]⟩).t=ps'.map (fun p=>p.t.v) from rfl,HPM.out.length_eq,HLN.out];rfl,⟨_,HPM.out,.inr ⟨by rw [HPM.out.length_eq,HLN.out];exact hn1,rfl,rfl⟩⟩,⟨wf11 _,.nil _ _,(by have hh:=HROW3.out.through (C:=C) hg9.size (fun b hb hl=>hg9.block b hl (fun e=>hb.2 (Option.some.inj e))) (fun b hb _=>hb.1);show TRow W9 C false (tf (ps'.map fun p=>p.t.v)) (.slice vo (ps'.map fun p=>p.t.v).length c);rw [HPM.out.length_eq,HLN.out];exact hh),.nil _ _ _⟩,grown_chain HB2.out HG3.out hg9 (Nat.le_refl _)⟩
  clear hW9 hr9 hg9 pf
  go_wp2_with fail
  rw [<-HW9.out]
  exact bodyPost_ret (v:=.agg #[.int .i64 11,.int .i64 0,.int .i64 0,.slice none 0 0,.slice vo n c,.slice none 0 0,.string ⟨#[]⟩]) (by simp [results,Tryz.results131,go_sem,q0,q1,q2,q3,q4,q5,q6]) rfl HPOST.out
def SameT (q:Lt) (w:World) (e:Ending) (w':World):Prop:=e=.returned q.val/\Below w.heap.size w w'
theorem ranged_any (q:Lt) (w:World) (h7:q.v.k≠7):Calls Tryz.prog 149 #[q.val] w (SameT q w):=by
 unfold SameT Lt.val
 have hb:=((Below.refl w.heap.size w).alloc (Nat.le_refl _) (.cells #[.int .i64 q.v.k,.int .i64 q.v.lo,.int .i64 q.v.hi,.slice q.xd q.v.x.length q.xc,.slice q.td q.v.t.length q.tc,.slice q.fd q.v.f.length q.fc,.string q.v.n] 27)).alloc (by simp) (.cells #[.int .i64 0,.int .i64 0,.int .i64 0,.slice none 0 0,.slice none 0 0,.slice none 0 0,.string ⟨#[]⟩] 27)
 have hc1:=heap_alloc_new w (.cells #[.int .i64 q.v.k,.int .i64 q.v.lo,.int .i64 q.v.hi,.slice q.xd q.v.x.length q.xc,.slice q.td q.v.t.length q.tc,.slice q.fd q.v.f.length q.fc,.string q.v.n] 27)
 have hc:((w.alloc (.cells #[.int .i64 q.v.k,.int .i64 q.v.lo,.int .i64 q.v.hi,.slice q.xd q.v.x.length q.xc,.slice q.td q.v.t.length q.tc,.slice q.fd q.v.f.length q.fc,.string q.v.n] 27)).alloc (.cells #[.int .i64 0,.int .i64 0,.int .i64 0,.slice none 0 0,.slice none 0 0,.slice none 0 0,.string ⟨#[]⟩] 27)).heap[w.heap.size]?=_:=(Below.heap_alloc _ _ _ (by simp)).trans hc1
 have hd:=heap_alloc_new (w.alloc (.cells #[.int .i64 q.v.k,.int .i64 q.v.lo,.int .i64 q.v.hi,.slice q.xd q.v.x.length q.xc,.slice q.td q.v.t.length q.tc,.slice q.fd q.v.f.length q.fc,.string q.v.n] 27)) (.cells #[.int .i64 0,.int .i64 0,.int .i64 0,.slice none 0 0,.slice none 0 0,.slice none 0 0,.string ⟨#[]⟩] 27)
 rw [World.size_alloc] at hd
 have t7:(q.v.k != 7)=true:=by simp [h7]
 clear hc1 h7
 go_enter Tryz.func149,Tryz.ntmps149
 go_upto_region 1 with fail
 generalize World.alloc (World.alloc w _) _=w1 at hc hd hb ⊢
 generalize hS:w.heap.size=S at hc hd hb ⊢
 have HS:=hid hS
 obtain ⟨a0,a1,a2,a3,a4,a5,a6,-⟩:=ty_cells hc
 obtain ⟨p0,p1,p2,p3,p4,p5,p6,pf⟩:=ty_cells hd
 have pf0:=pf 0
 have pf1:=pf 1
 have pf2:=pf 2
 have pf3:=pf 3
 have pf4:=pf 4
 have pf5:=pf 5
 have pf6:=pf 6
 obtain ⟨W9,hW9,hr9,hg9⟩:=seven_all hd (.int .i64 q.v.k) (.int .i64 q.v.lo) (.int .i64 q.v.hi) (.slice q.xd q.v.x.length q.xc) (.slice q.td q.v.t.length q.tc) (.slice q.fd q.v.f.length q.fc) (.string q.v.n)
 obtain ⟨q0,q1,q2,q3,q4,q5,q6,-⟩:=ty_cells hr9
 have HW9:=hid hW9
 have HB:Hid (Below S w W9):=hid (hb.grown hg9 (by have:=(Array.getElem?_eq_some_iff.1 hd).1;omega) (fun b e=>by have:=Option.some.inj e;omega))
 clear hc hd hb hS pf hW9 hr9 hg9
 go_wp2_with fail
 rw [<-HW9.out]
 exact bodyPost_ret (v:=.agg #[.int .i64 q.v.k,.int .i64 q.v.lo,.int .i64 q.v.hi,.slice q.xd q.v.x.length q.xc,.slice q.td q.v.t.length q.tc,.slice q.fd q.v.f.length q.fc,.string q.v.n]) (by simp [results,Tryz.results149,go_sem,q0,q1,q2,q3,q4,q5,q6]) rfl ⟨rfl,by rw [HS.out];exact HB.out⟩
def JoinPost (K:List ByteArray) (d:Nat) (a b:Ty) (C:Nat->Prop) (w:World) (e:Ending) (w':World):Prop:=∃ y:Lt,e=.returned y.val/\JoinO K d a b y.v/\TyAt w' C y/\Below w.heap.size w w'
def JoinC (K:List ByteArray) (d:Nat):Prop:=∀ (jv:Value) (x y:Lt) (C:Nat->Prop) (w:World),Jn K d x.v->Jn K d y.v->TyAt w C x->TyAt w C y->(∀ b,w.heap.size<=b->C b)->Calls Tryz.prog 114 #[jv,x.val,y.val] w (JoinPost K d x.v y.v C w)
def BothPost (K:List ByteArray) (d:Nat) (a b:Ty) (C:Nat->Prop) (w:World) (e:Ending) (w':World):Prop:=∃ y:Lt,e=.returned y.val/\JoinOk a b y.v/\Pn K d y.v/\y.v.k=a.k/\TyAt w' C y/\Below w.heap.size w w'
structure BS (w:World) (X Y:Array Value) (W:World):Prop where
 bx:W.heap[w.heap.size]?=some (.cells X 27)
 by_:W.heap[w.heap.size+1]?=some (.cells Y 27)
 res:W.heap[w.heap.size+2]?=some (.cells #[.int .i64 0,.int .i64 0,.int .i64 0,.slice none 0 0,.slice none 0 0,.slice none 0 0,.string ⟨#[]⟩] 27)
 g:Below w.heap.size w W
namespace BS
variable {w W W':World} {X Y:Array Value}
theorem vlt (h:BS w X Y W):w.heap.size+2<W.heap.size:=(Array.getElem?_eq_some_iff.1 h.res).1
theorem grow (h:BS w X Y W) {r:Option Nat} (hg:W.grownBy W' r) (hr:∀ b,r=some b->w.heap.size+2<b):BS w X Y W':=by
 have h1:=h.vlt
 have hk:∀ k,k<=w.heap.size+2->W'.heap[k]?=W.heap[k]?:=fun k hk=>hg.block k (by omega) (fun e=>by have:=hr _ e.symm;omega)
 exact ⟨(hk _ (by omega)).trans h.bx,(hk _ (by omega)).trans h.by_,(hk _ (by omega)).trans h.res,⟨hg.os.trans h.g.os,hg.tape.trans h.g.tape,hg.output.trans h.g.output,Nat.le_trans h.g.size hg.size,fun i hi=>(hk i (by omega)).trans (h.g.block i hi)⟩⟩
theorem keep (h:BS w X Y W) (hb:Below W.heap.size W W'):BS w X Y W':=h.grow (grown_none hb) (fun _ e=>absurd e (by simp))
theorem setX (h:BS w X Y W) {X':Array Value} (hx:W'.heap[w.heap.size]?=some (.cells X' 27)) (hg:W.grownBy W' (some w.heap.size)):BS w X' Y W':=by
 have h1:=h.vlt
 have hk:∀ k,k≠w.heap.size->k<=w.heap.size+2->W'.heap[k]?=W.heap[k]?:=fun k hn hk=>hg.block k (by omega) (fun e=>hn (Option.some.inj e))
 exact ⟨hx,(hk _ (by omega) (by omega)).trans h.by_,(hk _ (by omega) (by omega)).trans h.res,h.g.grown hg (by omega) (fun b e=>by have:=Option.some.inj e;omega)⟩
theorem setY (h:BS w X Y W) {Y':Array Value} (hy:W'.heap[w.heap.size+1]?=some (.cells Y' 27)) (hg:W.grownBy W' (some (w.heap.size+1))):BS w X Y' W':=by
 have h1:=h.vlt
 have hk:∀ k,k≠w.heap.size+1->k<=w.heap.size+2->W'.heap[k]?=W.heap[k]?:=fun k hn hk=>hg.block k (by omega) (fun e=>hn (Option.some.inj e))
 exact ⟨(hk _ (by omega) (by omega)).trans h.bx,hy,(hk _ (by omega) (by omega)).trans h.res,h.g.grown hg (by omega) (fun b e=>by have:=Option.some.inj e;omega)⟩
theorem start (w:World) (X Y:Array Value):BS w X Y (((w.alloc (.cells X 27)).alloc (.cells Y 27)).alloc (.cells #[.int .i64 0,.int .i64 0,.int .i64 0,.slice none 0 0,.slice none 0 0,.slice none 0 0,.string ⟨#[]⟩] 27)):=by
 refine ⟨?_,?_,?_,(((Below.refl _ w).alloc (Nat.le_refl _) _).alloc (by simp) _).alloc (by simp;omega) _⟩
 ·rw [Below.heap_alloc _ _ _ (by simp;omega),Below.heap_alloc _ _ _ (by simp)]
  exact heap_alloc_new w _
 ·rw [Below.heap_alloc _ _ _ (by simp)]
  have:=heap_alloc_new (w.alloc (.cells X 27)) (.cells Y 27)
  rwa [World.size_alloc] at this
 ·have:=heap_alloc_new ((w.alloc (.cells X 27)).alloc (.cells Y 27)) (.cells #[.int .i64 0,.int .i64 0,.int .i64 0,.slice none 0 0,.slice none 0 0,.slice none 0 0,.string ⟨#[]⟩] 27)
  rwa [World.size_alloc,World.size_alloc] at this
end BS
theorem prt_kindV {j k:Int} (hj:Prt j) (hk:Prt k) (h:kindV j=kindV k):j=k:=by
 have h1:=kindV_tells j (by unfold Prt at hj;omega) (by unfold Prt at hj;omega)
 have h2:=kindV_tells k (by unfold Prt at hk;omega) (by unfold Prt at hk;omega)
 exact prt_tells hj hk h1.1 (by rw [h];exact h2.1)
end Go.Proofs.YtgnonbdkmmkdgaaGreatDoor
