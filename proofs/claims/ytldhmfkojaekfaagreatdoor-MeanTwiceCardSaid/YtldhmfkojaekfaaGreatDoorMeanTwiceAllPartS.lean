/-
  Lemmas for the statement: plain laws, and what functions answer; the conditions stand in each.
-/
import Derived.Deep.DeepCutAuto
import Derived.Deep.CutBlock
import Derived.Deep.DeepFit
import Derived.Outline
import Derived.WalkLawsBesides
import Derived.Test.YtldhmfkojaekfaaGreatDoorProg
import Derived.StillTailTactics
import Derived.Laws.BitsAllLaws
import Derived.Test.YtldhmfkojaekfaaGreatDoorMeanTwiceAllPartR
set_option linter.unusedVariables false
set_option linter.unusedSimpArgs false
namespace Go.Proofs.YtldhmfkojaekfaaGreatDoor
open Go.RowKit Go.Shelf Gx
set_option maxRecDepth 100000
def ChkPost (r:Nat×Nat) (M:Nat) (w:World) (e:Ending) (w':World):Prop :=
 e=.returned (.int .i64 r.1)/\Boxed w' M 3 (.int .i64 r.2)/\w.grownBy w' (some M)
structure CE (w:World) (q:Loc) (a:Int) (M m:Nat) (r:Int) (W:World):Prop where
 v:W.heap[w.heap.size]?=some (.cells q.cs.toArray 26)
 a:W.heap[w.heap.size+1]?=some (.cells #[.int .i64 a] 3)
 p:W.heap[w.heap.size+2]?=some (.cells #[.pointer (some ⟨M,0,none⟩)] 64)
 r:Boxed W (w.heap.size+3) 28 (.int .i64 r)
 m:Boxed W M 3 (.int .i64 m)
 g:w.grownBy W (some M)
 hM:M<w.heap.size
theorem grownBy_old {w:World} {W W':World} {M k:Nat} (h:w.grownBy W (some M)) (g:W.grownBy W' (some k)) (hk:k=M\/w.heap.size<=k):w.grownBy W' (some M) :=
 ⟨g.os.trans h.os,g.tape.trans h.tape,g.output.trans h.output,Nat.le_trans h.size g.size,fun i hi hne=>by
   refine (g.block i (Nat.lt_of_lt_of_le hi h.size) (fun e=>?_)).trans (h.block i hi hne)
   have:i=k:=Option.some.inj e
   rcases hk with rfl|hk
   ·exact hne e
   ·omega⟩
theorem Tabs.but {w w':World} {M:Nat} {ty:TypeId} {m:Int} (h:Tabs w) (hM:Boxed w M ty (.int .i64 m)) (hg:w.grownBy w' (some M)):Tabs w':=by
 have hc:=hM.cell
 have lt:∀ {b o:Nat} {v:Value},w.cell? ⟨b,o,none⟩=some v->b<w.heap.size:=fun {b o v} hc=>World.block_lt_of_cell? w ⟨b,o,none⟩ hc
 have h0:=h.1 0 (by decide)
 have h1:=(h.2 0 (by decide)).1
 have n0:some 1≠some M:=fun e=>by
  obtain rfl:=Option.some.inj e
  rw [h0] at hc;simp at hc
 have n1:some 2≠some M:=fun e=>by
  obtain rfl:=Option.some.inj e
  rw [show 2 * 0=0 from rfl,hc] at h1;simp at h1
 exact ⟨fun c hc=>(World.cell?_of_block (hg.block _ (lt h0) n0)).trans (h.1 c hc),
  fun i hi=>⟨(World.cell?_of_block (hg.block _ (lt h1) n1)).trans (h.2 i hi).1,(World.cell?_of_block (hg.block _ (lt h1) n1)).trans (h.2 i hi).2⟩⟩
variable {w:World} {q:Loc} {a:Int} {M m:Nat} {r:Int} {W W':World}
theorem CE.start (hM:Boxed w M 3 (.int .i64 m)) (q:Loc) (a:Int):CE w q a M m 0 ((((w.alloc (.cells #[.int .i64 q.v.k,.int .i64 q.v.n,.int .u64 q.v.f,.string q.v.s,.slice q.ad q.v.l.length q.cap,.slice q.bd q.v.e.length q.dap] 26)).alloc
 (.cells #[.int .i64 a] 3)).alloc (.cells #[.pointer (some ⟨M,0,none⟩)] 64)).alloc (.cells #[.int .i64 0] 28)):=by
 have hl:=hM.lt
 refine ⟨?_,?_,?_,?_,((((hM.alloc _).alloc _).alloc _).alloc _),?_,hl⟩
 ·rw [Below.heap_alloc _ _ _ (by simp<;>omega),Below.heap_alloc _ _ _ (by simp<;>omega),Below.heap_alloc _ _ _ (by simp)]
  exact World.alloc_heap_new w _
 ·rw [Below.heap_alloc _ _ _ (by simp<;>omega),Below.heap_alloc _ _ _ (by simp)]
  have:=World.alloc_heap_new (w.alloc (.cells #[.int .i64 q.v.k,.int .i64 q.v.n,.int .u64 q.v.f,.string q.v.s,.slice q.ad q.v.l.length q.cap,.slice q.bd q.v.e.length q.dap] 26)) (.cells #[.int .i64 a] 3)
  rwa [World.size_alloc] at this
 ·rw [Below.heap_alloc _ _ _ (by simp)]
  have:=World.alloc_heap_new ((w.alloc (.cells #[.int .i64 q.v.k,.int .i64 q.v.n,.int .u64 q.v.f,.string q.v.s,.slice q.ad q.v.l.length q.cap,.slice q.bd q.v.e.length q.dap] 26)).alloc (.cells #[.int .i64 a] 3)) (.cells #[.pointer (some ⟨M,0,none⟩)] 64)
  rwa [World.size_alloc,World.size_alloc] at this
 ·have:=World.alloc_heap_new (((w.alloc (.cells #[.int .i64 q.v.k,.int .i64 q.v.n,.int .u64 q.v.f,.string q.v.s,.slice q.ad q.v.l.length q.cap,.slice q.bd q.v.e.length q.dap] 26)).alloc (.cells #[.int .i64 a] 3)).alloc (.cells #[.pointer (some ⟨M,0,none⟩)] 64)) (.cells #[.int .i64 0] 28)
  rwa [World.size_alloc,World.size_alloc,World.size_alloc] at this
 ·have hb:Below w.heap.size w ((((w.alloc (.cells #[.int .i64 q.v.k,.int .i64 q.v.n,.int .u64 q.v.f,.string q.v.s,.slice q.ad q.v.l.length q.cap,.slice q.bd q.v.e.length q.dap] 26)).alloc
  (.cells #[.int .i64 a] 3)).alloc (.cells #[.pointer (some ⟨M,0,none⟩)] 64)).alloc (.cells #[.int .i64 0] 28)) :=
    ((((Below.refl _ w).alloc (Nat.le_refl _) _).alloc (by simp) _).alloc (by simp<;>omega) _).alloc (by simp<;>omega) _
  exact ⟨hb.os,hb.tape,hb.output,hb.size,fun k hk _=>hb.block k hk⟩
theorem CE.size (h:CE w q a M m r W):w.heap.size+4<=W.heap.size:=by have:=h.r.lt;omega
theorem CE.below (h:CE w q a M m r W) (hb:Below W.heap.size W W'):CE w q a M m r W':=by
 have hs:=h.size
 have hM:=h.hM
 exact ⟨(hb.block _ (by omega)).trans h.v,(hb.block _ (by omega)).trans h.a,(hb.block _ (by omega)).trans h.p,(hb.block _ (by omega)).trans h.r,(hb.block _ (by omega)).trans h.m,
  ⟨hb.os.trans h.g.os,hb.tape.trans h.g.tape,hb.output.trans h.g.output,Nat.le_trans h.g.size hb.size,fun k hk hne=>(hb.block k (Nat.lt_of_lt_of_le hk h.g.size)).trans (h.g.block k hk hne)⟩,hM⟩
theorem CE.turn (h:CE w q a M m r W) {m':Nat} (hg:W.grownBy W' (some M)) (hm:Boxed W' M 3 (.int .i64 m')):CE w q a M m' r W':=by
 have hs:=h.size
 have hM:=h.hM
 have hk:∀ k,w.heap.size<=k->k<W.heap.size->W'.heap[k]?=W.heap[k]?:=fun k h1 h2=>hg.block k h2 (fun e=>by cases e;omega)
 exact ⟨(hk _ (by omega) (by omega)).trans h.v,(hk _ (by omega) (by omega)).trans h.a,(hk _ (by omega) (by omega)).trans h.p,(hk _ (by omega) (by omega)).trans h.r,hm,grownBy_old h.g hg (.inl rfl),hM⟩
theorem CE.res (h:CE w q a M m r W) (r':Int):CE w q a M m r' (W.setCell ⟨w.heap.size+3,0,none⟩ (.int .i64 r')):=by
 have hs:=h.size
 have hM:=h.hM
 have hg:=grownBy_setCell' W (w.heap.size+3) (.int .i64 r')
 have hk:∀ k,k≠w.heap.size+3->k<W.heap.size->(W.setCell ⟨w.heap.size+3,0,none⟩ (.int .i64 r')).heap[k]?=W.heap[k]?:=fun k h1 h2=>hg.block k h2 (fun e=>h1 (Option.some.inj e))
 exact ⟨(hk _ (by omega) (by omega)).trans h.v,(hk _ (by omega) (by omega)).trans h.a,(hk _ (by omega) (by omega)).trans h.p,h.r.set _,(hk _ (by omega) (by omega)).trans h.m,grownBy_old h.g hg (.inr (by omega)),hM⟩
theorem CE.up (h:CE w q a M m r W):CE w q a M (m+1) r (W.setCell ⟨M,0,none⟩ (.int .i64 ((m:Int)+1))):=by
 refine h.turn (grownBy_setCell' W M _) ?_
 have:=h.m.set (.int .i64 ((m:Int)+1))
 rwa [show ((m:Int)+1)=((m+1:Nat):Int) by omega] at this ⊢
theorem CE.cells (h:CE w q a M m r W):W.cell? ⟨w.heap.size+1,0,none⟩=some (.int .i64 a)/\W.cell? ⟨w.heap.size+1+1,0,none⟩=some (.pointer (some ⟨M,0,none⟩))/\W.cell? ⟨w.heap.size+1+1+1,0,none⟩=some (.int .i64 r) /\
 W.cell? ⟨M,0,none⟩=some (.int .i64 m)/\W.frozen? ⟨M,0,none⟩=false/\W.frozen? ⟨w.heap.size+1+1+1,0,none⟩=false/\M<W.heap.size/\w.heap.size+1+1+1<W.heap.size :=
 ⟨by simp [World.cell?,h.a],by simp [World.cell?,h.p],h.r.cell,h.m.cell,h.m.frozen,h.r.frozen,h.m.lt,h.r.lt⟩
theorem CE.own (h:CE w q a M m r W) {row:Option Nat} (hg:W.grownBy W' row) (hr:∀ k,row=some k->w.heap.size<=k/\∃ o:Obj,W.heap[k]?=some o/\o.isCells=false):CE w q a M m r W':=by
 have hs:=h.size
 have hM:=h.hM
 have hk:∀ (k:Nat) (cs:Array Value) (ty:TypeId) (fz:Nat×Nat),W.heap[k]?=some (Obj.cells cs ty fz)->W'.heap[k]?=W.heap[k]?:=fun k cs ty fz hc=>hg.block k (Array.getElem?_eq_some_iff.1 hc).1 (fun e=>by
  obtain ⟨-,o,ho,hc2⟩:=hr k e.symm
  rw [hc] at ho;cases ho;cases hc2)
 refine ⟨(hk _ _ _ _ h.v).trans h.v,(hk _ _ _ _ h.a).trans h.a,(hk _ _ _ _ h.p).trans h.p,(hk _ _ _ _ h.r).trans h.r,(hk _ _ _ _ h.m).trans h.m,
  ⟨hg.os.trans h.g.os,hg.tape.trans h.g.tape,hg.output.trans h.g.output,Nat.le_trans h.g.size hg.size,fun k hk' hne=>?_⟩,hM⟩
 refine (hg.block k (Nat.lt_of_lt_of_le hk' h.g.size) (fun e=>?_)).trans (h.g.block k hk' hne)
 have:=(hr k e.symm).1
 omega
theorem CE.vc (h:CE w q a M m r W):CellsAt W w.heap.size 0 q:=CellsAt.box h.v
end Go.Proofs.YtldhmfkojaekfaaGreatDoor
namespace Go.Proofs.YtldhmfkojaekfaaGreatDoor
open Go.RowKit Go.Shelf Gx
attribute [local go_sem] Oper.semAt_some
set_option maxRecDepth 100000
set_option maxHeartbeats 4000000 in
theorem check_zero (q:Loc) (a:Int) (m m1 M:Nat) (w:World) (hM:Boxed w M 3 (.int .i64 m)) (hm:m<=2000) (hm1:m+1=m1) (r:Nat) (hd:(2000<m1/\r=2)\/(m1<=2000/\a=20/\r=5)) :
 Calls Tryz.prog 27 #[q.val,.int .i64 a,.pointer (some ⟨M,0,none⟩)] w (ChkPost (r,m1) M w):=by
 have HE:=Lib.hid (CE.start hM q a)
 unfold Loc.val
 refine callsIn_wide.1 (callsIn_of_wp_marks (n:=9) Tryz.func27 rfl trivial ?_)
 simp only [Tryz.ntmps27,List.size_toArray,List.length_cons,List.length_nil,Nat.reduceAdd,Nat.reduceSub,Array.replicate_succ,Array.replicate_zero,List.push_toArray,List.append_toArray,List.nil_append,List.cons_append]
 refine wpIn_wide.2 ?_
 clear hM
 have HM1:=Lib.hid hm1
 clear hm1
 go_upto_region 1 with fail
 generalize hw4:World.alloc _ _=w4 at HE ⊢
 clear hw4
 obtain ⟨ca,cp,cr,cm,fm,fr,lm,lr⟩:=HE.out.cells
 go_upto_region 2 with fail
 have HE5:=Lib.hid HE.out.up
 generalize hw5:World.setCell _ _ _=w5 at HE5 ⊢
 clear hw5 HE ca cp cr cm fm fr lm lr
 rw [HM1.out] at HE5
 obtain ⟨ca,cp,cr,cm,fm,fr,lm,lr⟩:=HE5.out.cells
 obtain ⟨c0,c1,c2,c3,c4,c5⟩:=HE5.out.vc
 have hm2:m1<=2001:=by have:=HM1.out;omega
 clear hm
 rcases hd with ⟨hlg,rfl⟩|⟨hlg,rfl,rfl⟩
 ·have t1:decide ((2000:Int)<(m1:Int))=true:=decide_eq_true (by omega)
  clear hlg c0 c1 c2 c3 c4 c5
  go_wp2_with fail
  exact ⟨_,by simp [results,Tryz.results27,go_sem,(HE5.out.res 2).cells.2.2.1],rfl,(HE5.out.res 2).m,(HE5.out.res 2).g⟩
 ·have t1:decide ((2000:Int)<(m1:Int))=false:=decide_eq_false (by omega)
  clear hlg
  go_wp2_with fail
  refine (own_deep q.v.k q.v.n q.v.f q.v.s q.ad q.bd q.v.l.length q.v.e.length q.cap q.dap _ 20 (by decide)).mono ?_
  rintro e w6 ⟨rfl,hb6⟩
  have HE6:=Lib.hid (HE5.out.below hb6)
  clear HE5 hb6 ca cp cr cm fm fr lm lr c0 c1 c2 c3 c4 c5
  obtain ⟨ca,cp,cr,cm,fm,fr,lm,lr⟩:=HE6.out.cells
  rw [show ((5:Nat):Int)=5 from rfl]
  go_wp2_with fail
  exact ⟨_,by simp [results,Tryz.results27,go_sem,(HE6.out.res 5).cells.2.2.1],rfl,(HE6.out.res 5).m,(HE6.out.res 5).g⟩
end Go.Proofs.YtldhmfkojaekfaaGreatDoor
namespace Go.Proofs.YtldhmfkojaekfaaGreatDoor
open Go.RowKit Go.Shelf Gx
attribute [local go_sem] Oper.semAt_some
set_option maxRecDepth 100000
def vsOf {w:World} {n₀ M:Nat} (pre:List (LocAt w n₀ M)):List V:=pre.map fun x=>x.1.v
theorem vsOf_snoc {w:World} {n₀ M:Nat} (pre:List (LocAt w n₀ M)) (x:LocAt w n₀ M):vsOf (pre++[x])=vsOf pre++[x.1.v]:=by simp [vsOf]
noncomputable def chkM (f:V->Nat->Nat×Nat) (v:V) (m:Nat):Nat×Nat:=if ownV v≠0 then (ownV v,m) else if keyE none v.e≠0 then (keyE none v.e,m) else chkAll f v.parts m
set_option maxHeartbeats 4000000 in
theorem check_more (q:Loc) (a:Int) (m m1 M:Nat) (w:World) (hM:Boxed w M 3 (.int .i64 m)) (hm1:m+1=m1) (hm2:m1<=2000) (ha:0<=a) (ha2:a<20) (hT:Tabs w) (hv:VAt w (Bw w.heap.size M) q)
 (f:V->Nat->Nat×Nat) (hf:∀ x m,m<=2000->(f x m).2<=2001/\((f x m).1=0->(f x m).2<=2000))
 (ih:∀ (p:Loc) (m M:Nat) (w:World),Boxed w M 3 (.int .i64 m)->m<=2000->Tabs w->VAt w (Bw w.heap.size M) p ->
   Calls Tryz.prog 27 #[p.val,.int .i64 (a+1),.pointer (some ⟨M,0,none⟩)] w (ChkPost (f p.v m) M w)) (r:Nat×Nat) (hr:chkM f q.v m1=r) :
 Calls Tryz.prog 27 #[q.val,.int .i64 a,.pointer (some ⟨M,0,none⟩)] w (ChkPost r M w):=by
 obtain ⟨v,ad,cap,bd,dap⟩:=q
 simp only at hv hr
 have HE:=Lib.hid (CE.start hM ⟨v,ad,cap,bd,dap⟩ a)
 have HMB:=Lib.hid hM
 have HM3:=Lib.hid hm2
 have HR:=Lib.hid hr
 have HF:=Lib.hid hf
 have IH:=Lib.hid ih
 have HV:=Lib.hid hv
 have HT:=Lib.hid hT
 have HM1:=Lib.hid hm1
 have hne:=hv.e.ebound
 have hnl:=hv.l.lbound
 simp only at hne hnl
 have hwf:=Lib.hid hv.wf
 clear hr hf ih hv hT hm1
 unfold Loc.val
 refine callsIn_wide.1 (callsIn_of_wp_marks (n:=9) Tryz.func27 rfl trivial ?_)
 simp only [Tryz.ntmps27,List.size_toArray,List.length_cons,List.length_nil,Nat.reduceAdd,Nat.reduceSub,Array.replicate_succ,Array.replicate_zero,List.push_toArray,List.append_toArray,List.nil_append,List.cons_append]
 refine wpIn_wide.2 ?_
 clear hM
 go_upto_region 1 with fail
 generalize hw4:World.alloc _ _=w4 at HE ⊢
 clear hw4
 obtain ⟨ca,cp,cr,cm,fm,fr,lm,lr⟩:=HE.out.cells
 have hm0:m<=2000:=by have:=HM1.out;omega
 go_upto_region 2 with fail
 have HE5:=Lib.hid HE.out.up
 generalize hw5:World.setCell _ _ _=w5 at HE5 ⊢
 clear hw5 HE ca cp cr cm fm fr lm lr
 rw [HM1.out] at HE5
 obtain ⟨ca,cp,cr,cm,fm,fr,lm,lr⟩:=HE5.out.cells
 obtain ⟨c0,c1,c2,c3,c4,c5⟩:=HE5.out.vc
 simp only at c0 c1 c2 c3 c4 c5
 clear hm0
 have t1:decide ((2000:Int)<(m1:Int))=false:=decide_eq_false (by omega)
 go_wp2_with fail
 have hT5:Tabs w5:=HT.out.but HMB.out HE5.out.g
 obtain ⟨o,ho⟩:∃ o,ownV v=o:=⟨_,rfl⟩
 have hown:=own_all v.k v.n v.f v.s ad bd v.l.length v.e.length cap dap w5 a ha ha2 hwf.out.f0 hwf.out.f1 (by omega) (by omega) (by have:=hwf.out.s1;omega) hT5
 rw [show ownE v.k v.n v.f v.s v.l.length v.e.length=o from ho] at hown
 have HO:=Lib.hid ho
 clear ho hT5
 refine hown.mono ?_
 clear hown
 rintro e w6 ⟨rfl,hb6⟩
 have HE6:=Lib.hid (HE5.out.below hb6)
 clear HE5 hb6 ca cp cr cm fm fr lm lr c0 c1 c2 c3 c4 c5 t1
 obtain ⟨ca,cp,cr,cm,fm,fr,lm,lr⟩:=HE6.out.cells
 obtain ⟨c0,c1,c2,c3,c4,c5⟩:=HE6.out.vc
 simp only at c0 c1 c2 c3 c4 c5
 by_cases ho0:o=0
 ·subst ho0
  clear c0 c1 c2 c3 c4
  have hchk:chkM f v m1=if keyE none v.e≠0 then (keyE none v.e,m1) else chkAll f v.parts m1:=by unfold chkM;rw [HO.out,if_neg (fun h=>h rfl)]
  rw [HR.out] at hchk
  have HR2:=Lib.hid hchk
  clear hchk hm2 hnl
  obtain ⟨ne,hne'⟩:∃ ne,v.e.length=ne:=⟨_,rfl⟩
  rw [hne'] at c5 hne
  have HNE:=Lib.hid hne'
  clear hne'
  go_wp2_with fail
  go_loopw [30] (fun v30 wr=>∃ k:Nat,k<=ne/\v30=.int .i64 k/\Hid (CE w ⟨v,ad,cap,bd,dap⟩ a M m1 0 wr)/\Hid (keyE (prevK v.e k) (v.e.drop k)=keyE none v.e)) (fun v30 _=>ne - (intOf v30).toNat)
  case atStart=>exact ⟨0,Nat.zero_le _,rfl,HE6,rfl⟩
  case round =>
   obtain ⟨k,hk,rfl,HEr,HK⟩:=hrel
   clear HE6 ca cp cr cm fm fr lm lr c5
   by_cases hlt:k<ne
   ·obtain ⟨x,hx⟩:∃ x,v.e[k]?=some x:=⟨_,List.getElem?_eq_getElem (by rw [HNE.out];exact hlt)⟩
    obtain ⟨b,off,hbd,hBb,hbl,hcs⟩:=HV.out.e.entry (by show 0<v.e.length;rw [HNE.out];omega)
    simp only at hbd
    subst hbd
    obtain ⟨hxs,gk,p,hp,-,gs⟩:=hcs k x hx
    have HCS:=Lib.hid hcs
    have hbk:wr.heap[b]?=w.heap[b]?:=HEr.out.g.block b hbl (fun e=>hBb.2 (Option.some.inj e))
    have gk':wr.cell? ⟨b,off+k * 7,none⟩=_:=(World.cell?_of_block hbk).trans gk
    obtain ⟨g0,g1,g2,g3,g4,g5⟩:=(gs.through hbk).seven
    have HX:=Lib.hid hx
    have hxs2:x.1.size<=140737488351232:=hxs
    have HEX:=Lib.hid (HEr.out.below ((Below.refl _ wr).alloc (Nat.le_refl _) (.cells #[.string x.1,.int .i64 p.v.k,.int .i64 p.v.n,.int .u64 p.v.f,.string p.v.s,.slice p.ad p.v.l.length p.cap,.slice p.bd p.v.e.length p.dap] 44)))
    have hkey:(wr.alloc (.cells #[.string x.1,.int .i64 p.v.k,.int .i64 p.v.n,.int .u64 p.v.f,.string p.v.s,.slice p.ad p.v.l.length p.cap,.slice p.bd p.v.e.length p.dap] 44)).cell? ⟨wr.heap.size,0,none⟩=some (.string x.1):=by
     simp
    clear gk gs hp hcs hx hbk
    go_upto_region 10 with fail
    generalize hw9:World.alloc wr _=w9 at HEX hkey ⊢
    clear hw9 gk' g0 g1 g2 g3 g4 g5
    obtain ⟨ca,cp,cr,cm,fm,fr,lm,lr⟩:=HEX.out.cells
    by_cases hbig:100<x.1.size
    ·have t3:decide ((100:Int)<(x.1.size:Int))=true:=decide_eq_true (by omega)
     have hke:keyE none v.e=2:=by rw [<-HK.out,keyE_drop HX.out,if_pos hbig]
     have hrr:r=(2,m1):=by rw [HR2.out,hke];rfl
     subst hrr
     clear hke hbig
     go_wp2_with fail
     exact ⟨_,by simp [results,Tryz.results27,go_sem,(HEX.out.res 2).cells.2.2.1],rfl,(HEX.out.res 2).m,(HEX.out.res 2).g⟩
    ·have t3:decide ((100:Int)<(x.1.size:Int))=false:=decide_eq_false (by omega)
     go_wp2_with fail
     refine (bad_any x.1 _ (HT.out.but HMB.out HEX.out.g) (by omega)).mono ?_
     rintro e w10 ⟨bi,rfl,hbi,hb10⟩
     have HE10:=Lib.hid (HEX.out.below hb10)
     have HB10:=Lib.hid hb10
     clear ca cp cr cm fm fr lm lr hb10
     obtain ⟨ca,cp,cr,cm,fm,fr,lm,lr⟩:=HE10.out.cells
     by_cases hok:okText x.1.data.toList
     ·have t4:decide (0<=bi)=false:=decide_eq_false (by have:=hbi.2 hok;omega)
      clear hbi
      have hkey10:w10.cell? ⟨wr.heap.size,0,none⟩=some (.string x.1):=(HB10.out.cell (p:=⟨wr.heap.size,0,none⟩) (World.block_lt_of_cell? _ _ hkey)).trans hkey
      have hke0:=HK.out
      rw [keyE_drop HX.out,if_neg hbig,if_neg (fun h=>h hok)] at hke0
      clear hkey hxs hxs2 hbig hok
      by_cases hk0:k=0
      ·have g1:decide ((0:Int)<(k:Int))=false:=decide_eq_false (by omega)
       have g2:decide (0<k)=false:=decide_eq_false (by omega)
       have hkb:keyBad (prevK v.e k) x.1=false:=by rw [hk0];rfl
       rw [if_neg (by rw [hkb];decide)] at hke0
       have HK2:=Lib.hid hke0
       clear hke0 hkb hk0
       go_wp2_with fail
       go_quiet (fail)
       have HE11:=Lib.hid (HE10.out.below (Gx.drewN_below w10 nq _))
       clear HE10
       go_wp2_with fail
       go_roundw
       case rel=>exact ⟨k+1,by omega,by go_num,HE11,HK2⟩
       case measure=>simp [intOf];omega
      ·obtain ⟨j,hj⟩:∃ j:Nat,(k:Int) - 1=(j:Int):=⟨k - 1,by omega⟩
       have hkj:k=j+1:=by omega
       have g1:decide ((0:Int)<(k:Int))=true:=decide_eq_true (by omega)
       have g2:decide (0<k)=true:=decide_eq_true (by omega)
       obtain ⟨y,hy⟩:∃ y,v.e[j]?=some y:=⟨_,List.getElem?_eq_getElem (by rw [HNE.out];omega)⟩
       have gy:=(HCS.out j y hy).2.1
       have hbk:w10.heap[b]?=w.heap[b]?:=HE10.out.g.block b hbl (fun e=>hBb.2 (Option.some.inj e))
       have gy':w10.cell? ⟨b,off+j * 7,none⟩=some (.string y.1):=(World.cell?_of_block hbk).trans gy
       have c5:w10.cell? ⟨w.heap.size,5,none⟩=some (.slice (some ⟨b,off,none⟩) ne dap):=by have:=HE10.out.vc.c5;simp only [HNE.out] at this;exact this
       have hpk:prevK v.e k=some y.1:=by unfold prevK;rw [if_neg hk0,hkj,Nat.add_sub_cancel,hy];rfl
       have hkb:keyBad (prevK v.e k) x.1=!(Op.bytesLess y.1.toList x.1.toList):=by rw [hpk];rfl
       have q1:(0:Int)<=(j:Int):=by omega
       have q2:(j:Int)<(ne:Int):=by omega
       have q3:(j:Int).toNat=j:=rfl
       have q4:j<ne:=by omega
       have HKJ:=Lib.hid hkj
       clear hy gy hbk hpk hkj hk0
       cases hbl2:Op.bytesLess y.1.toList x.1.toList with
       | true =>
         rw [hkb,hbl2,if_neg (by decide)] at hke0
         have HK2:=Lib.hid hke0
         clear hke0 hkb
         go_wp2_with fail
         go_quiet (fail)
         have HE11:=Lib.hid (HE10.out.below (Gx.drewN_below w10 nq _))
         clear HE10
         go_wp2_with fail
         go_roundw
         case rel=>exact ⟨k+1,by omega,by go_num,HE11,HK2⟩
         case measure=>simp [intOf];omega
       | false =>
         have hke:keyE none v.e=14:=by rw [<-hke0,hkb,hbl2,if_pos (by decide)]
         have hrr:r=(14,m1):=by rw [HR2.out,hke];rfl
         subst hrr
         clear hke hke0 hkb
         go_wp2_with fail
         go_quiet (fail)
         have HE11:=Lib.hid (HE10.out.below (Gx.drewN_below w10 nq _))
         clear HE10 ca cp cr cm fm fr lm lr
         obtain ⟨ca,cp,cr,cm,fm,fr,lm,lr⟩:=HE11.out.cells
         go_wp2_with fail
         exact ⟨_,by simp [results,Tryz.results27,go_sem,(HE11.out.res 14).cells.2.2.1],rfl,(HE11.out.res 14).m,(HE11.out.res 14).g⟩
     ·have t4:decide (0<=bi)=true:=decide_eq_true (Int.not_lt.1 (fun h=>hok (hbi.1 h)))
      have hke:keyE none v.e=3:=by rw [<-HK.out,keyE_drop HX.out,if_neg hbig,if_pos hok]
      have hrr:r=(3,m1):=by rw [HR2.out,hke];rfl
      subst hrr
      clear hke hbig hbi hok
      go_wp2_with fail
      exact ⟨_,by simp [results,Tryz.results27,go_sem,(HE10.out.res 3).cells.2.2.1],rfl,(HE10.out.res 3).m,(HE10.out.res 3).g⟩
   ·obtain rfl:k=ne:=by omega
    have hke:keyE none v.e=0:=by rw [<-HK.out];have:=keyE_end v.e (prevK v.e k);rwa [HNE.out] at this
    have hrr:r=chkAll f v.parts m1:=by rw [HR2.out,hke];rfl
    have HRR:=Lib.hid hrr
    obtain ⟨ca,cp,cr,cm,fm,fr,lm,lr⟩:=HEr.out.cells
    obtain ⟨c0,c1,c2,c3,c4,c5⟩:=HEr.out.vc
    simp only at c0 c1 c2 c3 c4 c5
    have hpt:=parts_any ⟨v,ad,cap,bd,dap⟩ wr
    simp only [Loc.val] at hpt
    have HPT:=Lib.hid hpt
    clear hke hrr hpt hlt hk
    go_wp2_with fail
    refine HPT.out.mono ?_
    rintro e w11 ⟨rfl,rfl⟩
    go_wp2_with fail
    have hce:=HEr.out.below ((Below.refl _ wr).alloc (Nat.le_refl _) (.cells #[.int .i64 v.k,.int .i64 v.n,.int .u64 v.f,.string v.s,.slice ad v.l.length cap,.slice bd v.e.length dap] 26))
    have hbx:(wr.alloc (.cells #[.int .i64 v.k,.int .i64 v.n,.int .u64 v.f,.string v.s,.slice ad v.l.length cap,.slice bd v.e.length dap] 26)).heap[wr.heap.size]?=some (.cells #[.int .i64 v.k,.int .i64 v.n,.int .u64 v.f,.string v.s,.slice ad v.l.length cap,.slice bd v.e.length dap] 26):=heap_alloc_new wr _
    have hsz:(wr.alloc (.cells #[.int .i64 v.k,.int .i64 v.n,.int .u64 v.f,.string v.s,.slice ad v.l.length cap,.slice bd v.e.length dap] 26)).heap.size=wr.heap.size+1:=by simp
    have hwr:=HEr.out.size
    have hMw:=HEr.out.hM
    obtain ⟨W0,hW0⟩:∃ W0,wr.alloc (.cells #[.int .i64 v.k,.int .i64 v.n,.int .u64 v.f,.string v.s,.slice ad v.l.length cap,.slice bd v.e.length dap] 26)=W0:=⟨_,rfl⟩
    rw [hW0] at hce hbx hsz ⊢
    have hv0:VAt W0 (Bw W0.heap.size M) ⟨v,ad,cap,bd,dap⟩:=HV.out.through hce.g.size (fun b hb hl=>hce.g.block b hl (fun e=>hb.2 (Option.some.inj e))) (fun b hb hl=>⟨by omega,hb.2⟩)
    obtain ⟨ls,es,hls,hes⟩:=locs_of hv0
    have hmap:vsOf (ls++es)=v.parts:=by unfold vsOf;rw [List.map_append,hls.1,hes.1];rfl
    have hlb:ls.length<=1000000000000000:=by rw [hls.len];have:=HV.out.l.lbound;simp only at this ⊢;omega
    have heb:es.length<=1000000000000000:=by rw [hes.len];have:=HV.out.e.ebound;simp only at this ⊢;omega
    have HM2:=HM3
    clear hW0 ca cp cr cm fm fr lm lr c0 c1 c2 c3 c4 c5
    refine (wpIn_wide (n:=5)).1 ?_
    refine wpIn_rangeFunc_ownH (encs:=fun x:LocAt W0 W0.heap.size M=>#[x.1.val]) (Kp:=KeM W0.heap.size M) (S:=fun ys=>ys=ls++es) (Sp:=fun pre=>pre <+: ls++es) (N:=ls.length+es.length) (w0:=W0)
     rfl (by decide) (gf:=55) (lb:=#[.pointer (some ⟨wr.heap.size,0,none⟩)]) rfl trivial (enters_of Tryz.func55 (by kernel_rfl) rfl)
     (fun l J Jx W hW hJ hJx hY h0=>parts1_in 4 (by decide) l wr.heap.size W0.heap.size M W0 ⟨v,ad,cap,bd,dap⟩ ls es ⟨by omega,by omega⟩ hls hes hlb heb J Jx W ⟨hW.size,fun k hk hl=>hW.block k hl⟩ hJ hY ((hW.block _ (by omega)).trans hbx) h0)
     (fun h k=>h.trans k) (KeM.put (Nat.le_refl _)) (Below.refl _ _) (fun _=>rfl)
     (fun pre W=>((chkAll f (vsOf pre) m1).1=0/\(chkAll f (vsOf pre) m1).2<=2000)/\CE w ⟨v,ad,cap,bd,dap⟩ a M (chkAll f (vsOf pre) m1).2 0 W/\KeM W0.heap.size M W0 W)
     (fun c pre W=>(c=.ret/\(chkAll f (vsOf pre) m1).1≠0)/\CE w ⟨v,ad,cap,bd,dap⟩ a M (chkAll f (vsOf pre) m1).2 (chkAll f (vsOf pre) m1).1 W)
     (fun s A B row hs hg hr=>⟨hs.1,hs.2.1.own hg (fun k e=>⟨by have:=(hr k e).1;omega,(hr k e).2⟩),hs.2.2.trans (KeM.grow hg (fun k e hb=>by have:=(hr k e).1;have:=hb.1;omega))⟩)
     (fun c s A B row hs hg hr=>⟨hs.1,hs.2.own hg (fun k e=>⟨by have:=(hr k e).1;omega,(hr k e).2⟩)⟩)
     ⟨⟨rfl,HM2.out⟩,hce,KeM.refl _ _ _⟩
     (fun x a' W=>∃ Bx:Nat,W.heap[Bx]?=some (.cells #[.int .i64 x.1.v.k,.int .i64 x.1.v.n,.int .u64 x.1.v.f,.string x.1.v.s,.slice x.1.ad x.1.v.l.length x.1.cap,.slice x.1.bd x.1.v.e.length x.1.dap] 26)/\a'={ tmps:=#[.agg #[.int .i64 v.k,.int .i64 v.n,.int .u64 v.f,.string v.s,.slice ad v.l.length cap,.slice bd v.e.length dap],.int .i64 a,.pointer (some ⟨M,0,none⟩),.pointer (some ⟨w.heap.size,0,none⟩),.pointer (some ⟨w.heap.size+1,0,none⟩),.pointer (some ⟨w.heap.size+1+1,0,none⟩),.pointer (some ⟨w.heap.size+1+1+1,0,none⟩),.int .i64 0,u8,u9,.pointer (some ⟨Bx,0,none⟩),undef,.pointer (some ⟨M,0,none⟩),.pointer (some ⟨M,0,none⟩),.int .i64 m,.int .i64 (m+1),.pointer (some ⟨M,0,none⟩),.pointer (some ⟨M,0,none⟩),.pointer (some ⟨M,0,none⟩),.int .i64 m1,.bool false,.agg #[.int .i64 v.k,.int .i64 v.n,.int .u64 v.f,.string v.s,.slice ad v.l.length cap,.slice bd v.e.length dap],.int .i64 a,.int .i64 0,.int .i64 0,.bool false,undef,.pointer (some ⟨w.heap.size,5,none⟩),.slice bd k dap,.int .i64 k,.int .i64 k,.bool false,u32,u33,u34,u35,u36,u37,u38,u39,u40,u41,u42,u43,u44,u45,u46,u47,u48,u49,u50,u51,u52,u53,u54,u55,u56,u57,u58,u59,u60,.agg #[.int .i64 v.k,.int .i64 v.n,.int .u64 v.f,.string v.s,.slice ad v.l.length cap,.slice bd v.e.length dap],.func (.func 55) #[] #[.pointer (some ⟨wr.heap.size,0,none⟩)],x.1.val,undef,undef,undef,undef,undef,undef,undef,undef],defers:=[] })
     (fun x a' _ X Y row hs hg hr=>by
       obtain ⟨Bx,e2,e3⟩:=hs
       exact ⟨Bx,(hg.block Bx (Array.getElem?_eq_some_iff.1 e2).1 (fun e=>by obtain ⟨-,o,ho,hc⟩:=hr Bx e.symm;rw [e2] at ho;cases ho;cases hc)).trans e2,e3⟩)
     ?assign ?body ?done ?stop
    case assign =>
     rintro l pre x W K ⟨hp,hce1,hke1⟩ hK
     simp only [Loc.val]
     gi_wp2
     exact hK _ _ ((KeepsOthers.alloc _ _).from _) (KeM.alloc _ _ _ _) ⟨hp,hce1.below ((Below.refl _ W).alloc (Nat.le_refl _) _),hke1.trans (KeM.alloc _ _ _ _)⟩ ⟨W.heap.size,heap_alloc_new W _,rfl⟩
    case body =>
     rintro l pre x a' W hl ⟨rr,hrr⟩ ⟨⟨hp0,hp1⟩,hce1,hke1⟩ ⟨Bx,hbx1,rfl⟩ hlt1
     obtain ⟨ca,cp,cr,cm,fm,fr,lm,lr⟩:=hce1.cells
     have hb1:CellsAt W Bx 0 x.1:=CellsAt.box hbx1
     obtain ⟨c0,c1,c2,c3,c4,c5⟩:=hb1
     have hvx:VAt W (Bw W.heap.size M) x.1:=x.2.through hke1.size (fun b hb hl=>hke1.block b hb hl) (fun b hb hl=>⟨by have:=hke1.size;have:=hb.1;omega,hb.2⟩)
     have hih:=IH.out x.1 (chkAll f (vsOf pre) m1).2 M W hce1.m hp1 (HT.out.but HMB.out hce1.g) hvx
     simp only [Loc.val] at hih
     have HIH:=Lib.hid hih
     have HCE1:=Lib.hid hce1
     have HPM:Hid ((chkAll f (vsOf pre) m1).2<=2000):=Lib.hid hp1
     have HSN:Hid (chkAll f (vsOf (pre++[x])) m1=f x.1.v (chkAll f (vsOf pre) m1).2):=Lib.hid (by rw [vsOf_snoc];exact chkAll_snoc f _ _ _ hp0)
     have HKE1:=Lib.hid hke1
     obtain ⟨r1,hr1⟩:∃ r1,f x.1.v (chkAll f (vsOf pre) m1).2=r1:=⟨_,rfl⟩
     rw [hr1] at HIH HSN
     have hle:=HF.out x.1.v _ hp1
     rw [hr1] at hle
     have HLE:=Lib.hid hle
     clear hih hvx hp0 hp1 hke1 hce1 hr1 hle hrr hbx1
     gi_wp2
     refine ⟨trivial,?_⟩
     (with_reducible refine (CallsIn.inRound l (callsIn_wide.2 HIH.out)).mono ?_)
     rintro e w12 ⟨rfl,hm12,hg12⟩
     have hce12:=HCE1.out.turn hg12 hm12
     have HK12:=Lib.hid (KeepsFrom.of_grownBy (B:=W0.heap.size) hg12 (fun k e=>by cases e;omega))
     have HKM12:=Lib.hid (HKE1.out.trans (KeM.grow hg12 (fun k e hb=>by cases e;exact hb.2 rfl)))
     have HKM13:=Lib.hid (KeM.grow (n₀:=W0.heap.size) hg12 (fun k e hb=>by cases e;exact hb.2 rfl))
     have HCE12:=Lib.hid hce12
     clear ca cp cr cm fm fr lm lr c0 c1 c2 c3 c4 c5 hm12 hg12 hce12
     obtain ⟨ca,cp,cr,cm,fm,fr,lm,lr⟩:=HCE12.out.cells
     by_cases hz:r1.1=0
     ·have t6:(((r1.1:Nat):Int) != 0)=false:=by rw [hz];rfl
      have HZ:=Lib.hid hz
      clear hz
      gi_wp2
      exact ⟨HK12.out,HKM13.out,⟨by rw [HSN.out];exact HZ.out,by rw [HSN.out];exact HLE.out.2 HZ.out⟩,by rw [HSN.out];exact HCE12.out,HKM12.out⟩
     ·have t6:(((r1.1:Nat):Int) != 0)=true:=by simp;omega
      gi_wp2
      refine ⟨HK12.out.trans (KeepsFrom.of_grownBy (grownBy_setCell' w12 (w.heap.size+3) _) (fun k e=>by cases e;omega)),⟨rfl,by rw [HSN.out];exact hz⟩,by rw [HSN.out];exact HCE12.out.res _⟩
    case done =>
     rintro D ys W hD rfl ⟨⟨hp0,hp1⟩,hce1,hke1⟩ hK
     have hrf:r=chkAll f (vsOf (ls++es)) m1:=by rw [hmap];exact HRR.out
     have HRF:=Lib.hid hrf
     have hce2:=(hce1.res 0).own (grownBy_putObj' _ D (.deferred none)) (fun k e=>by cases e;exact ⟨by omega,_,(KeepsOthers.setCell _ _ _).same D _ hK rfl,rfl⟩)
     have HCE2:=Lib.hid hce2
     have hK2:=(KeepsOthers.setCell W ⟨w.heap.size+3,0,none⟩ (.int .i64 0)).same D _ hK rfl
     have HK2:=Lib.hid hK2
     obtain ⟨ca,cp,cr,cm,fm,fr,lm,lr⟩:=hce1.cells
     have HP0:=Lib.hid hp0
     clear hrf hce2 hK hK2 hke1 hp0 hp1 hce1
     go_wp2_with fail
     refine ⟨by simp,.inl ⟨_,_,rfl,run_takeDeferred HK2.out,?_⟩⟩
     refine ⟨.int .i64 0,by simp [results,Tryz.results27,go_sem,HCE2.out.cells.2.2.1],?_,?_,?_⟩
     ·rw [HRF.out,HP0.out];rfl
     ·rw [HRF.out];exact HCE2.out.m
     ·exact HCE2.out.g
    case stop =>
     rintro D c pre W hD hSp ⟨⟨rfl,hne0⟩,hce1⟩ hK
     have hrf:r=chkAll f (vsOf pre) m1:=by
      obtain ⟨post,hpost⟩:=hSp
      have h2:chkAll f (vsOf (ls++es)) m1=chkAll f (vsOf pre) m1:=by
       rw [<-hpost,show vsOf (pre++post)=vsOf pre++vsOf post from by simp [vsOf]]
       exact chkAll_stop f _ _ _ hne0
      rw [<-h2,hmap];exact HRR.out
     have HRF:=Lib.hid hrf
     have hce2:=hce1.own (grownBy_putObj' _ D (.deferred none)) (fun k e=>by cases e;exact ⟨by omega,_,hK,rfl⟩)
     have HCE2:=Lib.hid hce2
     have HK2:=Lib.hid hK
     clear hrf hce2 hK hne0 hce1 hSp
     refine wpIn_wide.2 ?_
     go_wp2_with fail
     refine ⟨by simp,.inl ⟨_,_,rfl,run_takeDeferred HK2.out,?_⟩⟩
     refine ⟨.int .i64 ((chkAll f (vsOf pre) m1).1:Nat),by simp [results,Tryz.results27,go_sem,HCE2.out.cells.2.2.1],?_,?_,?_⟩
     ·rw [HRF.out]
     ·rw [HRF.out];exact HCE2.out.m
     ·exact HCE2.out.g
 ·have t2:((o:Int) != 0)=true:=by simp;omega
  have hrr:r=(o,m1):=by rw [<-HR.out];unfold chkM;rw [HO.out,if_pos ho0]
  subst hrr
  clear c0 c1 c2 c3 c4 c5 ho0
  go_wp2_with fail
  exact ⟨_,by simp [results,Tryz.results27,go_sem,(HE6.out.res o).cells.2.2.1],rfl,(HE6.out.res o).m,(HE6.out.res o).g⟩
end Go.Proofs.YtldhmfkojaekfaaGreatDoor
namespace Go.Proofs.YtldhmfkojaekfaaGreatDoor
open Go.RowKit Go.Shelf Gx
set_option maxRecDepth 100000
theorem check_any:∀ (d:Nat) (q:Loc) (m M:Nat) (w:World),d<=20->Boxed w M 3 (.int .i64 m)->m<=2000->Tabs w->VAt w (Bw w.heap.size M) q ->
 Calls Tryz.prog 27 #[q.val,.int .i64 (20 - (d:Int)),.pointer (some ⟨M,0,none⟩)] w (ChkPost (chk d q.v m) M w)
 | 0,q,m,M,w,_,hM,hm,hT,hv=>by
   by_cases h:2000<m+1
   ·have:=check_zero q 20 m (m+1) M w hM hm rfl 2 (.inl ⟨h,rfl⟩)
    rw [show chk 0 q.v m=(2,m+1) by simp only [chk];rw [if_pos h]]
    exact this
   ·have:=check_zero q 20 m (m+1) M w hM hm rfl 5 (.inr ⟨by omega,rfl,rfl⟩)
    rw [show chk 0 q.v m=(5,m+1) by simp only [chk];rw [if_neg h]]
    exact this
 | d+1,q,m,M,w,hd,hM,hm,hT,hv=>by
   by_cases h:2000<m+1
   ·have:=check_zero q (20 - ((d+1:Nat):Int)) m (m+1) M w hM hm rfl 2 (.inl ⟨h,rfl⟩)
    rw [show chk (d+1) q.v m=(2,m+1) by simp only [chk];rw [if_pos h]]
    exact this
   ·refine check_more q (20 - ((d+1:Nat):Int)) m (m+1) M w hM rfl (by omega) (by omega) (by omega) hT hv (chk d) (chk_le d) (fun p m' M' w' h1 h2 h3 h4=>?_) _ ?_
    ·have:=check_any d p m' M' w' (by omega) h1 h2 h3 h4
     rwa [show (20 - ((d+1:Nat):Int))+1=20 - (d:Int) by omega]
    ·simp only [chk];rw [if_neg h];rfl
def CheckPost (r:Nat) (w:World) (e:Ending) (w':World):Prop:=e=.returned (.int .i64 r)/\Below w.heap.size w w'
set_option maxHeartbeats 1000000 in
theorem Check_any (q:Loc) (w:World) (hT:Tabs w) (hv:VAt w (fun _=>True) q):Calls Tryz.prog 17 #[q.val] w (CheckPost (chkV q.v) w):=by
 have hb0:Below w.heap.size w (w.alloc (.cells #[.int .i64 q.v.k,.int .i64 q.v.n,.int .u64 q.v.f,.string q.v.s,.slice q.ad q.v.l.length q.cap,.slice q.bd q.v.e.length q.dap] 26)):=(Below.refl w.heap.size w).alloc (Nat.le_refl _) _
 have hsz:(w.alloc (.cells #[.int .i64 q.v.k,.int .i64 q.v.n,.int .u64 q.v.f,.string q.v.s,.slice q.ad q.v.l.length q.cap,.slice q.bd q.v.e.length q.dap] 26)).heap.size=w.heap.size+1:=by simp
 have hc:=CellsAt.box (q:=q) (heap_alloc_new w (.cells #[.int .i64 q.v.k,.int .i64 q.v.n,.int .u64 q.v.f,.string q.v.s,.slice q.ad q.v.l.length q.cap,.slice q.bd q.v.e.length q.dap] 26))
 unfold Loc.val
 have HT:=Lib.hid hT
 have HV:=Lib.hid hv
 clear hT hv
 go_enter Tryz.func17,Tryz.ntmps17
 go_upto_region 1 with fail
 generalize hw1:World.alloc w _=w1 at hb0 hsz hc ⊢
 clear hw1
 have hb1:Below w.heap.size w (w1.alloc (.cells #[.int .i64 0] 3)):=hb0.alloc hb0.size _
 have hc1:CellsAt (w1.alloc (.cells #[.int .i64 0] 3)) w.heap.size 0 q:=hc.through (Below.heap_alloc w1 _ _ (by omega))
 have hbx:Boxed (w1.alloc (.cells #[.int .i64 0] 3)) w1.heap.size 3 (.int .i64 ((0:Nat):Int)):=Boxed.new w1 _ _
 rw [hsz] at hbx
 go_upto_region 2 with fail
 generalize hw2:World.alloc w1 _=w2 at hb1 hc1 hbx ⊢
 obtain ⟨c0,c1,c2,c3,c4,c5⟩:=hc1
 have HB1:=Lib.hid hb1
 have HBX:=Lib.hid hbx
 clear hw2 hb0 hc hb1 hbx
 go_wp2_with fail
 have hck:=check_any 20 q 0 (w.heap.size+1) w2 (Nat.le_refl _) HBX.out (by decide) (HT.out.keep HB1.out) ((HV.out.through HB1.out.size (fun b _ hl=>HB1.out.block b hl) (fun b _ hl=>⟨Nat.lt_of_lt_of_le hl HB1.out.size,by omega⟩)))
 simp only [Loc.val] at hck
 rw [show (20 - ((20:Nat):Int))=0 from rfl] at hck
 (with_reducible refine hck.mono ?_)
 clear hck
 rintro e w3 ⟨rfl,-,hg⟩
 go_wp2_with fail
 try go_ret
 exact ⟨rfl,HB1.out.trans ((Below.refl _ w2).grown hg HB1.out.size (fun k e=>by cases e;omega))⟩
end Go.Proofs.YtldhmfkojaekfaaGreatDoor
namespace Go.Proofs.YtldhmfkojaekfaaGreatDoor
open Go.RowKit Gx
set_option maxRecDepth 100000
structure MTabs (w:World):Prop where
 e:ETabs w
 m:MaxOk w
theorem MTabs.keep {w w':World} (h:MTabs w) (hb:Below w.heap.size w w'):MTabs w':=⟨h.e.keep hb,h.m.keep hb⟩
def MeanPost (l:List UInt8) (w:World) (e:Ending) (w':World):Prop:=Below w.heap.size w w' /\
 ((∃ q:Loc,MeanOk l q.v/\e=.returned (.tuple #[q.val,.int .i64 0,.int .i64 0])/\VAt w' (fun b=>w.heap.size<=b) q) \/
  (∃ (a:Nat) (c:Int),MeanBad l a c/\c≠0/\e=.returned (.tuple #[.agg #[.int .i64 0,.int .i64 0,.int .u64 0,.string ⟨#[]⟩,.slice none 0 0,.slice none 0 0],.int .i64 a,.int .i64 c])))
structure MC (w:World) (u0 u1 u2 u3 u4 u5:Value) (x y:Value) (W:World):Prop where
 v:W.heap[w.heap.size]?=some (.cells #[u0,u1,u2,u3,u4,u5] 26)
 a:W.heap[w.heap.size+1]?=some (.cells #[x] 3)
 e:W.heap[w.heap.size+1+1]?=some (.cells #[y] 28)
 g:Below w.heap.size w W
namespace MC
variable {w W W':World} {u0 u1 u2 u3 u4 u5 x y:Value}
theorem lt (h:MC w u0 u1 u2 u3 u4 u5 x y W):w.heap.size+1+1<W.heap.size:=(Array.getElem?_eq_some_iff.1 h.e).1
theorem keep (h:MC w u0 u1 u2 u3 u4 u5 x y W) (hb:Below W.heap.size W W'):MC w u0 u1 u2 u3 u4 u5 x y W':=by
 have:=h.lt
 exact ⟨(hb.block _ (by omega)).trans h.v,(hb.block _ (by omega)).trans h.a,(hb.block _ (by omega)).trans h.e,h.g.trans (hb.mono (by omega))⟩
theorem setA (h:MC w u0 u1 u2 u3 u4 u5 x y W) (z:Value):MC w u0 u1 u2 u3 u4 u5 z y (W.setCell ⟨w.heap.size+1,0,none⟩ z):=by
 have:=h.lt
 have g:=grown_cell W (w.heap.size+1) 0 z
 exact ⟨(g.block _ (by omega) (fun e=>by have:=Option.some.inj e;omega)).trans h.v,by simp [World.setCell,Array.getElem?_modify,h.a],(g.block _ (by omega) (fun e=>by have:=Option.some.inj e;omega)).trans h.e,h.g.grown g (by omega) (fun k e=>by have:=Option.some.inj e;omega)⟩
theorem setE (h:MC w u0 u1 u2 u3 u4 u5 x y W) (z:Value):MC w u0 u1 u2 u3 u4 u5 x z (W.setCell ⟨w.heap.size+1+1,0,none⟩ z):=by
 have:=h.lt
 have g:=grown_cell W (w.heap.size+1+1) 0 z
 exact ⟨(g.block _ (by omega) (fun e=>by have:=Option.some.inj e;omega)).trans h.v,(g.block _ (by omega) (fun e=>by have:=Option.some.inj e;omega)).trans h.a,by simp [World.setCell,Array.getElem?_modify,h.e],h.g.grown g (by omega) (fun k e=>by have:=Option.some.inj e;omega)⟩
theorem setV (h:MC w u0 u1 u2 u3 u4 u5 x y W) (t0 t1 t2 t3 t4 t5:Value):∃ W9,W9=(((((W.setCell ⟨w.heap.size,0,none⟩ t0).setCell ⟨w.heap.size,1,none⟩ t1).setCell ⟨w.heap.size,2,none⟩ t2).setCell ⟨w.heap.size,3,none⟩ t3).setCell ⟨w.heap.size,4,none⟩ t4).setCell ⟨w.heap.size,5,none⟩ t5/\MC w t0 t1 t2 t3 t4 t5 x y W9/\W.heap.size<=W9.heap.size/\∀ B q,VAt W B q->¬ B w.heap.size->VAt W9 B q:=by
 have:=h.lt
 obtain ⟨W9,h1,h2,h3,h4,h5,h6⟩:=six_all h.v t0 t1 t2 t3 t4 t5
 exact ⟨W9,h1,⟨h2,(h3 _ (by omega)).trans h.a,(h3 _ (by omega)).trans h.e,h5 _ _ h.g (Nat.le_refl _)⟩,h4,h6⟩
theorem cells (h:MC w u0 u1 u2 u3 u4 u5 x y W):W.cell? ⟨w.heap.size,0,none⟩=some u0/\W.cell? ⟨w.heap.size,1,none⟩=some u1/\W.cell? ⟨w.heap.size,2,none⟩=some u2/\W.cell? ⟨w.heap.size,3,none⟩=some u3/\W.cell? ⟨w.heap.size,4,none⟩=some u4/\W.cell? ⟨w.heap.size,5,none⟩=some u5/\(∀ j,W.frozen? ⟨w.heap.size,j,none⟩=false):=six_cells h.v
theorem cellA (h:MC w u0 u1 u2 u3 u4 u5 x y W):W.cell? ⟨w.heap.size+1,0,none⟩=some x/\W.frozen? ⟨w.heap.size+1,0,none⟩=false:=⟨by simp [World.cell?,h.a],by simp [World.frozen?,h.a]⟩
theorem cellE (h:MC w u0 u1 u2 u3 u4 u5 x y W):W.cell? ⟨w.heap.size+1+1,0,none⟩=some y/\W.frozen? ⟨w.heap.size+1+1,0,none⟩=false:=⟨by simp [World.cell?,h.e],by simp [World.frozen?,h.e]⟩
theorem start (w:World):MC w (.int .i64 0) (.int .i64 0) (.int .u64 0) (.string ⟨#[]⟩) (.slice none 0 0) (.slice none 0 0) (.int .i64 0) (.int .i64 0)
 (((w.alloc (.cells #[.int .i64 0,.int .i64 0,.int .u64 0,.string ⟨#[]⟩,.slice none 0 0,.slice none 0 0] 26)).alloc (.cells #[.int .i64 0] 3)).alloc (.cells #[.int .i64 0] 28)):=by
 refine ⟨(alloc_old_gx _ _ (by simp;omega)).trans ((alloc_old_gx _ _ (by simp)).trans (heap_alloc_new w _)),(alloc_old_gx _ _ (by simp)).trans ?_,?_,(((Below.refl _ w).alloc (Nat.le_refl _) _).alloc (by simp) _).alloc (by simp;omega) _⟩
 ·have:=heap_alloc_new (w.alloc (.cells #[.int .i64 0,.int .i64 0,.int .u64 0,.string ⟨#[]⟩,.slice none 0 0,.slice none 0 0] 26)) (.cells #[.int .i64 0] 3)
  rwa [World.size_alloc] at this
 ·have:=heap_alloc_new ((w.alloc (.cells #[.int .i64 0,.int .i64 0,.int .u64 0,.string ⟨#[]⟩,.slice none 0 0,.slice none 0 0] 26)).alloc (.cells #[.int .i64 0] 3)) (.cells #[.int .i64 0] 28)
  rwa [World.size_alloc,World.size_alloc] at this
end MC
theorem setCell_same {W:World} {b j:Nat} {arr:Array Value} {ty:TypeId} {v:Value} (h:W.heap[b]?=some (.cells arr ty)) (hj:arr[j]?=some v):W.setCell ⟨b,j,none⟩ v=W:=by
 have hh:(W.setCell ⟨b,j,none⟩ v).heap=W.heap:=by
  apply Array.ext_getElem?
  intro i
  by_cases hi:i=b
  ·subst hi
   rw [h]
   simp [World.setCell,Array.getElem?_modify,h]
   apply Array.ext_getElem?
   intro k
   rw [Array.getElem?_setIfInBounds]
   by_cases hk:j=k
   ·subst hk
    obtain ⟨h1,h2⟩:=Array.getElem?_eq_some_iff.1 hj
    simp [h1,hj,h2]
   ·simp [hk]
  ·have hi2:¬ b=i:=fun e=>hi e.symm
   simp [World.setCell,Array.getElem?_modify,hi2]
 cases W
 simp [World.setCell] at hh ⊢
 exact hh
set_option maxHeartbeats 16000000 in
theorem mean_any (s:ByteArray) (w:World) (hT:MTabs w):Calls Tryz.prog 15 #[.string s] w (MeanPost s.data.toList w):=by
 have hmf:∀ (fn:Fn) (first cap:Array Value) (w:World),(Instr.makeFunc fn first cap).run Tryz.prog w=.ok (.func fn first cap) w:=fun _ _ _ _=>rfl
 have hmc:=MC.start w
 have HT:=Lib.hid hT
 clear hT
 go_enter_defers Tryz.func15,Tryz.ntmps15
 go_upto_region 1 with fail
 generalize hw1:World.alloc (World.alloc (World.alloc w _) _) _=W1 at hmc ⊢
 clear hw1
 have hP:=Lib.hid (parse_any s W1 (HT.out.m.keep hmc.g))
 unfold ParsePost at hP
 have HMC:=Lib.hid hmc
 obtain ⟨L,hL⟩:∃ L,s.data.toList=L:=⟨_,rfl⟩
 rw [hL] at hP ⊢
 have HL:=Lib.hid hL
 clear hmc hL
 go_wp2_with fail
 (with_reducible refine hP.out.mono ?_)
 rintro e W2 ⟨hb2,h2⟩
 have h2':(∃ (a:Nat) (c:Int),MeanBad L a c/\c≠0/\e=.returned (.tuple #[.agg #[.int .i64 0,.int .i64 0,.int .i64 0,.slice none 0 0],.int .i64 a,.int .i64 c])) \/
  (L.length<=20000/\(parseS (treeX L)).bad=0/\∃ g,e=.returned (.tuple #[.agg #[.int .i64 6,.int .i64 0,.int .i64 (treeX L).T.length,.slice (some ⟨g,0,none⟩) 1 1],.int .i64 0,.int .i64 0])/\KidsAt W2 (fun b=>W1.heap.size<=b) (docNd L).kids (.slice (some ⟨g,0,none⟩) 1 1)):=by
  rcases h2 with ⟨h,rfl⟩|⟨h,h1,rfl⟩|h
  ·exact .inl ⟨0,2,.inl ⟨h,rfl,rfl⟩,by decide,rfl⟩
  ·exact .inl ⟨_,_,.inr (.inl ⟨h,h1,rfl,rfl⟩),h1,rfl⟩
  ·exact .inr h
 have HM2:=Lib.hid (HMC.out.keep hb2)
 have HB2:=Lib.hid hb2
 have hlt1:=HMC.out.lt
 clear h2 hb2 hP HMC
 rcases h2' with ⟨a,c,hbad,hc,rfl⟩|⟨hl,hp,g,rfl,hkids⟩
 ·have hm3:=HM2.out.keep ((Below.refl W2.heap.size W2).alloc (Nat.le_refl _) (.cells #[.int .i64 0,.int .i64 0,.int .i64 0,.slice none 0 0] 53))
  obtain ⟨ca,cfa⟩:=hm3.cellA
  have hm4:=hm3.setA (.int .i64 a)
  obtain ⟨ce,cfe⟩:=hm4.cellE
  have hm5:=hm4.setE (.int .i64 c)
  have t1:(c != 0)=true:=by simpa using hc
  have HBAD:=Lib.hid (And.intro hbad hc)
  clear hbad hc hm3 hm4
  go_upto_region 3 with fail
  generalize hw5:World.setCell (World.setCell (World.alloc W2 _) _ _) _ _=W5 at hm5 ⊢
  clear hw5 ca cfa ce cfe
  obtain ⟨v0,v1,v2,v3,v4,v5,vf⟩:=hm5.cells
  have vf0:=vf 0
  have vf1:=vf 1
  have vf2:=vf 2
  have vf3:=vf 3
  have vf4:=vf 4
  have vf5:=vf 5
  obtain ⟨a0,af⟩:=hm5.cellA
  obtain ⟨e0,ef⟩:=hm5.cellE
  clear vf
  have s0:W5.drew.setCell ⟨w.heap.size,0,none⟩ (.int .i64 0)=W5.drew:=setCell_same (W:=W5.drew) hm5.v rfl
  have s1:W5.drew.setCell ⟨w.heap.size,1,none⟩ (.int .i64 0)=W5.drew:=setCell_same (W:=W5.drew) hm5.v rfl
  have s2:W5.drew.setCell ⟨w.heap.size,2,none⟩ (.int .u64 0)=W5.drew:=setCell_same (W:=W5.drew) hm5.v rfl
  have s3:W5.drew.setCell ⟨w.heap.size,3,none⟩ (.string ⟨#[]⟩)=W5.drew:=setCell_same (W:=W5.drew) hm5.v rfl
  have s4:W5.drew.setCell ⟨w.heap.size,4,none⟩ (.slice none 0 0)=W5.drew:=setCell_same (W:=W5.drew) hm5.v rfl
  have s5:W5.drew.setCell ⟨w.heap.size,5,none⟩ (.slice none 0 0)=W5.drew:=setCell_same (W:=W5.drew) hm5.v rfl
  have s6:W5.drew.setCell ⟨w.heap.size+1,0,none⟩ (.int .i64 a)=W5.drew:=setCell_same (W:=W5.drew) hm5.a rfl
  have s7:W5.drew.setCell ⟨w.heap.size+1+1,0,none⟩ (.int .i64 c)=W5.drew:=setCell_same (W:=W5.drew) hm5.e rfl
  have hmx:=hm5.keep (Gx.drewN_below W5 1 _)
  have HMX:Hid (MC w (.int .i64 0) (.int .i64 0) (.int .u64 0) (.string ⟨#[]⟩) (.slice none 0 0) (.slice none 0 0) (.int .i64 a) (.int .i64 c) W5.drew):=Lib.hid hmx
  have HR:Hid (MeanPost L w (.returned (.tuple #[.agg #[.int .i64 0,.int .i64 0,.int .u64 0,.string ⟨#[]⟩,.slice none 0 0,.slice none 0 0],.int .i64 a,.int .i64 c])) W5.drew):=Lib.hid ⟨HMX.out.g,.inr ⟨a,c,HBAD.out.1,HBAD.out.2,rfl⟩⟩
  clear hmx hm5
  go_region
  clear s0 s1 s2 s3 s4 s5 s6 s7 v0 v1 v2 v3 v4 v5 vf0 vf1 vf2 vf3 vf4 vf5 a0 af e0 ef
  generalize W5.drew=W6 at HMX HR ⊢
  obtain ⟨x0,x1,x2,x3,x4,x5,-⟩:=HMX.out.cells
  obtain ⟨xa,-⟩:=HMX.out.cellA
  obtain ⟨xe,-⟩:=HMX.out.cellE
  go_wp2_with fail
  rw [HL.out]
  exact ⟨.tuple #[.agg #[.int .i64 0,.int .i64 0,.int .u64 0,.string ⟨#[]⟩,.slice none 0 0,.slice none 0 0],.int .i64 a,.int .i64 c],by simp [results,Tryz.results15,go_sem,x0,x1,x2,x3,x4,x5,xa,xe],HR.out⟩
 ·have hm3:=HM2.out.keep ((Below.refl W2.heap.size W2).alloc (Nat.le_refl _) (.cells #[.int .i64 6,.int .i64 0,.int .i64 (treeX L).T.length,.slice (some ⟨g,0,none⟩) 1 1] 53))
  have hn3:=heap_alloc_new W2 (.cells #[.int .i64 6,.int .i64 0,.int .i64 (treeX L).T.length,.slice (some ⟨g,0,none⟩) 1 1] 53)
  have hb3:=HB2.out.alloc HB2.out.size (.cells #[.int .i64 6,.int .i64 0,.int .i64 (treeX L).T.length,.slice (some ⟨g,0,none⟩) 1 1] 53)
  have hk3:=hkids.grow (grown_alloc W2 (.cells #[.int .i64 6,.int .i64 0,.int .i64 (treeX L).T.length,.slice (some ⟨g,0,none⟩) 1 1] 53) none) (fun b e=>by cases e)
  obtain ⟨ca,cfa⟩:=hm3.cellA
  have hm4:=hm3.setA (.int .i64 0)
  have hk4:=hk3.grow (grown_cell _ (w.heap.size+1) 0 (.int .i64 0)) (fun b e=>by have:=Option.some.inj e;omega)
  have hn4:=((grown_cell (W2.alloc (.cells #[.int .i64 6,.int .i64 0,.int .i64 (treeX L).T.length,.slice (some ⟨g,0,none⟩) 1 1] 53)) (w.heap.size+1) 0 (.int .i64 0)).block W2.heap.size (by simp) (fun e=>by have:=Option.some.inj e;have:=HM2.out.lt;omega)).trans hn3
  obtain ⟨ce,cfe⟩:=hm4.cellE
  have hm5:=hm4.setE (.int .i64 0)
  have hk5:=(hk4.grow (grown_cell _ (w.heap.size+1+1) 0 (.int .i64 0)) (fun b e=>by have:=Option.some.inj e;omega)).weak (C:=fun _=>True) (fun _ _ _=>trivial)
  have hn5:=((grown_cell ((W2.alloc (.cells #[.int .i64 6,.int .i64 0,.int .i64 (treeX L).T.length,.slice (some ⟨g,0,none⟩) 1 1] 53)).setCell ⟨w.heap.size+1,0,none⟩ (.int .i64 0)) (w.heap.size+1+1) 0 (.int .i64 0)).block W2.heap.size (by simp [World.setCell]) (fun e=>by have:=Option.some.inj e;have:=HM2.out.lt;omega)).trans hn4
  clear hm3 hm4 hk3 hk4 hn3 hn4 hb3 hkids hlt1
  go_upto_region 5 with fail
  generalize hw5:World.setCell (World.setCell (World.alloc W2 _) _ _) _ _=W5 at hm5 hk5 hn5 ⊢
  generalize hnb:W2.heap.size=nb at hn5 ⊢
  clear hw5 ca cfa ce cfe hnb
  have HC:=Lib.hid (cut_any s W5 (HT.out.m.keep hm5.g))
  unfold CutPost at HC
  rw [HL.out] at HC
  have hls:L.length=s.size:=by rw [<-HL.out];exact (Lib.size_eq s).symm
  have HM5:=Lib.hid hm5
  have HK5:=Lib.hid hk5
  have HN5:=Lib.hid hn5
  have hnl5:=(Array.getElem?_eq_some_iff.1 hn5).1
  clear hm5 hk5 hn5 HM2 HB2
  go_wp2_with fail
  (with_reducible refine HC.out.mono ?_)
  rintro e W6 (⟨-,vo,vc,rfl,hown,hb6⟩|⟨h,-⟩)
  rotate_left
  ·exact absurd hl (by omega)
  have htk:=(TokAt.of_own (g:=0) hown rfl)
  have hba:=hb6.alloc hb6.size (.cells #[.string s,.slice vo (toks L).length vc] 61)
  have hrd:=heap_alloc_new W6 (.cells #[.string s,.slice vo (toks L).length vc] 61)
  have hms:MS (W6.alloc (.cells #[.string s,.slice vo (toks L).length vc] 61)) W6.heap.size vo vc s (treeX L):=⟨hrd,htk.keep ((Below.refl _ _).alloc (Nat.le_refl _) _),HL.out⟩
  have hmc:=HM5.out.keep hba
  have hkd:=HK5.out.since hba
  have hnd:=(hba.block nb hnl5).trans HN5.out
  have hTl:(treeX L).T.length<=20000:=Nat.le_trans (toks_len _) hl
  clear hown hb6 hba hrd htk HM5 HK5 HN5 HC
  go_upto_region 7 with fail
  generalize hw7:World.alloc W6 _=W7 at hms hmc hkd hnd ⊢
  generalize hR:W6.heap.size=R at hms ⊢
  clear hw7 hR
  obtain ⟨blk,hblk,ko,kc,hbk,e0,e1,e2,e3,hkk⟩:=kid_at hkd 0 (rootN L) rfl
  obtain rfl:g=blk:=congrArg Addr.block (Option.some.inj hblk)
  have HV:=Lib.hid (valM_any R vo vc s (treeX L) (treeX_in L) hl hTl 21 (rootN L) ko kc W7 hms (HT.out.e.keep hmc.g) hkk (root_wn hp))
  unfold Out at HV
  have HM7:=Lib.hid hmc
  have HRES:=Lib.hid (And.intro hl hp)
  obtain ⟨nk,hnk⟩:∃ nk,(rootN L).k=nk:=⟨_,rfl⟩
  obtain ⟨na,hna⟩:∃ na,(rootN L).a=na:=⟨_,rfl⟩
  obtain ⟨nd,hnd2⟩:∃ nd,(rootN L).b=nd:=⟨_,rfl⟩
  obtain ⟨nz,hnz⟩:∃ nz,(rootN L).kids.length=nz:=⟨_,rfl⟩
  rw [hnk,hna,hnd2,hnz] at HV
  rw [hnk] at e0
  rw [hna] at e1
  rw [hnd2] at e2
  rw [hnz] at e3
  obtain ⟨d0,d1,d2,d3⟩:=node4 hnd
  have e0':W7.cell? ⟨g,0,none⟩=some (.int .i64 nk):=e0
  have e1':W7.cell? ⟨g,1,none⟩=some (.int .i64 na):=e1
  have e2':W7.cell? ⟨g,2,none⟩=some (.int .i64 nd):=e2
  have e3':W7.cell? ⟨g,3,none⟩=some (.slice ko nz kc):=e3
  clear hmc hkd hnd hms hkk hl hp hnk hna hnd2 hnz hTl e0 e1 e2 e3 hblk hbk
  go_wp2_with fail
  (with_reducible refine HV.out.mono ?_)
  rintro e W8 ⟨hb8,⟨q,hq,rfl,hv⟩|⟨f,c,hq,hc1,hc2,rfl⟩⟩
  ·have hm8:=HM7.out.keep hb8
   have hlt7:=HM7.out.lt
   obtain ⟨c0,c1,c2,c3,c4,c5,cf⟩:=hm8.cells
   have cf0:=cf 0
   have cf1:=cf 1
   have cf2:=cf 2
   have cf3:=cf 3
   have cf4:=cf 4
   have cf5:=cf 5
   obtain ⟨W9,hW9,hm9,hs9,hvw⟩:=hm8.setV (.int .i64 q.v.k) (.int .i64 q.v.n) (.int .u64 q.v.f) (.string q.v.s) (.slice q.ad q.v.l.length q.cap) (.slice q.bd q.v.e.length q.dap)
   have hv9:=(hvw _ _ hv (by omega)).weak (C:=fun b=>w.heap.size+1+1<b) (fun b hb _=>by omega)
   have HMOK:Hid (chkV q.v=0->MeanOk L q.v):=Lib.hid (fun h=>⟨HRES.out.1,HRES.out.2,hq,h⟩)
   have HMBD:Hid (chkV q.v≠0->MeanBad L 0 (chkV q.v:Int)):=Lib.hid (fun h=>.inr (.inr ⟨HRES.out.1,HRES.out.2,.inr ⟨q.v,hq,h,rfl,rfl⟩⟩))
   have hck:=Check_any q W9 (HT.out.e.u.keep hm9.g) (hv9.weak (fun _ _ _=>trivial))
   unfold Loc.val at hck ⊢
   unfold YtldhmfkojaekfaaGreatDoor.CheckPost at hck
   have HCK:=Lib.hid hck
   have HV9:=Lib.hid hv9
   have HM9:=Lib.hid hm9
   have HW9:=Lib.hid hW9
   clear hb8 hv hq hm8 hW9 hm9 hs9 hvw hv9 hck cf HV d0 d1 d2 d3 e0' e1' e2' e3' HRES HM7 hlt7
   go_upto_region 8 with fail
   rw [<-HW9.out]
   clear HW9 c0 c1 c2 c3 c4 c5 cf0 cf1 cf2 cf3 cf4 cf5
   obtain ⟨c0,c1,c2,c3,c4,c5,-⟩:=HM9.out.cells
   go_wp2_with fail
   (with_reducible refine HCK.out.mono ?_)
   rintro e W10 ⟨rfl,hb10⟩
   have hm10:=HM9.out.keep hb10
   have hv10:=HV9.out.keep hb10
   obtain ⟨ck,hck⟩:∃ ck,chkV q.v=ck:=⟨_,rfl⟩
   rw [hck] at HMOK HMBD ⊢
   clear c0 c1 c2 c3 c4 c5 HCK HM9 HV9 hb10 hck
   by_cases hz:ck=0
   ·subst hz
    rw [show ((0:Nat):Int)=0 from rfl]
    obtain ⟨c0,c1,c2,c3,c4,c5,cf⟩:=hm10.cells
    have cf0:=cf 0
    have cf1:=cf 1
    have cf2:=cf 2
    have cf3:=cf 3
    have cf4:=cf 4
    have cf5:=cf 5
    clear cf
    obtain ⟨W11,hW11,hm11,hs11,hvw11⟩:=hm10.setV (.int .i64 q.v.k) (.int .i64 q.v.n) (.int .u64 q.v.f) (.string q.v.s) (.slice q.ad q.v.l.length q.cap) (.slice q.bd q.v.e.length q.dap)
    obtain ⟨ca,cfa⟩:=hm11.cellA
    have hm12:=hm11.setA (.int .i64 0)
    obtain ⟨ce,cfe⟩:=hm12.cellE
    have hm13:=hm12.setE (.int .i64 0)
    obtain ⟨x0,x1,x2,x3,x4,x5,-⟩:=hm13.cells
    obtain ⟨xa,-⟩:=hm13.cellA
    obtain ⟨xe,-⟩:=hm13.cellE
    have hv13:=((hvw11 _ _ hv10 (by omega)).grow (grown_cell W11 (w.heap.size+1) 0 (.int .i64 0)) (fun b e hb=>by have:=Option.some.inj e;omega)).grow (grown_cell _ (w.heap.size+1+1) 0 (.int .i64 0)) (fun b e hb=>by have:=Option.some.inj e;omega)
    have HR:Hid (MeanPost s.data.toList w (.returned (.tuple #[.agg #[.int .i64 q.v.k,.int .i64 q.v.n,.int .u64 q.v.f,.string q.v.s,.slice q.ad q.v.l.length q.cap,.slice q.bd q.v.e.length q.dap],.int .i64 0,.int .i64 0])) ((W11.setCell ⟨w.heap.size+1,0,none⟩ (.int .i64 0)).setCell ⟨w.heap.size+1+1,0,none⟩ (.int .i64 0))):=Lib.hid ⟨hm13.g,.inl ⟨q,by rw [HL.out];exact HMOK.out rfl,rfl,hv13.weak (fun b hb _=>by omega)⟩⟩
    have HW11:=Lib.hid hW11
    rw [hW11] at ca cfa ce cfe x0 x1 x2 x3 x4 x5 xa xe HR
    clear hm10 hv10 hm11 hs11 hvw11 hm12 hm13 hv13 hW11 HMOK HMBD
    go_wp2_with fail
    refine leaves_cons (f:=25) (args:=#[.pointer (some ⟨w.heap.size,0,none⟩),.pointer (some ⟨w.heap.size+1+1,0,none⟩),.pointer (some ⟨w.heap.size+1,0,none⟩)]) (by simp) (by simp [go_sem]) ?_
    refine (catch_idle _ _ _ _).mono ?_
    rintro e u' W15 ⟨rfl,rfl,rfl⟩
    exact ⟨.tuple #[.agg #[.int .i64 q.v.k,.int .i64 q.v.n,.int .u64 q.v.f,.string q.v.s,.slice q.ad q.v.l.length q.cap,.slice q.bd q.v.e.length q.dap],.int .i64 0,.int .i64 0],by simp [results,Tryz.results15,go_sem,x0,x1,x2,x3,x4,x5,xa,xe],HR.out⟩
   ·have t1:((ck:Int) != 0)=true:=by simp;omega
    obtain ⟨c0,c1,c2,c3,c4,c5,cf⟩:=hm10.cells
    have cf0:=cf 0
    have cf1:=cf 1
    have cf2:=cf 2
    have cf3:=cf 3
    have cf4:=cf 4
    have cf5:=cf 5
    clear cf
    obtain ⟨W11,hW11,hm11,hs11,hvw11⟩:=hm10.setV (.int .i64 0) (.int .i64 0) (.int .u64 0) (.string ⟨#[]⟩) (.slice none 0 0) (.slice none 0 0)
    obtain ⟨ca,cfa⟩:=hm11.cellA
    have hm12:=hm11.setA (.int .i64 0)
    obtain ⟨ce,cfe⟩:=hm12.cellE
    have hm13:=hm12.setE (.int .i64 ck)
    obtain ⟨x0,x1,x2,x3,x4,x5,-⟩:=hm13.cells
    obtain ⟨xa,-⟩:=hm13.cellA
    obtain ⟨xe,-⟩:=hm13.cellE
    have HR:Hid (MeanPost s.data.toList w (.returned (.tuple #[.agg #[.int .i64 0,.int .i64 0,.int .u64 0,.string ⟨#[]⟩,.slice none 0 0,.slice none 0 0],.int .i64 0,.int .i64 ck])) ((W11.setCell ⟨w.heap.size+1,0,none⟩ (.int .i64 0)).setCell ⟨w.heap.size+1+1,0,none⟩ (.int .i64 ck))):=Lib.hid ⟨hm13.g,.inr ⟨0,ck,by rw [HL.out];exact HMBD.out hz,by omega,rfl⟩⟩
    rw [hW11] at ca cfa ce cfe x0 x1 x2 x3 x4 x5 xa xe HR
    clear hm10 hv10 hm11 hs11 hvw11 hm12 hm13 hW11 HMOK HMBD hz
    go_wp2_with fail
    refine leaves_cons (f:=25) (args:=#[.pointer (some ⟨w.heap.size,0,none⟩),.pointer (some ⟨w.heap.size+1+1,0,none⟩),.pointer (some ⟨w.heap.size+1,0,none⟩)]) (by simp) (by simp [go_sem]) ?_
    refine (catch_idle _ _ _ _).mono ?_
    rintro e u' W15 ⟨rfl,rfl,rfl⟩
    exact ⟨.tuple #[.agg #[.int .i64 0,.int .i64 0,.int .u64 0,.string ⟨#[]⟩,.slice none 0 0,.slice none 0 0],.int .i64 0,.int .i64 ck],by simp [results,Tryz.results15,go_sem,x0,x1,x2,x3,x4,x5,xa,xe],HR.out⟩
  ·have hm8:=HM7.out.keep hb8
   unfold thrown
   have HBAD:Hid (MeanBad L f.1 c/\c≠0):=Lib.hid ⟨.inr (.inr ⟨HRES.out.1,HRES.out.2,.inl ⟨f,hq,rfl,hc1,hc2⟩⟩),hc1⟩
   have hlt:=hm8.lt
   have HCF:=Lib.hid (catch_fault w.heap.size (w.heap.size+1+1) (w.heap.size+1) f.1 c _ _ _ _ _ _ _ _ W8 hm8.v hm8.e hm8.a (by omega) (by omega) (by omega))
   have HG:=Lib.hid hm8.g
   clear hm8 hq hc1 hc2 hb8 HV d0 d1 d2 d3 e0' e1' e2' e3' HRES HM7
   go_wp2_with fail
   refine leaves_cons (f:=25) (args:=#[.pointer (some ⟨w.heap.size,0,none⟩),.pointer (some ⟨w.heap.size+1+1,0,none⟩),.pointer (some ⟨w.heap.size+1,0,none⟩)]) (by simp) (by simp [go_sem]) ?_
   refine HCF.out.mono ?_
   rintro e u' W9 ⟨rfl,rfl,k0,k1,k2,hbw⟩
   have hr:MeanPost s.data.toList w (.returned (.tuple #[.agg #[.int .i64 0,.int .i64 0,.int .u64 0,.string ⟨#[]⟩,.slice none 0 0,.slice none 0 0],.int .i64 f.1,.int .i64 c])) W9:=⟨hbw _ _ HG.out (Nat.le_refl _) (by omega) (by omega),.inr ⟨f.1,c,by rw [HL.out];exact HBAD.out.1,HBAD.out.2,rfl⟩⟩
   obtain ⟨x0,x1,x2,x3,x4,x5,-⟩:=six_cells k0
   have xa:W9.cell? ⟨w.heap.size+1,0,none⟩=some (.int .i64 f.1):=by simp [World.cell?,k2]
   have xe:W9.cell? ⟨w.heap.size+1+1,0,none⟩=some (.int .i64 c):=by simp [World.cell?,k1]
   clear HCF HG HBAD hbw k0 k1 k2
   exact ⟨.tuple #[.agg #[.int .i64 0,.int .i64 0,.int .u64 0,.string ⟨#[]⟩,.slice none 0 0,.slice none 0 0],.int .i64 f.1,.int .i64 c],by simp [results,Tryz.results15,go_sem,x0,x1,x2,x3,x4,x5,xa,xe],hr⟩
end Go.Proofs.YtldhmfkojaekfaaGreatDoor
namespace Go.Proofs.YtldhmfkojaekfaaGreatDoor
open Go.RowKit Gx
set_option maxRecDepth 100000
def AlikePost (v u:V) (w:World) (e:Ending) (w':World):Prop:=∃ b:Bool,e=.returned (.bool b)/\(b=true↔v=u)/\Below w.heap.size w w'
def upTo {α:Type} (k:Nat) (a b:List α):Prop:=∀ i,i<k->a[i]?=b[i]?
theorem upTo_succ {α:Type} {k:Nat} {a b:List α} (h:upTo k a b) (hk:a[k]?=b[k]?):upTo (k+1) a b:=fun i hi=>by
 by_cases e:i=k
 ·rw [e];exact hk
 ·exact h i (by omega)
theorem upTo_all {α:Type} {a b:List α} (h:upTo a.length a b) (hl:a.length=b.length):a=b:=by
 apply List.ext_getElem?
 intro i
 by_cases hi:i<a.length
 ·exact h i hi
 ·rw [List.getElem?_eq_none (by omega),List.getElem?_eq_none (by omega)]
structure Two (w:World) (q p:Loc) (W:World):Prop where
 a:CellsAt W w.heap.size 0 q
 b:CellsAt W (w.heap.size+1) 0 p
 g:Below w.heap.size w W
 s:w.heap.size+2<=W.heap.size
theorem Two.start (q p:Loc) (w:World):Two w q p ((w.alloc (.cells #[.int .i64 q.v.k,.int .i64 q.v.n,.int .u64 q.v.f,.string q.v.s,.slice q.ad q.v.l.length q.cap,.slice q.bd q.v.e.length q.dap] 26)).alloc
 (.cells #[.int .i64 p.v.k,.int .i64 p.v.n,.int .u64 p.v.f,.string p.v.s,.slice p.ad p.v.l.length p.cap,.slice p.bd p.v.e.length p.dap] 26)):=by
 refine ⟨?_,?_,((Below.refl _ w).alloc (Nat.le_refl _) _).alloc (by simp) _,by simp⟩
 ·refine CellsAt.box (ty:=26) ?_
  rw [Below.heap_alloc _ _ _ (by simp)]
  exact heap_alloc_new w _
 ·refine CellsAt.box (ty:=26) ?_
  have:=heap_alloc_new (w.alloc (.cells #[.int .i64 q.v.k,.int .i64 q.v.n,.int .u64 q.v.f,.string q.v.s,.slice q.ad q.v.l.length q.cap,.slice q.bd q.v.e.length q.dap] 26)) (.cells #[.int .i64 p.v.k,.int .i64 p.v.n,.int .u64 p.v.f,.string p.v.s,.slice p.ad p.v.l.length p.cap,.slice p.bd p.v.e.length p.dap] 26)
  rwa [World.size_alloc] at this
theorem Two.keep {w:World} {q p:Loc} {W W':World} (h:Two w q p W) (hb:Below W.heap.size W W'):Two w q p W':=by
 have hs:=h.s
 exact ⟨h.a.through (hb.block _ (by omega)),h.b.through (hb.block _ (by omega)),h.g.trans (hb.mono h.g.size),by have:=hb.size;omega⟩
set_option maxHeartbeats 8000000 in
theorem alike_step (v u:V) (ad bd ad' bd':Option Addr) (cap dap cap' dap':Nat) (w:World) (hq:VAt w (fun _=>True) ⟨v,ad,cap,bd,dap⟩) (hp:VAt w (fun _=>True) ⟨u,ad',cap',bd',dap'⟩)
 (ih:∀ (q p:Loc) (w:World),SizeOf.sizeOf q.v<SizeOf.sizeOf v->VAt w (fun _=>True) q->VAt w (fun _=>True) p->Calls Tryz.prog 16 #[q.val,p.val] w (AlikePost q.v p.v w)) :
 Calls Tryz.prog 16 #[.agg #[.int .i64 v.k,.int .i64 v.n,.int .u64 v.f,.string v.s,.slice ad v.l.length cap,.slice bd v.e.length dap],.agg #[.int .i64 u.k,.int .i64 u.n,.int .u64 u.f,.string u.s,.slice ad' u.l.length cap',.slice bd' u.e.length dap']] w (AlikePost v u w):=by
 have HT:=Lib.hid (Two.start ⟨v,ad,cap,bd,dap⟩ ⟨u,ad',cap',bd',dap'⟩ w)
 simp only at HT
 have HQ:=Lib.hid hq
 have HP:=Lib.hid hp
 have IH:=Lib.hid ih
 have hl1:=hq.l.lbound
 have he1:=hq.e.ebound
 have hl2:=hp.l.lbound
 have he2:=hp.e.ebound
 simp only at hl1 he1 hl2 he2
 clear hq hp ih
 have no:∀ W:World,v≠u->Below w.heap.size w W->AlikePost v u w (.returned (.bool false)) W:=fun W h hb=>⟨false,rfl,⟨fun e=>by simp at e,fun e=>absurd e h⟩,hb⟩
 have NO:=Lib.hid no
 clear no
 have fl1:∀ a b:Nat,a≠b->((a:Int) != (b:Int))=true:=fun a b h=>by simp;omega
 have fl2:∀ a b:Nat,a≠b->(a != b)=true:=fun a b h=>by simp [h]
 have FL1:=Lib.hid fl1
 have FL2:=Lib.hid fl2
 clear fl1 fl2
 go_enter Tryz.func16,Tryz.ntmps16
 go_upto_region 1 with fail
 generalize hw2:World.alloc (World.alloc w _) _=w2 at HT ⊢
 clear hw2
 obtain ⟨a0,a1,a2,a3,a4,a5⟩:=HT.out.a
 obtain ⟨b0,b1,b2,b3,b4,b5⟩:=HT.out.b
 simp only at a0 a1 a2 a3 a4 a5 b0 b1 b2 b3 b4 b5
 by_cases e1:v.k=u.k
 rotate_left
 ·have t1:(v.k != u.k)=true:=by simpa using e1
  have HN:=Lib.hid (NO.out _ (fun h=>e1 (by rw [h])) HT.out.g)
  clear e1
  go_wp2_with fail
  try go_ret
  exact HN.out
 have t1:(v.k != u.k)=false:=by simpa using e1
 by_cases e2:v.n=u.n
 rotate_left
 ·have t2:(v.n != u.n)=true:=by simpa using e2
  have HN:=Lib.hid (NO.out _ (fun h=>e2 (by rw [h])) HT.out.g)
  clear e1 e2
  go_wp2_with fail
  try go_ret
  exact HN.out
 have t2:(v.n != u.n)=false:=by simpa using e2
 by_cases e3:v.f=u.f
 rotate_left
 ·have t3:(v.f != u.f)=true:=by simpa using e3
  have HN:=Lib.hid (NO.out _ (fun h=>e3 (by rw [h])) HT.out.g)
  clear e1 e2 e3
  go_wp2_with fail
  try go_ret
  exact HN.out
 have t3:(v.f != u.f)=false:=by simpa using e3
 by_cases e4:v.s=u.s
 rotate_left
 ·have t4:(v.s.toList==u.s.toList)=false:=by
   simp only [ByteArray.toList_eq,beq_eq_false_iff_ne,ne_eq]
   intro h;exact e4 (by cases hv:v.s;cases hu:u.s;rw [hv,hu] at h;congr 1;exact Array.toList_inj.1 h)
  have HN:=Lib.hid (NO.out _ (fun h=>e4 (by rw [h])) HT.out.g)
  clear e1 e2 e3 e4
  go_wp2_with fail
  try go_ret
  exact HN.out
 have t4:(v.s.toList==u.s.toList)=true:=by rw [e4];simp
 by_cases e5:v.l.length=u.l.length
 rotate_left
 ·have t5:=FL1.out _ _ e5
  have t5':=FL2.out _ _ e5
  have HN:=Lib.hid (NO.out _ (fun h=>e5 (by rw [h])) HT.out.g)
  clear e1 e2 e3 e4 e5
  go_wp2_with fail
  try go_ret
  exact HN.out
 by_cases e6:v.e.length=u.e.length
 rotate_left
 ·have t5:((v.l.length:Int) != (u.l.length:Int))=false:=by simp [e5]
  have t5':(v.l.length != u.l.length)=false:=by simp [e5]
  have t6:=FL1.out _ _ e6
  have t6':=FL2.out _ _ e6
  have HN:=Lib.hid (NO.out _ (fun h=>e6 (by rw [h])) HT.out.g)
  clear e1 e2 e3 e4 e5 e6
  go_wp2_with fail
  try go_ret
  exact HN.out
 have HYES:Hid (v.l=u.l->v.e=u.e->v=u):=Lib.hid (fun x y=>V.ext' e1 e2 e3 e4 x y)
 have t5:((v.l.length:Int) != (u.l.length:Int))=false:=by simp [e5]
 have t5':(v.l.length != u.l.length)=false:=by simp [e5]
 have t6:((v.e.length:Int) != (u.e.length:Int))=false:=by simp [e6]
 have t6':(v.e.length != u.e.length)=false:=by simp [e6]
 have E5:=Lib.hid e5
 have E6:=Lib.hid e6
 clear e1 e2 e3 e4 e5 e6
 obtain ⟨nl,hnl⟩:∃ nl,v.l.length=nl:=⟨_,rfl⟩
 obtain ⟨ne,hne⟩:∃ ne,v.e.length=ne:=⟨_,rfl⟩
 obtain ⟨ml,hml⟩:∃ ml,u.l.length=ml:=⟨_,rfl⟩
 obtain ⟨me,hme⟩:∃ me,u.e.length=me:=⟨_,rfl⟩
 rw [hnl] at a4 t5 t5' hl1 E5
 rw [hml] at b4 t5 t5' hl2 E5
 rw [hne] at a5 t6 t6' he1 E6
 rw [hme] at b5 t6 t6' he2 E6
 rw [hnl,hml,hne,hme]
 have HNL:=Lib.hid hnl
 have HNE:=Lib.hid hne
 have HML:=Lib.hid hml
 have HME:=Lib.hid hme
 clear hnl hne hml hme
 go_wp2_with fail
 clear t1 t2 t3 t4 t5 t5' t6 t6' a0 a1 a2 a3 a4 a5 b0 b1 b2 b3 b4 b5
 go_loopw [54] (fun v54 wr=>∃ k:Nat,k<=nl/\v54=.int .i64 k/\Hid (Two w ⟨v,ad,cap,bd,dap⟩ ⟨u,ad',cap',bd',dap'⟩ wr)/\Hid (upTo k v.l u.l)) (fun v54 _=>nl - (intOf v54).toNat)
 case atStart=>exact ⟨0,Nat.zero_le _,rfl,HT,Lib.hid (fun i hi=>by omega)⟩
 case round =>
  obtain ⟨k,hk,rfl,HTr,HU⟩:=hrel
  clear HT
  by_cases hlt:k<nl
  ·have hlt2:k<ml:=by have:=E5.out;omega
   obtain ⟨x,hx⟩:∃ x,v.l[k]?=some x:=⟨_,List.getElem?_eq_getElem (by rw [HNL.out];exact hlt)⟩
   obtain ⟨y,hy⟩:∃ y,u.l[k]?=some y:=⟨_,List.getElem?_eq_getElem (by rw [HML.out];exact hlt2)⟩
   obtain ⟨b1,o1,hd1,-,hbl1,hcs1⟩:=HQ.out.l.elem (by show 0<v.l.length;rw [HNL.out];omega)
   obtain ⟨b2,o2,hd2,-,hbl2,hcs2⟩:=HP.out.l.elem (by show 0<u.l.length;rw [HML.out];omega)
   simp only at hd1 hd2
   subst hd1
   subst hd2
   obtain ⟨q1,hq1,hv1,hg1⟩:=hcs1 k x hx
   obtain ⟨q2,hq2,hv2,hg2⟩:=hcs2 k y hy
   clear hcs1 hcs2
   have hg:=HTr.out.g
   obtain ⟨c0,c1,c2,c3,c4,c5⟩:=hg1.through (hg.block _ hbl1)
   obtain ⟨d0,d1,d2,d3,d4,d5⟩:=hg2.through (hg.block _ hbl2)
   have a4:=HTr.out.a.c4
   have b4:=HTr.out.b.c4
   simp only [HNL.out,HML.out] at a4 b4
   have r1:(0:Int)<=(k:Int):=by omega
   have r2:(k:Int)<(nl:Int):=by omega
   have r3:(k:Int)<(ml:Int):=by omega
   have r4:(k:Int).toNat=k:=rfl
   have hih:=IH.out q1 q2 wr.drew (by rw [hq1];exact V.lt_l (List.mem_of_getElem? hx)) ((hv1.keep hg).keep (Gx.drewN_below wr 1 _)) ((hv2.keep hg).keep (Gx.drewN_below wr 1 _))
   simp only [Loc.val] at hih
   have HIH:=Lib.hid hih
   have HX:Hid (v.l[k]?=some q1.v):=Lib.hid (by rw [hx,hq1])
   have HY:Hid (u.l[k]?=some q2.v):=Lib.hid (by rw [hy,hq2])
   clear hx hy hq1 hq2 hv1 hv2 hg1 hg2 hg hih
   go_upto_region 6 with fail
   go_still_tail 10,(by kernel_rfl)
   change wpList _ _ _ _ _ wr.drew
   have HTd:=Lib.hid (HTr.out.keep (Gx.drewN_below wr 1 _))
   generalize hwd:wr.drew=wd at HIH ⊢
   have HTd':Hid (Two w ⟨v,some ⟨b1,o1,none⟩,cap,bd,dap⟩ ⟨u,some ⟨b2,o2,none⟩,cap',bd',dap'⟩ wd):=Lib.hid (by rw [<-hwd];exact HTd.out)
   clear hwd HTd HTr c0 c1 c2 c3 c4 c5 d0 d1 d2 d3 d4 d5 a4 b4
   go_wp2_with fail
   (with_reducible refine HIH.out.mono ?_)
   rintro e w3 ⟨b,rfl,hb,hbel⟩
   have HT3:=Lib.hid (HTd'.out.keep hbel)
   clear hbel HTd'
   cases b with
   | false =>
     have hne:v≠u:=fun e=>by
      have h1:=HX.out
      rw [e,HY.out] at h1
      have:=hb.2 (Option.some.inj h1).symm
      cases this
     have HN:=Lib.hid (NO.out _ hne HT3.out.g)
     clear hb hne
     go_wp2_with fail
     try go_ret
     exact HN.out
   | true =>
     have HU2:=Lib.hid (upTo_succ HU.out (by rw [HX.out,HY.out,hb.1 rfl]))
     clear hb
     go_wp2_with fail
     go_roundw
     case rel=>exact ⟨k+1,by omega,by go_num,HT3,HU2⟩
     case measure=>simp [intOf];omega
  ·obtain rfl:k=nl:=by omega
   have HLL:Hid (v.l=u.l):=Lib.hid (by have h:=HU.out;rw [<-HNL.out] at h;exact upTo_all h (by rw [HNL.out,HML.out];exact E5.out))
   have a5:=HTr.out.a.c5
   simp only [HNE.out] at a5
   obtain ⟨wo,hwo⟩:∃ wo:World,wo=wr:=⟨_,rfl⟩
   rw [<-hwo] at HTr a5 ⊢
   clear hwo wr HU hlt hk
   go_wp2_with fail
   clear a5
   go_loopw [73] (fun v73 wr=>∃ j:Nat,j<=ne/\v73=.int .i64 j/\Hid (Two w ⟨v,ad,cap,bd,dap⟩ ⟨u,ad',cap',bd',dap'⟩ wr)/\Hid (upTo j v.e u.e)) (fun v73 _=>ne - (intOf v73).toNat)
   case atStart=>exact ⟨0,Nat.zero_le _,rfl,HTr,Lib.hid (fun i hi=>by omega)⟩
   case round =>
    obtain ⟨j,hj,rfl,HTq,HU⟩:=hrel
    clear HTr
    by_cases hlt:j<ne
    ·have hlt2:j<me:=by have:=E6.out;omega
     obtain ⟨x,hx⟩:∃ x,v.e[j]?=some x:=⟨_,List.getElem?_eq_getElem (by rw [HNE.out];exact hlt)⟩
     obtain ⟨y,hy⟩:∃ y,u.e[j]?=some y:=⟨_,List.getElem?_eq_getElem (by rw [HME.out];exact hlt2)⟩
     obtain ⟨b1,o1,hd1,-,hbl1,hcs1⟩:=HQ.out.e.entry (by show 0<v.e.length;rw [HNE.out];omega)
     obtain ⟨b2,o2,hd2,-,hbl2,hcs2⟩:=HP.out.e.entry (by show 0<u.e.length;rw [HME.out];omega)
     simp only at hd1 hd2
     subst hd1
     subst hd2
     obtain ⟨-,gk1,q1,hq1,hv1,hg1⟩:=hcs1 j x hx
     obtain ⟨-,gk2,q2,hq2,hv2,hg2⟩:=hcs2 j y hy
     clear hcs1 hcs2
     have hg:=HTq.out.g
     have k1:wr.cell? ⟨b1,o1+j * 7,none⟩=some (.string x.1):=(hg.cell (p:=⟨b1,_,none⟩) hbl1).trans gk1
     have k2:wr.cell? ⟨b2,o2+j * 7,none⟩=some (.string y.1):=(hg.cell (p:=⟨b2,_,none⟩) hbl2).trans gk2
     obtain ⟨c0,c1,c2,c3,c4,c5⟩:=(hg1.through (hg.block _ hbl1)).seven
     obtain ⟨d0,d1,d2,d3,d4,d5⟩:=(hg2.through (hg.block _ hbl2)).seven
     have a5:=HTq.out.a.c5
     have b5:=HTq.out.b.c5
     simp only [HNE.out,HME.out] at a5 b5
     have r1:(0:Int)<=(j:Int):=by omega
     have r2:(j:Int)<(ne:Int):=by omega
     have r3:(j:Int)<(me:Int):=by omega
     have r4:(j:Int).toNat=j:=rfl
     have HX:Hid (v.e[j]?=some (x.1,q1.v)):=Lib.hid (by rw [hx,hq1])
     have HY:Hid (u.e[j]?=some (y.1,q2.v)):=Lib.hid (by rw [hy,hq2])
     by_cases hkk:x.1=y.1
     ·have hih:=IH.out q1 q2 wr.drew (by rw [hq1];exact V.lt_e (List.mem_of_getElem? hx)) ((hv1.keep hg).keep (Gx.drewN_below wr 1 _)) ((hv2.keep hg).keep (Gx.drewN_below wr 1 _))
      simp only [Loc.val] at hih
      have HIH:=Lib.hid hih
      have t7:(x.1.toList==y.1.toList)=true:=by rw [hkk];simp
      have HKK:=Lib.hid hkk
      clear hx hy hq1 hq2 hv1 hv2 hg1 hg2 hg hih gk1 gk2 hkk
      go_upto_region 12 with fail
      go_still_tail 26,(by kernel_rfl)
      change wpList _ _ _ _ _ wr.drew
      have HTd:=Lib.hid (HTq.out.keep (Gx.drewN_below wr 1 _))
      generalize hwd:wr.drew=wd at HIH ⊢
      have HTd':Hid (Two w ⟨v,ad,cap,some ⟨b1,o1,none⟩,dap⟩ ⟨u,ad',cap',some ⟨b2,o2,none⟩,dap'⟩ wd):=Lib.hid (by rw [<-hwd];exact HTd.out)
      clear hwd HTd HTq c0 c1 c2 c3 c4 c5 d0 d1 d2 d3 d4 d5 a5 b5 k1 k2
      go_wp2_with fail
      (with_reducible refine HIH.out.mono ?_)
      rintro e w3 ⟨b,rfl,hb,hbel⟩
      have HT3:=Lib.hid (HTd'.out.keep hbel)
      clear hbel HTd'
      cases b with
      | false =>
        have hne:v≠u:=fun e=>by
         have h1:=HX.out
         rw [e,HY.out] at h1
         have:=hb.2 (Prod.mk.inj (Option.some.inj h1)).2.symm
         cases this
        have HN:=Lib.hid (NO.out _ hne HT3.out.g)
        clear hb hne
        go_wp2_with fail
        try go_ret
        exact HN.out
      | true =>
        have HU2:=Lib.hid (upTo_succ HU.out (by rw [HX.out,HY.out,hb.1 rfl,HKK.out]))
        clear hb
        go_wp2_with fail
        go_roundw
        case rel=>exact ⟨j+1,by omega,by go_num,HT3,HU2⟩
        case measure=>simp [intOf];omega
     ·have t7:(x.1.toList==y.1.toList)=false:=by
       simp only [ByteArray.toList_eq,beq_eq_false_iff_ne,ne_eq]
       intro h;exact hkk (by cases hv:x.1;cases hu:y.1;rw [hv,hu] at h;congr 1;exact Array.toList_inj.1 h)
      have hne:v≠u:=fun e=>by
       have h1:=HX.out
       rw [e,HY.out] at h1
       exact hkk (Prod.mk.inj (Option.some.inj h1)).1.symm
      have HN:=Lib.hid (fun n:Nat=>NO.out (wr.drewN n) hne (HTq.out.g.trans (Gx.drewN_below wr n _)))
      clear hx hy hq1 hq2 hv1 hv2 hg1 hg2 hg gk1 gk2 hkk hne
      go_upto_region 12 with fail
      go_quiet (fail)
      go_wp2_with fail
      try go_ret
      exact HN.out nq
    ·obtain rfl:j=ne:=by omega
     have HEE:Hid (v.e=u.e):=Lib.hid (by have h:=HU.out;rw [<-HNE.out] at h;exact upTo_all h (by rw [HNE.out,HME.out];exact E6.out))
     go_wp2_with fail
     try go_ret
     exact ⟨true,rfl,⟨fun _=>HYES.out HLL.out HEE.out,fun _=>rfl⟩,HTq.out.g⟩
theorem alike_any (q p:Loc) (w:World) (hq:VAt w (fun _=>True) q) (hp:VAt w (fun _=>True) p):Calls Tryz.prog 16 #[q.val,p.val] w (AlikePost q.v p.v w):=by
 have key:∀ (n:Nat) (q p:Loc) (w:World),SizeOf.sizeOf q.v<=n->VAt w (fun _=>True) q->VAt w (fun _=>True) p->Calls Tryz.prog 16 #[q.val,p.val] w (AlikePost q.v p.v w):=by
  intro n
  induction n with
  | zero=>intro q p w h;cases q with|mk v _ _ _ _=>cases v;simp at h
  | succ n ih=>exact fun q p w h hq hp=>alike_step q.v p.v q.ad q.bd p.ad p.bd q.cap q.dap p.cap p.dap w hq hp (fun q' p' w' h' hq' hp'=>ih q' p' w' (by omega) hq' hp')
 exact key _ q p w (Nat.le_refl _) hq hp
set_option maxRecDepth 100000
theorem one_root:rootN [49]=.mk 1 0 1 []:=by kernel_rfl
theorem one_parse:(parseS (treeX [49])).bad=0:=by kernel_rfl
theorem one_mean:meanN (treeX [49]) 21 (rootN [49])=.ok (.mk 2 1 0 ⟨#[]⟩ [] []):=by
 rw [one_root,meanN,if_neg (show ¬ (Nd.mk 1 0 1 []).k=5 by decide),if_neg (show ¬ (Nd.mk 1 0 1 []).k=3 by decide)]
 have hk:(treeX [49]).kind 0=4:=by kernel_rfl
 have hb:(treeX [49]).bytes 0=[49]:=by kernel_rfl
 have hr:readOf [49]=(1,0):=by kernel_rfl
 have hl:leafOf 4 [49]=some (.mk 2 1 0 ⟨#[]⟩ [] []):=by
  unfold leafOf wordOf
  rw [hr]
  rfl
 show leafN (treeX [49]) 0=_
 unfold leafN
 rw [hk,hb,hl]
theorem own_one:ownV (.mk 2 1 0 ⟨#[]⟩ [] [])=0:=by
 unfold ownV ownE
 have h:kindBad 2 1 0 ⟨#[]⟩ 0 0=false:=by
  unfold kindBad nanBad
  rw [ByteArray.toList_eq]
  rfl
 have h1:kindBad (V.mk 2 1 0 ⟨#[]⟩ [] []).k (V.mk 2 1 0 ⟨#[]⟩ [] []).n (V.mk 2 1 0 ⟨#[]⟩ [] []).f (V.mk 2 1 0 ⟨#[]⟩ [] []).s (V.mk 2 1 0 ⟨#[]⟩ [] []).l.length (V.mk 2 1 0 ⟨#[]⟩ [] []).e.length=false:=h
 rw [h1,if_neg (by decide),if_neg (by show ¬ (4000<0\/200<0\/200<0);decide)]
 have h2:okText (V.mk 2 1 0 ⟨#[]⟩ [] []).s.data.toList:=okText_nil
 rw [if_pos h2]
theorem one_chk:chkV (.mk 2 1 0 ⟨#[]⟩ [] [])=0:=by
 unfold chkV
 have e:(V.mk 2 1 0 ⟨#[]⟩ [] []).parts=[]:=rfl
 have e2:keyE none (V.mk 2 1 0 ⟨#[]⟩ [] []).e=0:=rfl
 simp only [chk]
 rw [if_neg (by decide),if_neg (by simp [own_one]),if_neg (by simp [e2]),e]
 rfl
def BoolPostM (b:Bool) (w:World) (e:Ending) (w':World):Prop:=e=.returned (.bool b)/\Below w.heap.size w w'
set_option maxHeartbeats 2000000 in
theorem means_any (w:World) (hT:MTabs w):Calls Tryz.prog 14 #[] w (BoolPostM true w):=by
 have HM:=Lib.hid (mean_any ⟨#[49]⟩ w hT)
 unfold MeanPost at HM
 clear hT
 go_enter Tryz.func14,Tryz.ntmps14
 go_wp2_with fail
 (with_reducible refine HM.out.mono ?_)
 rintro e w1 ⟨hb1,⟨q,hq,rfl,hv⟩|⟨a,c,hbad,-,-⟩⟩
 rotate_left
 ·exfalso
  rcases hbad with ⟨h,-⟩|⟨-,h,-⟩|⟨-,-,⟨f,h,-⟩|⟨v,h,h2,-⟩⟩
  ·revert h;decide
  ·exact h one_parse
  ·have h':meanN (treeX [49]) 21 (rootN [49])=.error f:=h
   rw [one_mean] at h';cases h'
  ·have h':meanN (treeX [49]) 21 (rootN [49])=.ok v:=h
   rw [one_mean] at h'
   rw [<-Except.ok.inj h'] at h2
   exact h2 one_chk
 have hn:q.v.n=1:=by
  have h':meanN (treeX [49]) 21 (rootN [49])=.ok q.v:=hq.2.2.1
  rw [one_mean] at h'
  rw [<-Except.ok.inj h'];rfl
 have t1:(q.v.n==1)=true:=by rw [hn];rfl
 have HB:=Lib.hid hb1
 unfold Loc.val
 clear hq hv hb1 HM hn
 go_wp2_with fail
 try go_ret
 exact ⟨rfl,HB.out.alloc HB.out.size _⟩
end Go.Proofs.YtldhmfkojaekfaaGreatDoor
