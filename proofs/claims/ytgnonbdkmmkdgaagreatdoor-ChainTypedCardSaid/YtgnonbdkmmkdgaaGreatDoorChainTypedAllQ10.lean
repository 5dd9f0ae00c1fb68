/-
  Lemmas for the statement: plain laws, and what functions answer; the conditions stand in each.
-/
import Derived.Test.YtgnonbdkmmkdgaaGreatDoorChainTypedAllQ06
import Derived.Test.YtgnonbdkmmkdgaaGreatDoorChainTypedAllQ07
import Derived.Test.YtgnonbdkmmkdgaaGreatDoorChainTypedAllQ08
import Derived.Test.YtgnonbdkmmkdgaaGreatDoorChainTypedAllQ09
set_option linter.unusedVariables false
set_option linter.unusedSimpArgs false
set_option maxHeartbeats 16000000
set_option maxRecDepth 100000
open Go.Lib (hid)
namespace Go.Proofs.YtgnonbdkmmkdgaaGreatDoor
open Go.RowKit Gx
theorem own_deep (k n f:Int) (s:ByteArray) (ad bd:Option Addr) (nl ne cl ce:Nat) (w:World) (a:Int) (h1:20<=a) :
 Calls Tryz.prog 58 #[.agg #[.int .i64 k,.int .i64 n,.int .u64 f,.string s,.slice ad nl cl,.slice bd ne ce],.int .i64 a] w (OwnPost 5 w):=by
 have t20:decide (20<=a)=true:=decide_eq_true h1
 go_enter Tryz.func58,Tryz.ntmps58
 go_wp2_with fail
 try go_ret
 exact ⟨rfl,(Below.refl _ w).alloc (Nat.le_refl _) _⟩
theorem own_out (k n f:Int) (s:ByteArray) (ad bd:Option Addr) (nl ne cl ce:Nat) (w:World) (a:Int) (h0:0<=a) (h1:a<20) (hf0:0<=f) (hf1:f<=18446744073709551615) (hk:k<0\/6<k) :
 Calls Tryz.prog 58 #[.agg #[.int .i64 k,.int .i64 n,.int .u64 f,.string s,.slice ad nl cl,.slice bd ne ce],.int .i64 a] w (OwnPost (ownE k n f s nl ne) w):=by
 have t20:decide (20<=a)=false:=decide_eq_false (by omega)
 have k1:(k==1)=false:=by simp;omega
 have k2:(k==2)=false:=by simp;omega
 rcases hk with hk|hk
 ·have u0:decide (k<0)=true:=decide_eq_true hk
  have e:ownE k n f s nl ne=10:=by simp [ownE,kindBad,u0,hk]
  go_enter Tryz.func58,Tryz.ntmps58
  go_wp2_with fail
  go_quiet (fail)
  go_wp2_with fail
  try go_ret
  exact ⟨by rw [e];rfl,((Below.refl _ w).alloc (Nat.le_refl _) _).trans (Gx.drewN_below _ _ _)⟩
 ·have u0:decide (k<0)=false:=decide_eq_false (by omega)
  have u1:decide (6<k)=true:=decide_eq_true hk
  have e:ownE k n f s nl ne=10:=by simp [ownE,kindBad,u0,hk]
  go_enter Tryz.func58,Tryz.ntmps58
  go_wp2_with fail
  go_quiet (fail)
  go_wp2_with fail
  try go_ret
  exact ⟨by rw [e];rfl,((Below.refl _ w).alloc (Nat.le_refl _) _).trans (Gx.drewN_below _ _ _)⟩
theorem own_all (k n f:Int) (s:ByteArray) (ad bd:Option Addr) (nl ne cl ce:Nat) (w:World) (a:Int) (h0:0<=a) (h1:a<20) (hf0:0<=f) (hf1:f<=18446744073709551615) (hl:nl<=1000000000000000) (he:ne<=1000000000000000) (hs:s.size<=1000000000000000) (hT:Tabs w) :
 Calls Tryz.prog 58 #[.agg #[.int .i64 k,.int .i64 n,.int .u64 f,.string s,.slice ad nl cl,.slice bd ne ce],.int .i64 a] w (OwnPost (ownE k n f s nl ne) w):=by
 by_cases hk:k<0\/6<k
 ·exact own_out k n f s ad bd nl ne cl ce w a h0 h1 hf0 hf1 hk
 have:k=0\/k=1\/k=2\/k=3\/k=4\/k=5\/k=6:=by omega
 rcases this with rfl|rfl|rfl|rfl|rfl|rfl|rfl
 ·exact own_0 n f s ad bd nl ne cl ce w a h0 h1 hf0 hf1 hl he hs hT
 ·exact own_1 n f s ad bd nl ne cl ce w a h0 h1 hf0 hf1 hl he hs hT
 ·exact own_2 n f s ad bd nl ne cl ce w a h0 h1 hf0 hf1 hl he hs hT
 ·exact own_3 n f s ad bd nl ne cl ce w a h0 h1 hf0 hf1 hl he hs hT
 ·exact own_4 n f s ad bd nl ne cl ce w a h0 h1 hf0 hf1 hl he hs hT
 ·exact own_5 n f s ad bd nl ne cl ce w a h0 h1 hf0 hf1 hl he hs hT
 ·exact own_6 n f s ad bd nl ne cl ce w a h0 h1 hf0 hf1 hl he hs hT
end Go.Proofs.YtgnonbdkmmkdgaaGreatDoor
namespace Go.Proofs.YtgnonbdkmmkdgaaGreatDoor
open Go.RowKit Go.Shelf Gx
def ChkPost (r:Nat×Nat) (M:Nat) (w:World) (e:Ending) (w':World):Prop :=
 e=.returned (.int .i64 r.1)/\Boxed w' M 3 (.int .i64 r.2)/\w.grownBy w' (some M)
structure CE (w:World) (q:Loc) (a:Int) (M m:Nat) (r:Int) (W:World):Prop where
 v:W.heap[w.heap.size]?=some (.cells q.cs.toArray 32)
 a:W.heap[w.heap.size+1]?=some (.cells #[.int .i64 a] 3)
 p:W.heap[w.heap.size+2]?=some (.cells #[.pointer (some ⟨M,0,none⟩)] 99)
 r:Boxed W (w.heap.size+3) 34 (.int .i64 r)
 m:Boxed W M 3 (.int .i64 m)
 g:w.grownBy W (some M)
 hM:M<w.heap.size
theorem grownBy_old {w:World} {W W':World} {M k:Nat} (h:w.grownBy W (some M)) (g:W.grownBy W' (some k)) (hk:k=M\/w.heap.size<=k):w.grownBy W' (some M) :=
 ⟨g.os.trans h.os,g.tape.trans h.tape,g.output.trans h.output,Nat.le_trans h.size g.size,fun i hi hne=>by
   refine (g.block i (Nat.lt_of_lt_of_le hi h.size) (fun e=>?_)).trans (h.block i hi hne)
   have:i=k:=Option.some.inj e
   rcases hk with rfl|hk
   ·exact hne e
   ·omega⟩
theorem Tabs.but {w w':World} {M:Nat} {ty:TypeId} {m:Int} (h:Tabs w) (hM:Boxed w M ty (.int .i64 m)) (hg:w.grownBy w' (some M)):Tabs w':=by
 have hc:=hM.cell
 have lt:∀ {b o:Nat} {v:Value},w.cell? ⟨b,o,none⟩=some v->b<w.heap.size:=fun {b o v} hc=>World.block_lt_of_cell? w ⟨b,o,none⟩ hc
 have h0:=h.1 0 (by decide)
 have h1:=(h.2 0 (by decide)).1
 have n0:some 0≠some M:=fun e=>by
  obtain rfl:=Option.some.inj e
  rw [h0] at hc;simp at hc
 have n1:some 1≠some M:=fun e=>by
  obtain rfl:=Option.some.inj e
  rw [show 2 * 0=0 from rfl,hc] at h1;simp at h1
 exact ⟨fun c hc=>(World.cell?_of_block (hg.block _ (lt h0) n0)).trans (h.1 c hc),
  fun i hi=>⟨(World.cell?_of_block (hg.block _ (lt h1) n1)).trans (h.2 i hi).1,(World.cell?_of_block (hg.block _ (lt h1) n1)).trans (h.2 i hi).2⟩⟩
variable {w:World} {q:Loc} {a:Int} {M m:Nat} {r:Int} {W W':World}
theorem CE.start (hM:Boxed w M 3 (.int .i64 m)) (q:Loc) (a:Int):CE w q a M m 0 ((((w.alloc (.cells #[.int .i64 q.v.k,.int .i64 q.v.n,.int .u64 q.v.f,.string q.v.s,.slice q.ad q.v.l.length q.cap,.slice q.bd q.v.e.length q.dap] 32)).alloc
 (.cells #[.int .i64 a] 3)).alloc (.cells #[.pointer (some ⟨M,0,none⟩)] 99)).alloc (.cells #[.int .i64 0] 34)):=by
 have hl:=hM.lt
 refine ⟨?_,?_,?_,?_,((((hM.alloc _).alloc _).alloc _).alloc _),?_,hl⟩
 ·rw [Below.heap_alloc _ _ _ (by simp<;>omega),Below.heap_alloc _ _ _ (by simp<;>omega),Below.heap_alloc _ _ _ (by simp)]
  exact World.alloc_heap_new w _
 ·rw [Below.heap_alloc _ _ _ (by simp<;>omega),Below.heap_alloc _ _ _ (by simp)]
  have:=World.alloc_heap_new (w.alloc (.cells #[.int .i64 q.v.k,.int .i64 q.v.n,.int .u64 q.v.f,.string q.v.s,.slice q.ad q.v.l.length q.cap,.slice q.bd q.v.e.length q.dap] 32)) (.cells #[.int .i64 a] 3)
  rwa [World.size_alloc] at this
 ·rw [Below.heap_alloc _ _ _ (by simp)]
  have:=World.alloc_heap_new ((w.alloc (.cells #[.int .i64 q.v.k,.int .i64 q.v.n,.int .u64 q.v.f,.string q.v.s,.slice q.ad q.v.l.length q.cap,.slice q.bd q.v.e.length q.dap] 32)).alloc (.cells #[.int .i64 a] 3)) (.cells #[.pointer (some ⟨M,0,none⟩)] 99)
  rwa [World.size_alloc,World.size_alloc] at this
 ·have:=World.alloc_heap_new (((w.alloc (.cells #[.int .i64 q.v.k,.int .i64 q.v.n,.int .u64 q.v.f,.string q.v.s,.slice q.ad q.v.l.length q.cap,.slice q.bd q.v.e.length q.dap] 32)).alloc (.cells #[.int .i64 a] 3)).alloc (.cells #[.pointer (some ⟨M,0,none⟩)] 99)) (.cells #[.int .i64 0] 34)
  rwa [World.size_alloc,World.size_alloc,World.size_alloc] at this
 ·have hb:Below w.heap.size w ((((w.alloc (.cells #[.int .i64 q.v.k,.int .i64 q.v.n,.int .u64 q.v.f,.string q.v.s,.slice q.ad q.v.l.length q.cap,.slice q.bd q.v.e.length q.dap] 32)).alloc
  (.cells #[.int .i64 a] 3)).alloc (.cells #[.pointer (some ⟨M,0,none⟩)] 99)).alloc (.cells #[.int .i64 0] 34)) :=
    ((((Below.refl _ w).alloc (Nat.le_refl _) _).alloc (by simp) _).alloc (by simp<;>omega) _).alloc (by simp<;>omega) _
  exact ⟨hb.os,hb.tape,hb.output,hb.size,fun k hk _=>hb.block k hk⟩
theorem CE.size (h:CE w q a M m r W):w.heap.size+4<=W.heap.size:=by have:=h.r.lt;omega
theorem CE.below (h:CE w q a M m r W) (hb:Below W.heap.size W W'):CE w q a M m r W':=by
 have hs:=h.size
 have hM:=h.hM
 exact ⟨(hb.block _ (by omega)).trans h.v,(hb.block _ (by omega)).trans h.a,(hb.block _ (by omega)).trans h.p,(hb.block _ (by omega)).trans h.r,(hb.block _ (by omega)).trans h.m,
  ⟨hb.os.trans h.g.os,hb.tape.trans h.g.tape,hb.output.trans h.g.output,Nat.le_trans h.g.size hb.size,fun k hk hne=>(hb.block k (Nat.lt_of_lt_of_le hk h.g.size)).trans (h.g.block k hk hne)⟩,hM⟩
theorem CE.turn (h:CE w q a M m r W) {m':Nat} (hg:W.grownBy W' (some M)) (hm:Boxed W' M 3 (.int .i64 m')):CE w q a M m' r W':=by
 have hs:=h.size
 have hM:=h.hM
 have hk:∀ k,w.heap.size<=k->k<W.heap.size->W'.heap[k]?=W.heap[k]?:=fun k h1 h2=>hg.block k h2 (fun e=>by cases e;omega)
 exact ⟨(hk _ (by omega) (by omega)).trans h.v,(hk _ (by omega) (by omega)).trans h.a,(hk _ (by omega) (by omega)).trans h.p,(hk _ (by omega) (by omega)).trans h.r,hm,grownBy_old h.g hg (.inl rfl),hM⟩
theorem CE.res (h:CE w q a M m r W) (r':Int):CE w q a M m r' (W.setCell ⟨w.heap.size+3,0,none⟩ (.int .i64 r')):=by
 have hs:=h.size
 have hM:=h.hM
 have hg:=grownBy_setCell' W (w.heap.size+3) (.int .i64 r')
 have hk:∀ k,k≠w.heap.size+3->k<W.heap.size->(W.setCell ⟨w.heap.size+3,0,none⟩ (.int .i64 r')).heap[k]?=W.heap[k]?:=fun k h1 h2=>hg.block k h2 (fun e=>h1 (Option.some.inj e))
 exact ⟨(hk _ (by omega) (by omega)).trans h.v,(hk _ (by omega) (by omega)).trans h.a,(hk _ (by omega) (by omega)).trans h.p,h.r.set _,(hk _ (by omega) (by omega)).trans h.m,grownBy_old h.g hg (.inr (by omega)),hM⟩
theorem CE.up (h:CE w q a M m r W):CE w q a M (m+1) r (W.setCell ⟨M,0,none⟩ (.int .i64 ((m:Int)+1))):=by
 refine h.turn (grownBy_setCell' W M _) ?_
 have:=h.m.set (.int .i64 ((m:Int)+1))
 rwa [show ((m:Int)+1)=((m+1:Nat):Int) by omega] at this ⊢
theorem CE.cells (h:CE w q a M m r W):W.cell? ⟨w.heap.size+1,0,none⟩=some (.int .i64 a)/\W.cell? ⟨w.heap.size+1+1,0,none⟩=some (.pointer (some ⟨M,0,none⟩))/\W.cell? ⟨w.heap.size+1+1+1,0,none⟩=some (.int .i64 r) /\
 W.cell? ⟨M,0,none⟩=some (.int .i64 m)/\W.frozen? ⟨M,0,none⟩=false/\W.frozen? ⟨w.heap.size+1+1+1,0,none⟩=false/\M<W.heap.size/\w.heap.size+1+1+1<W.heap.size :=
 ⟨by simp [World.cell?,h.a],by simp [World.cell?,h.p],h.r.cell,h.m.cell,h.m.frozen,h.r.frozen,h.m.lt,h.r.lt⟩
theorem CE.own (h:CE w q a M m r W) {row:Option Nat} (hg:W.grownBy W' row) (hr:∀ k,row=some k->w.heap.size<=k/\∃ o:Obj,W.heap[k]?=some o/\o.isCells=false):CE w q a M m r W':=by
 have hs:=h.size
 have hM:=h.hM
 have hk:∀ (k:Nat) (cs:Array Value) (ty:TypeId) (fz:Nat×Nat),W.heap[k]?=some (Obj.cells cs ty fz)->W'.heap[k]?=W.heap[k]?:=fun k cs ty fz hc=>hg.block k (Array.getElem?_eq_some_iff.1 hc).1 (fun e=>by
  obtain ⟨-,o,ho,hc2⟩:=hr k e.symm
  rw [hc] at ho;cases ho;cases hc2)
 refine ⟨(hk _ _ _ _ h.v).trans h.v,(hk _ _ _ _ h.a).trans h.a,(hk _ _ _ _ h.p).trans h.p,(hk _ _ _ _ h.r).trans h.r,(hk _ _ _ _ h.m).trans h.m,
  ⟨hg.os.trans h.g.os,hg.tape.trans h.g.tape,hg.output.trans h.g.output,Nat.le_trans h.g.size hg.size,fun k hk' hne=>?_⟩,hM⟩
 refine (hg.block k (Nat.lt_of_lt_of_le hk' h.g.size) (fun e=>?_)).trans (h.g.block k hk' hne)
 have:=(hr k e.symm).1
 omega
theorem CE.vc (h:CE w q a M m r W):CellsAt W w.heap.size 0 q:=CellsAt.box h.v
end Go.Proofs.YtgnonbdkmmkdgaaGreatDoor
namespace Go.Proofs.YtgnonbdkmmkdgaaGreatDoor
open Go.RowKit Go.Shelf Gx
attribute [local go_sem] Oper.semAt_some
theorem check_zero (q:Loc) (a:Int) (m m1 M:Nat) (w:World) (hM:Boxed w M 3 (.int .i64 m)) (hm:m<=2000) (hm1:m+1=m1) (r:Nat) (hd:(2000<m1/\r=2)\/(m1<=2000/\a=20/\r=5)) :
 Calls Tryz.prog 40 #[q.val,.int .i64 a,.pointer (some ⟨M,0,none⟩)] w (ChkPost (r,m1) M w):=by
 have HE:=hid (CE.start hM q a)
 unfold Loc.val
 refine callsIn_wide.1 (callsIn_of_wp_marks (n:=9) Tryz.func40 rfl trivial ?_)
 simp only [Tryz.ntmps40,List.size_toArray,List.length_cons,List.length_nil,Nat.reduceAdd,Nat.reduceSub,Array.replicate_succ,Array.replicate_zero,List.push_toArray,List.append_toArray,List.nil_append,List.cons_append]
 refine wpIn_wide.2 ?_
 clear hM
 have HM1:=hid hm1
 clear hm1
 go_upto_region 1 with fail
 generalize hw4:World.alloc _ _=w4 at HE ⊢
 clear hw4
 obtain ⟨ca,cp,cr,cm,fm,fr,lm,lr⟩:=HE.out.cells
 go_upto_region 2 with fail
 have HE5:=hid HE.out.up
 generalize hw5:World.setCell _ _ _=w5 at HE5 ⊢
 clear hw5 HE ca cp cr cm fm fr lm lr
 rw [HM1.out] at HE5
 obtain ⟨ca,cp,cr,cm,fm,fr,lm,lr⟩:=HE5.out.cells
 obtain ⟨c0,c1,c2,c3,c4,c5⟩:=HE5.out.vc
 have hm2:m1<=2001:=by have:=HM1.out;omega
 clear hm
 rcases hd with ⟨hlg,rfl⟩|⟨hlg,rfl,rfl⟩
 ·have t1:decide ((2000:Int)<(m1:Int))=true:=decide_eq_true (by omega)
  clear hlg c0 c1 c2 c3 c4 c5
  go_wp2_with fail
  exact ⟨_,by simp [results,Tryz.results40,go_sem,(HE5.out.res 2).cells.2.2.1],rfl,(HE5.out.res 2).m,(HE5.out.res 2).g⟩
 ·have t1:decide ((2000:Int)<(m1:Int))=false:=decide_eq_false (by omega)
  clear hlg
  go_wp2_with fail
  refine (own_deep q.v.k q.v.n q.v.f q.v.s q.ad q.bd q.v.l.length q.v.e.length q.cap q.dap _ 20 (by decide)).mono ?_
  rintro e w6 ⟨rfl,hb6⟩
  have HE6:=hid (HE5.out.below hb6)
  clear HE5 hb6 ca cp cr cm fm fr lm lr c0 c1 c2 c3 c4 c5
  obtain ⟨ca,cp,cr,cm,fm,fr,lm,lr⟩:=HE6.out.cells
  rw [show ((5:Nat):Int)=5 from rfl]
  go_wp2_with fail
  exact ⟨_,by simp [results,Tryz.results40,go_sem,(HE6.out.res 5).cells.2.2.1],rfl,(HE6.out.res 5).m,(HE6.out.res 5).g⟩
end Go.Proofs.YtgnonbdkmmkdgaaGreatDoor
namespace Go.Proofs.YtgnonbdkmmkdgaaGreatDoor
open Go.RowKit Go.Shelf Gx
attribute [local go_sem] Oper.semAt_some
def vsOf {w:World} {n₀ M:Nat} (pre:List (LocAt w n₀ M)):List V:=pre.map fun x=>x.1.v
theorem vsOf_snoc {w:World} {n₀ M:Nat} (pre:List (LocAt w n₀ M)) (x:LocAt w n₀ M):vsOf (pre++[x])=vsOf pre++[x.1.v]:=by simp [vsOf]
noncomputable def chkM (f:V->Nat->Nat×Nat) (v:V) (m:Nat):Nat×Nat:=if ownV v≠0 then (ownV v,m) else if keyE none v.e≠0 then (keyE none v.e,m) else chkAll f v.parts m
theorem check_more (q:Loc) (a:Int) (m m1 M:Nat) (w:World) (hM:Boxed w M 3 (.int .i64 m)) (hm1:m+1=m1) (hm2:m1<=2000) (ha:0<=a) (ha2:a<20) (hT:Tabs w) (hv:VAt w (Bw w.heap.size M) q)
 (f:V->Nat->Nat×Nat) (hf:∀ x m,m<=2000->(f x m).2<=2001/\((f x m).1=0->(f x m).2<=2000))
 (ih:∀ (p:Loc) (m M:Nat) (w:World),Boxed w M 3 (.int .i64 m)->m<=2000->Tabs w->VAt w (Bw w.heap.size M) p ->
   Calls Tryz.prog 40 #[p.val,.int .i64 (a+1),.pointer (some ⟨M,0,none⟩)] w (ChkPost (f p.v m) M w)) (r:Nat×Nat) (hr:chkM f q.v m1=r) :
 Calls Tryz.prog 40 #[q.val,.int .i64 a,.pointer (some ⟨M,0,none⟩)] w (ChkPost r M w):=by
 obtain ⟨v,ad,cap,bd,dap⟩:=q
 simp only at hv hr
 have HE:=hid (CE.start hM ⟨v,ad,cap,bd,dap⟩ a)
 have HMB:=hid hM
 have HM3:=hid hm2
 have HR:=hid hr
 have HF:=hid hf
 have IH:=hid ih
 have HV:=hid hv
 have HT:=hid hT
 have HM1:=hid hm1
 have hne:=hv.e.ebound
 have hnl:=hv.l.lbound
 simp only at hne hnl
 have hwf:=hid hv.wf
 clear hr hf ih hv hT hm1
 unfold Loc.val
 refine callsIn_wide.1 (callsIn_of_wp_marks (n:=9) Tryz.func40 rfl trivial ?_)
 simp only [Tryz.ntmps40,List.size_toArray,List.length_cons,List.length_nil,Nat.reduceAdd,Nat.reduceSub,Array.replicate_succ,Array.replicate_zero,List.push_toArray,List.append_toArray,List.nil_append,List.cons_append]
 refine wpIn_wide.2 ?_
 clear hM
 go_upto_region 1 with fail
 generalize hw4:World.alloc _ _=w4 at HE ⊢
 clear hw4
 obtain ⟨ca,cp,cr,cm,fm,fr,lm,lr⟩:=HE.out.cells
 have hm0:m<=2000:=by have:=HM1.out;omega
 go_upto_region 2 with fail
 have HE5:=hid HE.out.up
 generalize hw5:World.setCell _ _ _=w5 at HE5 ⊢
 clear hw5 HE ca cp cr cm fm fr lm lr
 rw [HM1.out] at HE5
 obtain ⟨ca,cp,cr,cm,fm,fr,lm,lr⟩:=HE5.out.cells
 obtain ⟨c0,c1,c2,c3,c4,c5⟩:=HE5.out.vc
 simp only at c0 c1 c2 c3 c4 c5
 clear hm0
 have t1:decide ((2000:Int)<(m1:Int))=false:=decide_eq_false (by omega)
 go_wp2_with fail
 have hT5:Tabs w5:=HT.out.but HMB.out HE5.out.g
 obtain ⟨o,ho⟩:∃ o,ownV v=o:=⟨_,rfl⟩
 have hown:=own_all v.k v.n v.f v.s ad bd v.l.length v.e.length cap dap w5 a ha ha2 hwf.out.f0 hwf.out.f1 (by omega) (by omega) (by have:=hwf.out.s1;omega) hT5
 rw [show ownE v.k v.n v.f v.s v.l.length v.e.length=o from ho] at hown
 have HO:=hid ho
 clear ho hT5
 refine hown.mono ?_
 clear hown
 rintro e w6 ⟨rfl,hb6⟩
 have HE6:=hid (HE5.out.below hb6)
 clear HE5 hb6 ca cp cr cm fm fr lm lr c0 c1 c2 c3 c4 c5 t1
 obtain ⟨ca,cp,cr,cm,fm,fr,lm,lr⟩:=HE6.out.cells
 obtain ⟨c0,c1,c2,c3,c4,c5⟩:=HE6.out.vc
 simp only at c0 c1 c2 c3 c4 c5
 by_cases ho0:o=0
 ·subst ho0
  clear c0 c1 c2 c3 c4
  have hchk:chkM f v m1=if keyE none v.e≠0 then (keyE none v.e,m1) else chkAll f v.parts m1:=by unfold chkM;rw [HO.out,if_neg (fun h=>h rfl)]
  rw [HR.out] at hchk
  have HR2:=hid hchk
  clear hchk hm2 hnl
  obtain ⟨ne,hne'⟩:∃ ne,v.e.length=ne:=⟨_,rfl⟩
  rw [hne'] at c5 hne
  have HNE:=hid hne'
  clear hne'
  go_wp2_with fail
  go_loopw [30] (fun v30 wr=>∃ k:Nat,k<=ne/\v30=.int .i64 k/\Hid (CE w ⟨v,ad,cap,bd,dap⟩ a M m1 0 wr)/\Hid (keyE (prevK v.e k) (v.e.drop k)=keyE none v.e)) (fun v30 _=>ne - (intOf v30).toNat)
  case atStart=>exact ⟨0,Nat.zero_le _,rfl,HE6,rfl⟩
  case round =>
   obtain ⟨k,hk,rfl,HEr,HK⟩:=hrel
   clear HE6 ca cp cr cm fm fr lm lr c5
   by_cases hlt:k<ne
   ·obtain ⟨x,hx⟩:∃ x,v.e[k]?=some x:=⟨_,List.getElem?_eq_getElem (by rw [HNE.out];exact hlt)⟩
    obtain ⟨b,off,hbd,hBb,hbl,hcs⟩:=HV.out.e.entry (by show 0<v.e.length;rw [HNE.out];omega)
    simp only at hbd
    subst hbd
    obtain ⟨hxs,gk,p,hp,-,gs⟩:=hcs k x hx
    have HCS:=hid hcs
    have hbk:wr.heap[b]?=w.heap[b]?:=HEr.out.g.block b hbl (fun e=>hBb.2 (Option.some.inj e))
    have gk':wr.cell? ⟨b,off+k * 7,none⟩=_:=(World.cell?_of_block hbk).trans gk
    obtain ⟨g0,g1,g2,g3,g4,g5⟩:=(gs.through hbk).seven
    have HX:=hid hx
    have hxs2:x.1.size<=140737488351232:=hxs
    have HEX:=hid (HEr.out.below ((Below.refl _ wr).alloc (Nat.le_refl _) (.cells #[.string x.1,.int .i64 p.v.k,.int .i64 p.v.n,.int .u64 p.v.f,.string p.v.s,.slice p.ad p.v.l.length p.cap,.slice p.bd p.v.e.length p.dap] 96)))
    have hkey:(wr.alloc (.cells #[.string x.1,.int .i64 p.v.k,.int .i64 p.v.n,.int .u64 p.v.f,.string p.v.s,.slice p.ad p.v.l.length p.cap,.slice p.bd p.v.e.length p.dap] 96)).cell? ⟨wr.heap.size,0,none⟩=some (.string x.1):=by
     simp
    clear gk gs hp hcs hx hbk
    go_upto_region 10 with fail
    generalize hw9:World.alloc wr _=w9 at HEX hkey ⊢
    clear hw9 gk' g0 g1 g2 g3 g4 g5
    obtain ⟨ca,cp,cr,cm,fm,fr,lm,lr⟩:=HEX.out.cells
    by_cases hbig:100<x.1.size
    ·have t3:decide ((100:Int)<(x.1.size:Int))=true:=decide_eq_true (by omega)
     have hke:keyE none v.e=2:=by rw [<-HK.out,keyE_drop HX.out,if_pos hbig]
     have hrr:r=(2,m1):=by rw [HR2.out,hke];rfl
     subst hrr
     clear hke hbig
     go_wp2_with fail
     exact ⟨_,by simp [results,Tryz.results40,go_sem,(HEX.out.res 2).cells.2.2.1],rfl,(HEX.out.res 2).m,(HEX.out.res 2).g⟩
    ·have t3:decide ((100:Int)<(x.1.size:Int))=false:=decide_eq_false (by omega)
     go_wp2_with fail
     refine (bad_any x.1 _ (HT.out.but HMB.out HEX.out.g) (by omega)).mono ?_
     rintro e w10 ⟨bi,rfl,hbi,hb10⟩
     have HE10:=hid (HEX.out.below hb10)
     have HB10:=hid hb10
     clear ca cp cr cm fm fr lm lr hb10
     obtain ⟨ca,cp,cr,cm,fm,fr,lm,lr⟩:=HE10.out.cells
     by_cases hok:okText x.1.data.toList
     ·have t4:decide (0<=bi)=false:=decide_eq_false (by have:=hbi.2 hok;omega)
      clear hbi
      have hkey10:w10.cell? ⟨wr.heap.size,0,none⟩=some (.string x.1):=(HB10.out.cell (p:=⟨wr.heap.size,0,none⟩) (World.block_lt_of_cell? _ _ hkey)).trans hkey
      have hke0:=HK.out
      rw [keyE_drop HX.out,if_neg hbig,if_neg (fun h=>h hok)] at hke0
      clear hkey hxs hxs2 hbig hok
      by_cases hk0:k=0
      ·have g1:decide ((0:Int)<(k:Int))=false:=decide_eq_false (by omega)
       have g2:decide (0<k)=false:=decide_eq_false (by omega)
       have hkb:keyBad (prevK v.e k) x.1=false:=by rw [hk0];rfl
       rw [if_neg (by rw [hkb];decide)] at hke0
       have HK2:=hid hke0
       clear hke0 hkb hk0
       go_wp2_with fail
       go_quiet (fail)
       have HE11:=hid (HE10.out.below (Gx.drewN_below w10 nq _))
       clear HE10
       go_wp2_with fail
       go_roundw
       case rel=>exact ⟨k+1,by omega,by go_num,HE11,HK2⟩
       case measure=>simp [intOf];omega
      ·obtain ⟨j,hj⟩:∃ j:Nat,(k:Int) - 1=(j:Int):=⟨k - 1,by omega⟩
       have hkj:k=j+1:=by omega
       have g1:decide ((0:Int)<(k:Int))=true:=decide_eq_true (by omega)
       have g2:decide (0<k)=true:=decide_eq_true (by omega)
       obtain ⟨y,hy⟩:∃ y,v.e[j]?=some y:=⟨_,List.getElem?_eq_getElem (by rw [HNE.out];omega)⟩
       have gy:=(HCS.out j y hy).2.1
       have hbk:w10.heap[b]?=w.heap[b]?:=HE10.out.g.block b hbl (fun e=>hBb.2 (Option.some.inj e))
       have gy':w10.cell? ⟨b,off+j * 7,none⟩=some (.string y.1):=(World.cell?_of_block hbk).trans gy
       have c5:w10.cell? ⟨w.heap.size,5,none⟩=some (.slice (some ⟨b,off,none⟩) ne dap):=by have:=HE10.out.vc.c5;simp only [HNE.out] at this;exact this
       have hpk:prevK v.e k=some y.1:=by unfold prevK;rw [if_neg hk0,hkj,Nat.add_sub_cancel,hy];rfl
       have hkb:keyBad (prevK v.e k) x.1=!(Op.bytesLess y.1.toList x.1.toList):=by rw [hpk];rfl
       have q1:(0:Int)<=(j:Int):=by omega
       have q2:(j:Int)<(ne:Int):=by omega
       have q3:(j:Int).toNat=j:=rfl
       have q4:j<ne:=by omega
       have HKJ:=hid hkj
       clear hy gy hbk hpk hkj hk0
       cases hbl2:Op.bytesLess y.1.toList x.1.toList with
       | true =>
         rw [hkb,hbl2,if_neg (by decide)] at hke0
         have HK2:=hid hke0
         clear hke0 hkb
         go_wp2_with fail
         go_quiet (fail)
         have HE11:=hid (HE10.out.below (Gx.drewN_below w10 nq _))
         clear HE10
         go_wp2_with fail
         go_roundw
         case rel=>exact ⟨k+1,by omega,by go_num,HE11,HK2⟩
         case measure=>simp [intOf];omega
       | false =>
         have hke:keyE none v.e=14:=by rw [<-hke0,hkb,hbl2,if_pos (by decide)]
         have hrr:r=(14,m1):=by rw [HR2.out,hke];rfl
         subst hrr
         clear hke hke0 hkb
         go_wp2_with fail
         go_quiet (fail)
         have HE11:=hid (HE10.out.below (Gx.drewN_below w10 nq _))
         clear HE10 ca cp cr cm fm fr lm lr
         obtain ⟨ca,cp,cr,cm,fm,fr,lm,lr⟩:=HE11.out.cells
         go_wp2_with fail
         exact ⟨_,by simp [results,Tryz.results40,go_sem,(HE11.out.res 14).cells.2.2.1],rfl,(HE11.out.res 14).m,(HE11.out.res 14).g⟩
     ·have t4:decide (0<=bi)=true:=decide_eq_true (Int.not_lt.1 (fun h=>hok (hbi.1 h)))
      have hke:keyE none v.e=3:=by rw [<-HK.out,keyE_drop HX.out,if_neg hbig,if_pos hok]
      have hrr:r=(3,m1):=by rw [HR2.out,hke];rfl
      subst hrr
      clear hke hbig hbi hok
      go_wp2_with fail
      exact ⟨_,by simp [results,Tryz.results40,go_sem,(HE10.out.res 3).cells.2.2.1],rfl,(HE10.out.res 3).m,(HE10.out.res 3).g⟩
   ·obtain rfl:k=ne:=by omega
    have hke:keyE none v.e=0:=by rw [<-HK.out];have:=keyE_end v.e (prevK v.e k);rwa [HNE.out] at this
    have hrr:r=chkAll f v.parts m1:=by rw [HR2.out,hke];rfl
    have HRR:=hid hrr
    obtain ⟨ca,cp,cr,cm,fm,fr,lm,lr⟩:=HEr.out.cells
    obtain ⟨c0,c1,c2,c3,c4,c5⟩:=HEr.out.vc
    simp only at c0 c1 c2 c3 c4 c5
    have hpt:=parts_any ⟨v,ad,cap,bd,dap⟩ wr
    simp only [Loc.val] at hpt
    have HPT:=hid hpt
    clear hke hrr hpt hlt hk
    go_wp2_with fail
    refine HPT.out.mono ?_
    rintro e w11 ⟨rfl,rfl⟩
    go_wp2_with fail
    have hce:=HEr.out.below ((Below.refl _ wr).alloc (Nat.le_refl _) (.cells #[.int .i64 v.k,.int .i64 v.n,.int .u64 v.f,.string v.s,.slice ad v.l.length cap,.slice bd v.e.length dap] 32))
    have hbx:(wr.alloc (.cells #[.int .i64 v.k,.int .i64 v.n,.int .u64 v.f,.string v.s,.slice ad v.l.length cap,.slice bd v.e.length dap] 32)).heap[wr.heap.size]?=some (.cells #[.int .i64 v.k,.int .i64 v.n,.int .u64 v.f,.string v.s,.slice ad v.l.length cap,.slice bd v.e.length dap] 32):=heap_alloc_new wr _
    have hsz:(wr.alloc (.cells #[.int .i64 v.k,.int .i64 v.n,.int .u64 v.f,.string v.s,.slice ad v.l.length cap,.slice bd v.e.length dap] 32)).heap.size=wr.heap.size+1:=by simp
    have hwr:=HEr.out.size
    have hMw:=HEr.out.hM
    obtain ⟨W0,hW0⟩:∃ W0,wr.alloc (.cells #[.int .i64 v.k,.int .i64 v.n,.int .u64 v.f,.string v.s,.slice ad v.l.length cap,.slice bd v.e.length dap] 32)=W0:=⟨_,rfl⟩
    rw [hW0] at hce hbx hsz ⊢
    have hv0:VAt W0 (Bw W0.heap.size M) ⟨v,ad,cap,bd,dap⟩:=HV.out.through hce.g.size (fun b hb hl=>hce.g.block b hl (fun e=>hb.2 (Option.some.inj e))) (fun b hb hl=>⟨by omega,hb.2⟩)
    obtain ⟨ls,es,hls,hes⟩:=locs_of hv0
    have hmap:vsOf (ls++es)=v.parts:=by unfold vsOf;rw [List.map_append,hls.1,hes.1];rfl
    have hlb:ls.length<=1000000000000000:=by rw [hls.len];have:=HV.out.l.lbound;simp only at this ⊢;omega
    have heb:es.length<=1000000000000000:=by rw [hes.len];have:=HV.out.e.ebound;simp only at this ⊢;omega
    have HM2:=HM3
    clear hW0 ca cp cr cm fm fr lm lr c0 c1 c2 c3 c4 c5
    refine (wpIn_wide (n:=5)).1 ?_
    refine wpIn_rangeFunc_ownH (encs:=fun x:LocAt W0 W0.heap.size M=>#[x.1.val]) (Kp:=KeM W0.heap.size M) (S:=fun ys=>ys=ls++es) (Sp:=fun pre=>pre <+: ls++es) (N:=ls.length+es.length) (w0:=W0)
     rfl (by decide) (gf:=84) (lb:=#[.pointer (some ⟨wr.heap.size,0,none⟩)]) rfl trivial (enters_of Tryz.func84 (by kernel_rfl) rfl)
     (fun l J Jx W hW hJ hJx hY h0=>parts1_in 4 (by decide) l wr.heap.size W0.heap.size M W0 ⟨v,ad,cap,bd,dap⟩ ls es ⟨by omega,by omega⟩ hls hes hlb heb J Jx W ⟨hW.size,fun k hk hl=>hW.block k hl⟩ hJ hY ((hW.block _ (by omega)).trans hbx) h0)
     (fun h k=>h.trans k) (KeM.put (Nat.le_refl _)) (Below.refl _ _) (fun _=>rfl)
     (fun pre W=>((chkAll f (vsOf pre) m1).1=0/\(chkAll f (vsOf pre) m1).2<=2000)/\CE w ⟨v,ad,cap,bd,dap⟩ a M (chkAll f (vsOf pre) m1).2 0 W/\KeM W0.heap.size M W0 W)
     (fun c pre W=>(c=.ret/\(chkAll f (vsOf pre) m1).1≠0)/\CE w ⟨v,ad,cap,bd,dap⟩ a M (chkAll f (vsOf pre) m1).2 (chkAll f (vsOf pre) m1).1 W)
     (fun s A B row hs hg hr=>⟨hs.1,hs.2.1.own hg (fun k e=>⟨by have:=(hr k e).1;omega,(hr k e).2⟩),hs.2.2.trans (KeM.grow hg (fun k e hb=>by have:=(hr k e).1;have:=hb.1;omega))⟩)
     (fun c s A B row hs hg hr=>⟨hs.1,hs.2.own hg (fun k e=>⟨by have:=(hr k e).1;omega,(hr k e).2⟩)⟩)
     ⟨⟨rfl,HM2.out⟩,hce,KeM.refl _ _ _⟩
     (fun x a' W=>∃ Bx:Nat,W.heap[Bx]?=some (.cells #[.int .i64 x.1.v.k,.int .i64 x.1.v.n,.int .u64 x.1.v.f,.string x.1.v.s,.slice x.1.ad x.1.v.l.length x.1.cap,.slice x.1.bd x.1.v.e.length x.1.dap] 32)/\a'={ tmps:=#[.agg #[.int .i64 v.k,.int .i64 v.n,.int .u64 v.f,.string v.s,.slice ad v.l.length cap,.slice bd v.e.length dap],.int .i64 a,.pointer (some ⟨M,0,none⟩),.pointer (some ⟨w.heap.size,0,none⟩),.pointer (some ⟨w.heap.size+1,0,none⟩),.pointer (some ⟨w.heap.size+1+1,0,none⟩),.pointer (some ⟨w.heap.size+1+1+1,0,none⟩),.int .i64 0,u8,u9,.pointer (some ⟨Bx,0,none⟩),undef,.pointer (some ⟨M,0,none⟩),.pointer (some ⟨M,0,none⟩),.int .i64 m,.int .i64 (m+1),.pointer (some ⟨M,0,none⟩),.pointer (some ⟨M,0,none⟩),.pointer (some ⟨M,0,none⟩),.int .i64 m1,.bool false,.agg #[.int .i64 v.k,.int .i64 v.n,.int .u64 v.f,.string v.s,.slice ad v.l.length cap,.slice bd v.e.length dap],.int .i64 a,.int .i64 0,.int .i64 0,.bool false,undef,.pointer (some ⟨w.heap.size,5,none⟩),.slice bd k dap,.int .i64 k,.int .i64 k,.bool false,u32,u33,u34,u35,u36,u37,u38,u39,u40,u41,u42,u43,u44,u45,u46,u47,u48,u49,u50,u51,u52,u53,u54,u55,u56,u57,u58,u59,u60,.agg #[.int .i64 v.k,.int .i64 v.n,.int .u64 v.f,.string v.s,.slice ad v.l.length cap,.slice bd v.e.length dap],.func (.func 84) #[] #[.pointer (some ⟨wr.heap.size,0,none⟩)],x.1.val,undef,undef,undef,undef,undef,undef,undef,undef],defers:=[] })
     (fun x a' _ X Y row hs hg hr=>by
       obtain ⟨Bx,e2,e3⟩:=hs
       exact ⟨Bx,(hg.block Bx (Array.getElem?_eq_some_iff.1 e2).1 (fun e=>by obtain ⟨-,o,ho,hc⟩:=hr Bx e.symm;rw [e2] at ho;cases ho;cases hc)).trans e2,e3⟩)
     ?assign ?body ?done ?stop
    case assign =>
     rintro l pre x W K ⟨hp,hce1,hke1⟩ hK
     simp only [Loc.val]
     gi_wp2
     exact hK _ _ ((KeepsOthers.alloc _ _).from _) (KeM.alloc _ _ _ _) ⟨hp,hce1.below ((Below.refl _ W).alloc (Nat.le_refl _) _),hke1.trans (KeM.alloc _ _ _ _)⟩ ⟨W.heap.size,heap_alloc_new W _,rfl⟩
    case body =>
     rintro l pre x a' W hl ⟨rr,hrr⟩ ⟨⟨hp0,hp1⟩,hce1,hke1⟩ ⟨Bx,hbx1,rfl⟩ hlt1
     obtain ⟨ca,cp,cr,cm,fm,fr,lm,lr⟩:=hce1.cells
     have hb1:CellsAt W Bx 0 x.1:=CellsAt.box hbx1
     obtain ⟨c0,c1,c2,c3,c4,c5⟩:=hb1
     have hvx:VAt W (Bw W.heap.size M) x.1:=x.2.through hke1.size (fun b hb hl=>hke1.block b hb hl) (fun b hb hl=>⟨by have:=hke1.size;have:=hb.1;omega,hb.2⟩)
     have hih:=IH.out x.1 (chkAll f (vsOf pre) m1).2 M W hce1.m hp1 (HT.out.but HMB.out hce1.g) hvx
     simp only [Loc.val] at hih
     have HIH:=hid hih
     have HCE1:=hid hce1
     have HPM:Hid ((chkAll f (vsOf pre) m1).2<=2000):=hid hp1
     have HSN:Hid (chkAll f (vsOf (pre++[x])) m1=f x.1.v (chkAll f (vsOf pre) m1).2):=hid (by rw [vsOf_snoc];exact chkAll_snoc f _ _ _ hp0)
     have HKE1:=hid hke1
     obtain ⟨r1,hr1⟩:∃ r1,f x.1.v (chkAll f (vsOf pre) m1).2=r1:=⟨_,rfl⟩
     rw [hr1] at HIH HSN
     have hle:=HF.out x.1.v _ hp1
     rw [hr1] at hle
     have HLE:=hid hle
     clear hih hvx hp0 hp1 hke1 hce1 hr1 hle hrr hbx1
     gi_wp2
     refine ⟨trivial,?_⟩
     (with_reducible refine (CallsIn.inRound l (callsIn_wide.2 HIH.out)).mono ?_)
     rintro e w12 ⟨rfl,hm12,hg12⟩
     have hce12:=HCE1.out.turn hg12 hm12
     have HK12:=hid (KeepsFrom.of_grownBy (B:=W0.heap.size) hg12 (fun k e=>by cases e;omega))
     have HKM12:=hid (HKE1.out.trans (KeM.grow hg12 (fun k e hb=>by cases e;exact hb.2 rfl)))
     have HKM13:=hid (KeM.grow (n₀:=W0.heap.size) hg12 (fun k e hb=>by cases e;exact hb.2 rfl))
     have HCE12:=hid hce12
     clear ca cp cr cm fm fr lm lr c0 c1 c2 c3 c4 c5 hm12 hg12 hce12
     obtain ⟨ca,cp,cr,cm,fm,fr,lm,lr⟩:=HCE12.out.cells
     by_cases hz:r1.1=0
     ·have t6:(((r1.1:Nat):Int) != 0)=false:=by rw [hz];rfl
      have HZ:=hid hz
      clear hz
      gi_wp2
      exact ⟨HK12.out,HKM13.out,⟨by rw [HSN.out];exact HZ.out,by rw [HSN.out];exact HLE.out.2 HZ.out⟩,by rw [HSN.out];exact HCE12.out,HKM12.out⟩
     ·have t6:(((r1.1:Nat):Int) != 0)=true:=by simp;omega
      gi_wp2
      refine ⟨HK12.out.trans (KeepsFrom.of_grownBy (grownBy_setCell' w12 (w.heap.size+3) _) (fun k e=>by cases e;omega)),⟨rfl,by rw [HSN.out];exact hz⟩,by rw [HSN.out];exact HCE12.out.res _⟩
    case done =>
     rintro D ys W hD rfl ⟨⟨hp0,hp1⟩,hce1,hke1⟩ hK
     have hrf:r=chkAll f (vsOf (ls++es)) m1:=by rw [hmap];exact HRR.out
     have HRF:=hid hrf
     have hce2:=(hce1.res 0).own (grownBy_putObj' _ D (.deferred none)) (fun k e=>by cases e;exact ⟨by omega,_,(KeepsOthers.setCell _ _ _).same D _ hK rfl,rfl⟩)
     have HCE2:=hid hce2
     have hK2:=(KeepsOthers.setCell W ⟨w.heap.size+3,0,none⟩ (.int .i64 0)).same D _ hK rfl
     have HK2:=hid hK2
     obtain ⟨ca,cp,cr,cm,fm,fr,lm,lr⟩:=hce1.cells
     have HP0:=hid hp0
     clear hrf hce2 hK hK2 hke1 hp0 hp1 hce1
     go_wp2_with fail
     refine ⟨by simp,.inl ⟨_,_,rfl,run_takeDeferred HK2.out,?_⟩⟩
     refine ⟨.int .i64 0,by simp [results,Tryz.results40,go_sem,HCE2.out.cells.2.2.1],?_,?_,?_⟩
     ·rw [HRF.out,HP0.out];rfl
     ·rw [HRF.out];exact HCE2.out.m
     ·exact HCE2.out.g
    case stop =>
     rintro D c pre W hD hSp ⟨⟨rfl,hne0⟩,hce1⟩ hK
     have hrf:r=chkAll f (vsOf pre) m1:=by
      obtain ⟨post,hpost⟩:=hSp
      have h2:chkAll f (vsOf (ls++es)) m1=chkAll f (vsOf pre) m1:=by
       rw [<-hpost,show vsOf (pre++post)=vsOf pre++vsOf post from by simp [vsOf]]
       exact chkAll_stop f _ _ _ hne0
      rw [<-h2,hmap];exact HRR.out
     have HRF:=hid hrf
     have hce2:=hce1.own (grownBy_putObj' _ D (.deferred none)) (fun k e=>by cases e;exact ⟨by omega,_,hK,rfl⟩)
     have HCE2:=hid hce2
     have HK2:=hid hK
     clear hrf hce2 hK hne0 hce1 hSp
     refine wpIn_wide.2 ?_
     go_wp2_with fail
     refine ⟨by simp,.inl ⟨_,_,rfl,run_takeDeferred HK2.out,?_⟩⟩
     refine ⟨.int .i64 ((chkAll f (vsOf pre) m1).1:Nat),by simp [results,Tryz.results40,go_sem,HCE2.out.cells.2.2.1],?_,?_,?_⟩
     ·rw [HRF.out]
     ·rw [HRF.out];exact HCE2.out.m
     ·exact HCE2.out.g
 ·have t2:((o:Int) != 0)=true:=by simp;omega
  have hrr:r=(o,m1):=by rw [<-HR.out];unfold chkM;rw [HO.out,if_pos ho0]
  subst hrr
  clear c0 c1 c2 c3 c4 c5 ho0
  go_wp2_with fail
  exact ⟨_,by simp [results,Tryz.results40,go_sem,(HE6.out.res o).cells.2.2.1],rfl,(HE6.out.res o).m,(HE6.out.res o).g⟩
end Go.Proofs.YtgnonbdkmmkdgaaGreatDoor
namespace Go.Proofs.YtgnonbdkmmkdgaaGreatDoor
open Go.RowKit Go.Shelf Gx
theorem check_any:∀ (d:Nat) (q:Loc) (m M:Nat) (w:World),d<=20->Boxed w M 3 (.int .i64 m)->m<=2000->Tabs w->VAt w (Bw w.heap.size M) q ->
 Calls Tryz.prog 40 #[q.val,.int .i64 (20 - (d:Int)),.pointer (some ⟨M,0,none⟩)] w (ChkPost (chk d q.v m) M w)
 | 0,q,m,M,w,_,hM,hm,hT,hv=>by
   by_cases h:2000<m+1
   ·have:=check_zero q 20 m (m+1) M w hM hm rfl 2 (.inl ⟨h,rfl⟩)
    rw [show chk 0 q.v m=(2,m+1) by simp only [chk];rw [if_pos h]]
    exact this
   ·have:=check_zero q 20 m (m+1) M w hM hm rfl 5 (.inr ⟨by omega,rfl,rfl⟩)
    rw [show chk 0 q.v m=(5,m+1) by simp only [chk];rw [if_neg h]]
    exact this
 | d+1,q,m,M,w,hd,hM,hm,hT,hv=>by
   by_cases h:2000<m+1
   ·have:=check_zero q (20 - ((d+1:Nat):Int)) m (m+1) M w hM hm rfl 2 (.inl ⟨h,rfl⟩)
    rw [show chk (d+1) q.v m=(2,m+1) by simp only [chk];rw [if_pos h]]
    exact this
   ·refine check_more q (20 - ((d+1:Nat):Int)) m (m+1) M w hM rfl (by omega) (by omega) (by omega) hT hv (chk d) (chk_le d) (fun p m' M' w' h1 h2 h3 h4=>?_) _ ?_
    ·have:=check_any d p m' M' w' (by omega) h1 h2 h3 h4
     rwa [show (20 - ((d+1:Nat):Int))+1=20 - (d:Int) by omega]
    ·simp only [chk];rw [if_neg h];rfl
def CheckPost (r:Nat) (w:World) (e:Ending) (w':World):Prop:=e=.returned (.int .i64 r)/\Below w.heap.size w w'
theorem Check_any (q:Loc) (w:World) (hT:Tabs w) (hv:VAt w (fun _=>True) q):Calls Tryz.prog 19 #[q.val] w (CheckPost (chkV q.v) w):=by
 have hb0:Below w.heap.size w (w.alloc (.cells #[.int .i64 q.v.k,.int .i64 q.v.n,.int .u64 q.v.f,.string q.v.s,.slice q.ad q.v.l.length q.cap,.slice q.bd q.v.e.length q.dap] 32)):=(Below.refl w.heap.size w).alloc (Nat.le_refl _) _
 have hsz:(w.alloc (.cells #[.int .i64 q.v.k,.int .i64 q.v.n,.int .u64 q.v.f,.string q.v.s,.slice q.ad q.v.l.length q.cap,.slice q.bd q.v.e.length q.dap] 32)).heap.size=w.heap.size+1:=by simp
 have hc:=CellsAt.box (q:=q) (heap_alloc_new w (.cells #[.int .i64 q.v.k,.int .i64 q.v.n,.int .u64 q.v.f,.string q.v.s,.slice q.ad q.v.l.length q.cap,.slice q.bd q.v.e.length q.dap] 32))
 unfold Loc.val
 have HT:=hid hT
 have HV:=hid hv
 clear hT hv
 go_enter Tryz.func19,Tryz.ntmps19
 go_upto_region 1 with fail
 generalize hw1:World.alloc w _=w1 at hb0 hsz hc ⊢
 clear hw1
 have hb1:Below w.heap.size w (w1.alloc (.cells #[.int .i64 0] 3)):=hb0.alloc hb0.size _
 have hc1:CellsAt (w1.alloc (.cells #[.int .i64 0] 3)) w.heap.size 0 q:=hc.through (Below.heap_alloc w1 _ _ (by omega))
 have hbx:Boxed (w1.alloc (.cells #[.int .i64 0] 3)) w1.heap.size 3 (.int .i64 ((0:Nat):Int)):=Boxed.new w1 _ _
 rw [hsz] at hbx
 go_upto_region 2 with fail
 generalize hw2:World.alloc w1 _=w2 at hb1 hc1 hbx ⊢
 obtain ⟨c0,c1,c2,c3,c4,c5⟩:=hc1
 have HB1:=hid hb1
 have HBX:=hid hbx
 clear hw2 hb0 hc hb1 hbx
 go_wp2_with fail
 have hck:=check_any 20 q 0 (w.heap.size+1) w2 (Nat.le_refl _) HBX.out (by decide) (HT.out.keep HB1.out) ((HV.out.through HB1.out.size (fun b _ hl=>HB1.out.block b hl) (fun b _ hl=>⟨Nat.lt_of_lt_of_le hl HB1.out.size,by omega⟩)))
 simp only [Loc.val] at hck
 rw [show (20 - ((20:Nat):Int))=0 from rfl] at hck
 (with_reducible refine hck.mono ?_)
 clear hck
 rintro e w3 ⟨rfl,-,hg⟩
 go_wp2_with fail
 try go_ret
 exact ⟨rfl,HB1.out.trans ((Below.refl _ w2).grown hg HB1.out.size (fun k e=>by cases e;omega))⟩
end Go.Proofs.YtgnonbdkmmkdgaaGreatDoor
namespace Go.Proofs.YtgnonbdkmmkdgaaGreatDoor
open Go.RowKit Gx
theorem checkM_kind {m:Mv} (h:m.k<1\/7<m.k):checkM m=1:=by unfold checkM;rw [if_pos h]
theorem checkM_deep {m:Mv} (h1:1<=m.k) (h2:m.k<=7) (h:20<=m.p.length):checkM m=5:=by unfold checkM;rw [if_neg (by omega),if_pos h]
theorem checkM_keys {m:Mv} (h1:1<=m.k) (h2:m.k<=7) (h:m.p.length<20):checkM m=if keysCode (mvKeys m)≠0 then keysCode (mvKeys m) else if m.k=3 then chkV m.v else 0:=by unfold checkM;rw [if_neg (by omega),if_neg (by omega)]
theorem stepCheck_any (m:Lm) (w:World) (hT:Tabs w) (hm:MvAt w (fun _=>True) m):Calls Tryz.prog 28 #[m.val] w (CheckPost (checkM m.mv) w):=by
 have hb1:=(Below.refl w.heap.size w).alloc (Nat.le_refl _) (.cells #[.int .i64 m.k,.slice m.pd m.p.length m.pc,.string m.key,.string m.dst,.int .i64 m.q.v.k,.int .i64 m.q.v.n,.int .u64 m.q.v.f,.string m.q.v.s,.slice m.q.ad m.q.v.l.length m.q.cap,.slice m.q.bd m.q.v.e.length m.q.dap] 55)
 have hc1:=heap_alloc_new w (.cells #[.int .i64 m.k,.slice m.pd m.p.length m.pc,.string m.key,.string m.dst,.int .i64 m.q.v.k,.int .i64 m.q.v.n,.int .u64 m.q.v.f,.string m.q.v.s,.slice m.q.ad m.q.v.l.length m.q.cap,.slice m.q.bd m.q.v.e.length m.q.dap] 55)
 unfold Lm.val
 obtain ⟨np,hnp⟩:∃ n,m.p.length=n:=⟨_,rfl⟩
 rw [hnp] at hb1 hc1 ⊢
 obtain ⟨cr,hcr⟩:∃ c,checkM m.mv=c:=⟨_,rfl⟩
 rw [hcr]
 have HNP:=hid hnp
 have HM:=hid hm
 have HT:=hid hT
 have HCR:=hid hcr
 have HK0:=hid hm.k0
 have HK1:=hid hm.k1
 have HPC:=hid (show np<=m.pc by rw [<-hnp];exact hm.c0)
 clear hm hT hcr hnp
 go_enter Tryz.func28,Tryz.ntmps28
 go_upto_region 1 with fail
 generalize World.alloc w _=w1 at hb1 hc1 ⊢
 have HB1:=hid hb1
 have HC1:=hid hc1
 clear hb1 hc1
 obtain ⟨b0,b1,b2,b3,b4,b5,b6,b7,b8,b9⟩:=ten_cells HC1.out
 by_cases h1:m.k<1
 ·have HP:Hid (CheckPost cr w (.returned (.int .i64 1)) w1):=hid (by rw [<-HCR.out,checkM_kind (.inl h1)];exact ⟨rfl,HB1.out⟩)
  go_wp2_with fail
  go_ret
  exact HP.out
 by_cases h2:m.k<=7
 case neg =>
  have h2':7<m.k:=by omega
  have HP:Hid (CheckPost cr w (.returned (.int .i64 1)) w1):=hid (by rw [<-HCR.out,checkM_kind (.inr h2')];exact ⟨rfl,HB1.out⟩)
  go_wp2_with fail
  go_ret
  exact HP.out
 have h1':1<=m.k:=by omega
 by_cases h3:np<20
 case neg =>
  have h3':20<=np:=by omega
  have HP:Hid (CheckPost cr w (.returned (.int .i64 5)) w1):=hid (by rw [<-HCR.out,checkM_deep h1' h2 (by have:=HNP.out;show 20<=m.p.length;omega)];exact ⟨rfl,HB1.out⟩)
  go_wp2_with fail
  go_ret
  exact HP.out
 have HCL:Hid (∀ W,Below w1.heap.size w1 W->Calls Tryz.prog 26 #[.slice m.pd np m.pc] W (ClonesS m.p W)):=hid (fun W hb=>by
  have h:=clonesS_any m.pd m.pc m.p W ((HM.out.p.keep HB1.out).keep hb)
  rw [HNP.out] at h
  exact h)
 unfold ClonesS at HCL
 rw [HNP.out] at HCL
 have hlow:w.heap.size<w1.heap.size:=(Array.getElem?_eq_some_iff.1 HC1.out).1
 go_upto_region 5 with fail
 go_cut [3] (fun v3 wx=>∃ (ao:Option Addr) (c:Nat),v3=.slice ao (np+1) c/\Hid (AccS wx w1.heap.size (.slice ao (np+1) c) (m.p++[m.key]))/\Hid (Below w1.heap.size w1 wx))
 case first =>
  refine wp_region_held_drew (S:=fun w'=>World.cell? w' ⟨w.heap.size,1,none⟩=some (.slice m.pd np m.pc)/\World.cell? w' ⟨w.heap.size,2,none⟩=some (.string m.key)) (by kernel_rfl) ⟨b1,b2⟩ (fun hHeld=>?_)
  have HBd:Hid (Below w1.heap.size w1 w1.drew):=hid (Gx.drewN_below w1 1 _)
  have HRW:Hid (∀ W,Below w1.heap.size w1 W->World.cell? W ⟨w.heap.size,1,none⟩=some (.slice m.pd np m.pc)/\World.cell? W ⟨w.heap.size,2,none⟩=some (.string m.key)):=hid (fun W hb=>⟨(hb.cell (p:=⟨w.heap.size,1,none⟩) hlow).trans b1,(hb.cell (p:=⟨w.heap.size,2,none⟩) hlow).trans b2⟩)
  generalize World.drew w1=wd at HBd hHeld ⊢
  clear b0 b1 b2 b3 b4 b5 b6 b7 b8 b9
  refine wpAnyH_take (i:=0) (v:=.pointer (some ⟨w.heap.size,1,none⟩)) rfl (by kernel_rfl) (by kernel_rfl) (by kernel_rfl) (fun _ _ _ h=>h) (Or.inl ⟨by kernel_rfl,fun w' hSw=>?_⟩) (by assumption) ?_
  ·obtain ⟨s0,s1⟩:=hSw;clear hHeld;go_simp;try rfl
  try simp only [Act.put,Go.setq]
  refine wpAnyH_take (i:=1) (v:=.slice m.pd np m.pc) rfl (by kernel_rfl) (by kernel_rfl) (by kernel_rfl) (fun _ _ _ h=>h) (Or.inl ⟨by kernel_rfl,fun w' hSw=>?_⟩) (by assumption) ?_
  ·obtain ⟨s0,s1⟩:=hSw;clear hHeld;go_simp;try rfl
  try simp only [Act.put,Go.setq]
  refine wpAnyH_take (i:=3) (v:=.pointer (some ⟨w.heap.size,2,none⟩)) rfl (by kernel_rfl) (by kernel_rfl) (by kernel_rfl) (fun _ _ _ h=>h) (Or.inl ⟨by kernel_rfl,fun w' hSw=>?_⟩) (by assumption) ?_
  ·obtain ⟨s0,s1⟩:=hSw;clear hHeld;go_simp;try rfl
  try simp only [Act.put,Go.setq]
  refine wpAnyH_take (i:=4) (v:=.string m.key) rfl (by kernel_rfl) (by kernel_rfl) (by kernel_rfl) (fun _ _ _ h=>h) (Or.inl ⟨by kernel_rfl,fun w' hSw=>?_⟩) (by assumption) ?_
  ·obtain ⟨s0,s1⟩:=hSw;clear hHeld;go_simp;try rfl
  try simp only [Act.put,Go.setq]
  refine wpAnyH_ready (rs:=[2,5]) (by kernel_rfl) (by simp) ?_
  refine AllReadyH.cons rfl (fun KK hK=>?_) (AllReadyH.cons rfl (fun KK hK=>?_) AllReadyH.nil)
  ·skip
   go_simp
   (with_reducible refine (HCL.out wd HBd.out).mono ?_)
   rintro e w5 ⟨bo,cq,rfl,hacc,hb5⟩
   have HA5:Hid (AccS w5 w1.heap.size (.slice bo np cq) m.p):=hid (hacc.low HBd.out.size)
   have HB5:=hid (HBd.out.trans (hb5.mono HBd.out.size))
   clear hacc hb5 hHeld
   refine hK.out _ _ (HRW.out _ HB5.out) (fun hHeld=>?_)
   clear hK KK
   try simp only [Act.put,Go.setq]
   refine wpAnyH_ready (rs:=[5]) (by kernel_rfl) (by simp) ?_
   refine AllReadyH.cons rfl (fun KK hK=>?_) AllReadyH.nil
   have hal:=(Below.refl w5.heap.size w5).alloc (Nat.le_refl _) (.cells #[.string m.key] 9)
   have HB6:=hid (HB5.out.trans (hal.mono HB5.out.size))
   have HA6:=hid (HA5.out.keep hal)
   have hca:=heap_alloc_new w5 (.cells #[.string m.key] 9)
   have HSB:Hid ((w5.alloc (.cells #[.string m.key] 9)).cell? ⟨w5.heap.size,0,none⟩=some (.string m.key)):=hid (by unfold World.cell?;rw [hca];rfl)
   clear hal hca
   obtain ⟨xb,hxb⟩:∃ xb,w5.heap.size=xb:=⟨_,rfl⟩
   rw [hxb] at HSB
   go_simp
   try rw [hxb]
   generalize World.alloc w5 _=w6 at HB6 HA6 HSB ⊢
   refine hK.out _ _ (HRW.out _ HB6.out) (fun hHeld=>?_)
   clear hK KK
   try simp only [Act.put,Go.setq]
   obtain ⟨ao,c,w7,hrun,ha7,hg7⟩:=HA6.out.append m.key xb HSB.out HB6.out.size np HNP.out (by omega)
   have HRUN:=hid hrun
   have HA7:=hid ha7
   have HB7:Hid (Below w1.heap.size w1 w7):=hid (HB6.out.grown hg7 HB6.out.size (fun b e=>HA6.out.above e))
   clear hrun ha7 hg7
   refine wpAnyH_ready (rs:=[6]) (by kernel_rfl) (by simp) ?_
   refine AllReadyH.cons rfl (fun KK hK=>?_) AllReadyH.nil
   refine step_append_eq rfl (.tmp 22) (.tmp 25) 23 23 rfl (.slice bo np cq) (.slice (some ⟨xb,0,none⟩) 1 1) rfl rfl HRUN.out ?_
   refine hK.out _ _ (HRW.out _ HB7.out) (fun hHeld2=>?_)
   clear hK KK
   try simp only [Act.put,Go.setq]
   refine wpAnyH_take (i:=7) (v:=.slice ao (np+1) c) rfl (by kernel_rfl) (by kernel_rfl) (by kernel_rfl) (fun _ _ _ h=>h) (Or.inl ⟨by kernel_rfl,fun w' hSw=>?_⟩) (by assumption) ?_
   ·try clear hHeld2;clear hSw;go_simp;try rfl
   try simp only [Act.put,Go.setq]
   refine wpAnyH_done (by kernel_rfl) ?_ _
   go_wp2_with fail
   go_meet
   exact ⟨ao,c,rfl,HA7,HB7⟩
  ·skip
   have hal:=(Below.refl wd.heap.size wd).alloc (Nat.le_refl _) (.cells #[.string m.key] 9)
   have HBa:=hid (HBd.out.trans (hal.mono HBd.out.size))
   have hca:=heap_alloc_new wd (.cells #[.string m.key] 9)
   have HSA:Hid ((wd.alloc (.cells #[.string m.key] 9)).cell? ⟨wd.heap.size,0,none⟩=some (.string m.key)):=hid (by unfold World.cell?;rw [hca];rfl)
   have hsa:wd.heap.size<(wd.alloc (.cells #[.string m.key] 9)).heap.size:=(Array.getElem?_eq_some_iff.1 hca).1
   clear hal hca
   obtain ⟨xb,hxb⟩:∃ xb,wd.heap.size=xb:=⟨_,rfl⟩
   rw [hxb] at HSA hsa
   go_simp
   try rw [hxb]
   generalize World.alloc wd _=wa at HBa HSA hsa ⊢
   refine hK.out _ _ (HRW.out _ HBa.out) (fun hHeld=>?_)
   clear hK KK
   try simp only [Act.put,Go.setq]
   refine wpAnyH_ready (rs:=[2]) (by kernel_rfl) (by simp) ?_
   refine AllReadyH.cons rfl (fun KK hK=>?_) AllReadyH.nil
   go_simp
   (with_reducible refine (HCL.out wa HBa.out).mono ?_)
   rintro e w5 ⟨bo,cq,rfl,hacc,hb5⟩
   have HA5:Hid (AccS w5 w1.heap.size (.slice bo np cq) m.p):=hid (hacc.low HBa.out.size)
   have HB5:=hid (HBa.out.trans (hb5.mono HBa.out.size))
   have HSB:=hid ((hb5.cell (p:=⟨xb,0,none⟩) hsa).trans HSA.out)
   clear hacc hb5 hHeld
   refine hK.out _ _ (HRW.out _ HB5.out) (fun hHeld=>?_)
   clear hK KK
   try simp only [Act.put,Go.setq]
   obtain ⟨ao,c,w7,hrun,ha7,hg7⟩:=HA5.out.append m.key xb HSB.out HB5.out.size np HNP.out (by omega)
   have HRUN:=hid hrun
   have HA7:=hid ha7
   have HB7:Hid (Below w1.heap.size w1 w7):=hid (HB5.out.grown hg7 HB5.out.size (fun b e=>HA5.out.above e))
   clear hrun ha7 hg7
   refine wpAnyH_ready (rs:=[6]) (by kernel_rfl) (by simp) ?_
   refine AllReadyH.cons rfl (fun KK hK=>?_) AllReadyH.nil
   refine step_append_eq rfl (.tmp 22) (.tmp 25) 23 23 rfl (.slice bo np cq) (.slice (some ⟨xb,0,none⟩) 1 1) rfl rfl HRUN.out ?_
   refine hK.out _ _ (HRW.out _ HB7.out) (fun hHeld2=>?_)
   clear hK KK
   try simp only [Act.put,Go.setq]
   refine wpAnyH_take (i:=7) (v:=.slice ao (np+1) c) rfl (by kernel_rfl) (by kernel_rfl) (by kernel_rfl) (fun _ _ _ h=>h) (Or.inl ⟨by kernel_rfl,fun w' hSw=>?_⟩) (by assumption) ?_
   ·try clear hHeld2;clear hSw;go_simp;try rfl
   try simp only [Act.put,Go.setq]
   refine wpAnyH_done (by kernel_rfl) ?_ _
   go_wp2_with fail
   go_meet
   exact ⟨ao,c,rfl,HA7,HB7⟩
 case rest =>
  obtain ⟨ao,c,rfl,HAx,HBx⟩:=hcut
  clear b0 b1 b2 b3 b4 b5 b6 b7 b8 b9 HCL
  have HC2:=hid ((HBx.out.block _ hlow).trans HC1.out)
  obtain ⟨b0,b1,b2,b3,b4,b5,b6,b7,b8,b9⟩:=ten_cells HC2.out
  go_upto_if 29 with fail
  go_cut [3] (fun v3 wx=>∃ (ao:Option Addr) (n c:Nat),v3=.slice ao n c/\n<=30/\Hid (AccS wx w1.heap.size (.slice ao n c) (mvKeys m.mv))/\Hid ((mvKeys m.mv).length=n)/\Hid (Below w1.heap.size w1 wx))
  case first =>
   by_cases hk:m.k=1
   ·have HKS:Hid (m.p++[m.key]++[m.dst]=mvKeys m.mv):=hid (by unfold mvKeys;rw [if_pos (show m.mv.k=1 from hk)];rfl)
    have e1:(m.k==1)=true:=beq_iff_eq.2 hk
    have hal:=(Below.refl wc.heap.size wc).alloc (Nat.le_refl _) (.cells #[.string m.dst] 9)
    have HB3:=hid (HBx.out.trans (hal.mono HBx.out.size))
    have hca:=heap_alloc_new wc (.cells #[.string m.dst] 9)
    obtain ⟨ao3,c3,w3,hrun,ha3,hg3⟩:=(HAx.out.keep hal).append m.dst wc.heap.size (by unfold World.cell?;rw [hca];rfl) HB3.out.size (np+1) (by rw [List.length_append,HNP.out];rfl) (by omega)
    have HRUN:=hid hrun
    have HA3:=hid ha3
    have HB4:Hid (Below w1.heap.size w1 w3):=hid (HB3.out.grown hg3 HB3.out.size (fun b e=>HAx.out.above e))
    clear hk hal hca hrun ha3 hg3
    go_wp2_with (at_builtin;refine wpl_append_eq rfl _ _ 23 23 rfl _ _ rfl rfl HRUN.out ?_)
    go_meet
    exact ⟨ao3,np+1+1,c3,rfl,by omega,hid (by rw [<-HKS.out];exact HA3.out),hid (by rw [<-HKS.out,List.length_append,List.length_append,HNP.out];rfl),HB4⟩
   ·have HKS:Hid (m.p++[m.key]=mvKeys m.mv):=hid (by unfold mvKeys;rw [if_neg (show ¬ m.mv.k=1 from hk),List.append_nil];rfl)
    have e1:(m.k==1)=false:=beq_eq_false_iff_ne.2 hk
    clear hk
    go_wp2_with fail
    go_meet
    exact ⟨ao,np+1,c,rfl,by omega,hid (by rw [<-HKS.out];exact HAx.out),hid (by rw [<-HKS.out,List.length_append,HNP.out];rfl),HBx⟩
  case rest =>
   obtain ⟨ao,n,c,rfl,hn30,HA,HN,HB⟩:=hcut
   clear b0 b1 b2 b3 b4 b5 b6 b7 b8 b9 HC2 HAx HBx
   have HC3:=hid ((HB.out.block _ hlow).trans HC1.out)
   obtain ⟨ks,hks⟩:∃ ks,mvKeys m.mv=ks:=⟨_,rfl⟩
   rw [hks] at HA HN
   have HWC:Hid (Below w.heap.size w wc):=hid (HB1.out.trans (HB.out.mono HB1.out.size))
   have HRES:Hid (cr=if keysCode ks≠0 then keysCode ks else if m.k=3 then chkV m.q.v else 0):=hid (by rw [<-HCR.out,checkM_keys h1' h2 (by have:=HNP.out;show m.p.length<20;omega),hks];rfl)
   clear hks HC1 HB
   go_wp2_with fail
   go_loopw [37] (fun v37 wr=>∃ k:Nat,k<=n/\v37=.int .i64 k/\Hid (keysCode ks=keysCode (ks.drop k))/\Hid (Below wc.heap.size wc wr)) (fun v37 _=>n - (intOf v37).toNat)
   case atStart=>exact ⟨0,Nat.zero_le _,rfl,hid rfl,hid (Below.refl _ _)⟩
   case round =>
    obtain ⟨k,hkn,rfl,HE,HWR⟩:=hrel
    have HWW:Hid (Below w.heap.size w wr):=hid (HWC.out.trans (HWR.out.mono HWC.out.size))
    by_cases hlt:k<n
    ·obtain ⟨s,hs⟩:∃ s,ks[k]?=some s:=⟨_,List.getElem?_eq_getElem (by rw [HN.out];exact hlt)⟩
     obtain ⟨g,c',hgv,-,hgl,hgc⟩:=HA.out.cell hs
     obtain ⟨rfl,-,rfl⟩:ao=some ⟨g,0,none⟩/\n=ks.length/\c=c':=by cases hgv;exact ⟨rfl,rfl,rfl⟩
     have hE:=HE.out
     rw [show ks.drop k=s::ks.drop (k+1) by obtain ⟨hl,hg⟩:=List.getElem?_eq_some_iff.1 hs;rw [List.drop_eq_getElem_cons hl,hg],keysCode] at hE
     have hg0:wr.cell? ⟨g,k,none⟩=some (.string s):=by exact (HWR.out.cell (p:=⟨g,k,none⟩) hgl).trans hgc
     have r1:(0:Int)<=(k:Int):=by omega
     have r2:(k:Int)<(n:Int):=by omega
     have HS:=hid hs
     have HE2:=hid hE
     clear hs hE hgv hgc HE
     by_cases hlong:100<s.size
     ·have h2:keyCode s=2:=by unfold keyCode;rw [if_pos hlong]
      have HR:Hid (CheckPost cr w (.returned (.int .i64 2)) wr):=hid (by
       have hE:=HE2.out
       rw [h2,if_pos (by decide)] at hE
       rw [HRES.out,hE,if_pos (by decide)];exact ⟨rfl,HWW.out⟩)
      have c1:(100:Int)<(s.size:Int):=by omega
      clear HE2 HS hlong h2
      go_wp2_with fail
      try go_ret
      exact HR.out
     have c1:¬ (100:Int)<(s.size:Int):=by omega
     have HCB:=hid (bad_any s wr (HT.out.keep HWW.out) (by omega))
     unfold BadPost at HCB
     go_wp2_with fail
     (with_reducible refine HCB.out.mono ?_)
     rintro e w2 ⟨i,rfl,hi,hb2⟩
     have HW2:Hid (Below w.heap.size w w2):=hid (HWW.out.trans (hb2.mono HWW.out.size))
     have HR2:Hid (Below wc.heap.size wc w2):=hid (HWR.out.trans (hb2.mono HWR.out.size))
     by_cases hok:okText s.data.toList
     ·have h2:keyCode s=0:=by unfold keyCode;rw [if_neg hlong,if_pos hok]
      have hE:=HE2.out
      rw [h2,if_neg (by simp)] at hE
      have HE3:=hid hE
      have c2:¬ (0:Int)<=i:=by have:=hi.2 hok;omega
      clear hE HE2 h2 hi hb2 HCB hok
      go_wp2_with fail
      go_roundw
      case rel=>exact ⟨k+1,by omega,by go_num,HE3,HR2⟩
      case measure=>simp [intOf];omega
     ·have h2:keyCode s=3:=by unfold keyCode;rw [if_neg hlong,if_neg hok]
      have HR:Hid (CheckPost cr w (.returned (.int .i64 3)) w2):=hid (by
       have hE:=HE2.out
       rw [h2,if_pos (by decide)] at hE
       rw [HRES.out,hE,if_pos (by decide)];exact ⟨rfl,HW2.out⟩)
      have c2:(0:Int)<=i:=by
       by_cases hx:(0:Int)<=i
       ·exact hx
       ·exact absurd (hi.1 (by omega)) hok
      clear HE2 HS hlong h2 hi hb2 HCB hok
      go_wp2_with fail
      try go_ret
      exact HR.out
    ·have hkn':k=n:=by omega
     subst hkn'
     have h0:keysCode ks=0:=by rw [HE.out,<-HN.out,List.drop_length];rfl
     have HC4:=hid ((HWR.out.block _ (Array.getElem?_eq_some_iff.1 HC3.out).1).trans HC3.out)
     obtain ⟨b0,b1,b2,b3,b4,b5,b6,b7,b8,b9⟩:=ten_cells HC4.out
     by_cases h3:m.k=3
     ·have e3:(m.k==3)=true:=beq_iff_eq.2 h3
      have hck:=Check_any m.q wr (HT.out.keep HWW.out) (HM.out.v.keep HWW.out)
      unfold CheckPost Loc.val at hck
      have HCK:=hid hck
      have hr:cr=chkV m.q.v:=by rw [HRES.out,if_neg (by rw [h0];simp),if_pos h3]
      have HR:=hid hr
      clear hck hr h0 h3 HE
      go_wp2_with fail
      (with_reducible refine HCK.out.mono ?_)
      rintro e w2 ⟨rfl,hb2⟩
      have HP:Hid (CheckPost cr w (.returned (.int .i64 (chkV m.q.v:Int))) w2):=hid (by rw [HR.out];exact ⟨rfl,HWW.out.trans (hb2.mono HWW.out.size)⟩)
      clear hb2 HR
      go_wp2_with fail
      try go_ret
      exact HP.out
     ·have e3:(m.k==3)=false:=beq_eq_false_iff_ne.2 h3
      have HP:Hid (CheckPost cr w (.returned (.int .i64 0)) wr):=hid (by rw [HRES.out,if_neg (by rw [h0];simp),if_neg h3];exact ⟨rfl,HWW.out⟩)
      clear h0 h3 HE
      go_wp2_with fail
      try go_ret
      exact HP.out
def emptyB (a:Ty):Bool:=decide (1<=a.k) && decide (a.k<=12) && (a.k==4 || a.k==6 || a.k==8 || (a.lo==0 && a.hi==0)) && (a.k==7 || a.x.length==0) && (if a.k==8 || a.k==9 then a.t.length==1 else a.k==11 || a.t.length==0) && (a.k==10 || a.f.length==0) && (a.k==12 || a.n.toList==[])
def notRise (p:Option ByteArray) (s:ByteArray):Bool:=match p with|none=>false|some q=>!Op.bytesLess q.toList s.toList
open Classical in
noncomputable def textsL:Option ByteArray->List ByteArray->Int
 | _,[]=>0
 | p,s::l=>if ¬ okText s.data.toList then 3 else if notRise p s=true then 14 else textsL (some s) l
open Classical in
theorem textsL_cons (p:Option ByteArray) (s:ByteArray) (l:List ByteArray):textsL p (s::l)=if ¬ okText s.data.toList then 3 else if notRise p s=true then 14 else textsL (some s) l:=by cases p<;>rfl
theorem textsL_nil (p:Option ByteArray):textsL p []=0:=by cases p<;>rfl
noncomputable def textsF (l:List ByteArray):Int:=if l.length=0 then 4 else if 200<l.length then 2 else textsL none l
open Classical in
noncomputable def nameE (s:ByteArray):Int:=if 100<s.size then 2 else if ¬ okText s.data.toList then 3 else 0
noncomputable def namesL:Option ByteArray->List ByteArray->Int
 | _,[]=>0
 | p,s::l=>if nameE s≠0 then nameE s else if notRise p s=true then 14 else namesL (some s) l
theorem namesL_cons (p:Option ByteArray) (s:ByteArray) (l:List ByteArray):namesL p (s::l)=if nameE s≠0 then nameE s else if notRise p s=true then 14 else namesL (some s) l:=by cases p<;>rfl
theorem namesL_nil (p:Option ByteArray):namesL p []=0:=by cases p<;>rfl
noncomputable def fieldE (p:Option ByteArray) (f:Fd Ty):Int :=
 match p with
 | none=>namesL none [f.n]
 | some q=>namesL none [q,f.n]
noncomputable def fieldsL:Option ByteArray->List (Fd Ty)->Int
 | _,[]=>0
 | p,f::l=>if fieldE p f≠0 then fieldE p f else if chkV f.d≠0 then (chkV f.d:Int) else if f.h=false/\cmpD (SizeOf.sizeOf f.d) f.d .zero≠0 then 10 else fieldsL (some f.n) l
theorem fieldsL_cons (p:Option ByteArray) (f:Fd Ty) (l:List (Fd Ty)):fieldsL p (f::l)=if fieldE p f≠0 then fieldE p f else if chkV f.d≠0 then (chkV f.d:Int) else if f.h=false/\cmpD (SizeOf.sizeOf f.d) f.d .zero≠0 then 10 else fieldsL (some f.n) l:=by cases p<;>rfl
theorem fieldsL_nil (p:Option ByteArray):fieldsL p []=0:=by cases p<;>rfl
noncomputable def fieldsF (l:List (Fd Ty)):Int:=if 200<l.length then 2 else fieldsL none l
noncomputable def lookF (a:Ty) (ar:Int) (m:Nat):Int :=
 if 200<m then 2 else if 20<=ar then 5 else if emptyB a=false then 10 else if a.hi<a.lo\/(a.k≠4/\a.lo<0) then 7 else if a.k=7 then textsF a.x else if a.k=10 then fieldsF a.f else if a.k=12 then 8 else 0
def kidsT (a:Ty):List Ty:=a.t++a.f.map Fd.t
def walkAll (g:Ty->Nat->Int×Nat):List Ty->Nat->Int×Nat
 | [],m=>(0,m)
 | x::l,m=>if (g x m).1≠0 then g x m else walkAll g l (g x m).2
def walkF (look:Ty->Int->Nat->Int×Nat):Nat->Ty->Int->Nat->Int×Nat
 | 0,_,_,m=>(5,m)
 | d+1,a,ar,m=>if (look a ar m).1≠0 then look a ar m else walkAll (fun x m=>walkF look d x (ar+1) m) (kidsT a) (look a ar m).2
noncomputable def lookP (a:Ty) (ar:Int) (m:Nat):Int×Nat:=(lookF a ar (m+1),m+1)
def clashL:Int->List Ty->Int
 | _,[]=>0
 | all,x::l=>if bits .and .i64 all (toldI x.flat)≠0 then 13 else clashL (bits .or .i64 all (toldI x.flat)) l
def clashF (a:Ty):Int:=if a.k=11 then clashL 0 a.t else 0
def clashP (a:Ty) (_:Int) (m:Nat):Int×Nat:=(clashF a,m)
end Go.Proofs.YtgnonbdkmmkdgaaGreatDoor
