/-
  Lemmas for the statement: plain laws, and what functions answer; the conditions stand in each.
-/
import Derived.Test.YtgnonbdkmmkdgaaGreatDoorRows
import Derived.Lib.LaidTab
import Derived.Lib.LaidU8
import Derived.PinnedBridge
import Derived.ProofKit
import Derived.LaidLaws
import Derived.Test.YtgnonbdkmmkdgaaGreatDoorChainTypedAllQ36
set_option linter.unusedVariables false
set_option linter.unusedSimpArgs false
set_option maxHeartbeats 16000000
set_option maxRecDepth 100000
open Go.Lib (hid)
namespace Go.Proofs.YtgnonbdkmmkdgaaGreatDoor
open Go.RowKit Gx
def CTabs (W:World):Prop:=Tabs W/\P10 W
theorem CTabs.p10 {W:World} (h:CTabs W):∀ w',Below W.heap.size W w'->P10 w':=fun w' hb=>by
 have h2:=h.2
 have hg:Tryz.prog.globalNamed "internal/strconv.uint64pow10"=some 3:=by kernel_rfl
 unfold P10 Lib.TabIs World.var? at *
 rw [hg,Option.bind_some] at h2 ⊢
 have hl:3<W.heap.size:=Classical.byContradiction fun hn=>by
  rw [Array.getElem?_eq_none (by omega)] at h2
  cases h2
 rw [hb.block _ hl]
 exact h2
theorem LRow.keep {w w':World} {ad:Option Addr} {ls:List Ln} (h:LRow w ad ls) (hb:Below w.heap.size w w'):LRow w' ad ls:=by
 refine ⟨h.1,fun hne=>?_,fun i k hi=>?_⟩
 ·obtain ⟨b,o,e,hl⟩:=h.2.1 hne
  exact ⟨b,o,e,Nat.lt_of_lt_of_le hl hb.size⟩
 ·obtain ⟨h1,h2,h3,b,o,e,hc⟩:=h.2.2 i k hi
  obtain ⟨b',o',e',hl⟩:=h.2.1 (by intro e;rw [e] at hi;cases hi)
  rw [e] at e'
  simp only [Option.some.injEq,Addr.mk.injEq,and_true] at e'
  obtain ⟨rfl,rfl⟩:=e'
  exact ⟨h1,h2,h3.keep hb,b,o,e,fun j u hj=>(hb.cell (p:=⟨b,o+i * 3+j,none⟩) hl).trans (hc j u hj)⟩
structure MB (w:World) (X Y:Array Value) (W:World):Prop where
 g:Below w.heap.size w W
 bt:W.heap[w.heap.size]?=some (.cells X 27)
 bv:W.heap[w.heap.size+1]?=some (.cells Y 32)
theorem MB.keep {w W W':World} {X Y:Array Value} (h:MB w X Y W) (hb:Below W.heap.size W W'):MB w X Y W' :=
 ⟨h.g.trans (hb.mono h.g.size),(hb.block _ (Array.getElem?_eq_some_iff.1 h.bt).1).trans h.bt,(hb.block _ (Array.getElem?_eq_some_iff.1 h.bv).1).trans h.bv⟩
theorem MB.start (w:World) (X Y:Array Value):MB w X Y ((w.alloc (.cells X 27)).alloc (.cells Y 32)):=by
 refine ⟨((Below.refl _ w).alloc (Nat.le_refl _) _).alloc (by simp) _,?_,?_⟩
 ·rw [Below.heap_alloc _ _ _ (by simp)]
  exact heap_alloc_new w _
 ·have:=heap_alloc_new (w.alloc (.cells X 27)) (.cells Y 32)
  rwa [World.size_alloc] at this
theorem chainTyped_walk (ad:Option Addr) (cap:Nat) (ls:List Ln) (fr:Int) (wfr:(Lit.int .i64 fr).wf=true) (to_:Int) (wto:(Lit.int .i64 to_).wf=true) (q:Lt) (p:Loc) (w:World) (hT:CTabs w) (hL:LRow w ad ls) (hLk:Lk w ad cap (linksOf ls)) (hq:TyAt w (fun _=>True) q) (hp:VAt w (fun _=>True) p) :
 Calls Tryz.prog 3 #[.slice ad ls.length cap,.int .i64 fr,.int .i64 to_,q.val,p.val] w (TruePost w):=by
 have hmb:=MB.start w #[.int .i64 q.v.k,.int .i64 q.v.lo,.int .i64 q.v.hi,.slice q.xd q.v.x.length q.xc,.slice q.td q.v.t.length q.tc,.slice q.fd q.v.f.length q.fc,.string q.v.n] #[.int .i64 p.v.k,.int .i64 p.v.n,.int .u64 p.v.f,.string p.v.s,.slice p.ad p.v.l.length p.cap,.slice p.bd p.v.e.length p.dap]
 have hct:∀ W,Below w.heap.size w W->Calls Tryz.prog 5 #[.slice ad ls.length cap,.int .i64 fr,.int .i64 to_,q.val] W (CTPost ls q.v fr to_ W):=fun W hb=>chainTyped_any ad cap ls fr to_ q W (hL.keep hb) (hLk.keep hb) wfr wto (hq.keep hb) (hT.1.keep hb)
 have hft:∀ W,Below w.heap.size w W->Calls Tryz.prog 6 #[.agg #[.slice none 0 0,.int .i64 q.v.k,.int .i64 q.v.lo,.int .i64 q.v.hi,.slice q.xd q.v.x.length q.xc,.slice q.td q.v.t.length q.tc,.slice q.fd q.v.f.length q.fc,.string q.v.n],p.val] W (FitsPost q.v p.v W):=fun W hb=>fits_any q p W (hq.keep hb) (hp.keep hb) (hT.1.keep hb)
 have hrn:∀ W,Below w.heap.size w W->∀ (u:Ty) (f:Int->Option Nat) (o:List Nat),Dist (linksOf ls) to_ f->Way (linksOf ls) f o fr to_->Amid (movesOf ls o) u p->Calls Tryz.prog 8 #[.slice ad ls.length cap,.int .i64 fr,.int .i64 to_,p.val] W (RunPost u W):=fun W hb u f o hd hw ha =>
  runV_any ad cap ls fr to_ p u f o W (hL.keep hb) (hLk.keep hb) wfr wto hd hw (hp.keep hb) (hT.1.keep hb) (fun W' h'=>hT.p10 W' (hb.trans (h'.mono hb.size))) ha
 unfold Lt.val Loc.val
 unfold CTPost Lt.val at hct
 unfold FitsPost Loc.val at hft
 unfold RunPost Loc.val at hrn
 have HCT:=hid hct
 have HFT:=hid hft
 have HRN:=hid hrn
 have HT:=hid hT
 clear hct hft hrn hT hL hLk hq hp wfr wto
 go_enter Tryz.func3,Tryz.ntmps3
 go_upto_region 1 with fail
 generalize World.alloc (World.alloc w _) _=w1 at hmb ⊢
 have HR:=hid hmb
 clear hmb
 have HCH:=hid (chains_any w1)
 go_wp2_with fail
 (with_reducible refine HCH.out.mono ?_)
 rintro e w2 ⟨rfl,hb2⟩
 have HR2:=hid (HR.out.keep hb2)
 clear hb2 HR HCH
 obtain ⟨a0,a1,a2,a3,a4,a5,a6,-⟩:=ty_cells HR2.out.bt
 have HC1:=hid (HCT.out w2 HR2.out.g)
 go_wp2_with fail
 (with_reducible refine HC1.out.mono ?_)
 rintro e w3 ⟨x,xi,code,rfl,hgood,hbad,hb3⟩
 have HR3:=hid (HR2.out.keep hb3)
 have HGOOD:=hid hgood
 have HBAD:=hid hbad
 have hcb:=heap_alloc_new w3 (.cells #[.int .i64 x.v.k,.int .i64 x.v.lo,.int .i64 x.v.hi,.slice x.xd x.v.x.length x.xc,.slice x.td x.v.t.length x.tc,.slice x.fd x.v.f.length x.fc,.string x.v.n] 27)
 have hal:=(Below.refl w3.heap.size w3).alloc (Nat.le_refl _) (.cells #[.int .i64 x.v.k,.int .i64 x.v.lo,.int .i64 x.v.hi,.slice x.xd x.v.x.length x.xc,.slice x.td x.v.t.length x.tc,.slice x.fd x.v.f.length x.fc,.string x.v.n] 27)
 have HR4:=hid (HR3.out.keep hal)
 have HXA:Hid (code=0->TyAt (w3.alloc (.cells #[.int .i64 x.v.k,.int .i64 x.v.lo,.int .i64 x.v.hi,.slice x.xd x.v.x.length x.xc,.slice x.td x.v.t.length x.tc,.slice x.fd x.v.f.length x.fc,.string x.v.n] 27)) (fun _=>True) x):=hid (fun h=>((hgood h).2.2.weak (fun _ _ _=>trivial)).keep hal)
 obtain ⟨xb,hxb⟩:∃ xb,w3.heap.size=xb:=⟨_,rfl⟩
 rw [hxb] at hcb
 have HXB:=hid hcb
 clear a0 a1 a2 a3 a4 a5 a6 hgood hbad hb3 hcb hal HC1 HR2
 go_upto_region 4 with fail
 generalize World.alloc w3 _=w4 at HR4 HXA HXB ⊢
 clear hxb HR3
 obtain ⟨a0,a1,a2,a3,a4,a5,a6,-⟩:=ty_cells HR4.out.bt
 obtain ⟨b0,b1,b2,b3,b4,b5,-⟩:=six_cells HR4.out.bv
 obtain ⟨wy,hwy⟩:∃ c,whyE q.v p.v=c:=⟨_,rfl⟩
 have HF1:=HFT.out w4 HR4.out.g
 rw [hwy] at HF1
 have HWY:=hid hwy
 have HF2:=hid HF1
 clear HF1 hwy
 go_wp2_with fail
 (with_reducible refine HF2.out.mono ?_)
 rintro e w5 ⟨ok,rfl,hok,-,hb5⟩
 have HR5:=hid (HR4.out.keep hb5)
 have HXB5:=hid ((hb5.block _ (Array.getElem?_eq_some_iff.1 HXB.out).1).trans HXB.out)
 have HXA5:Hid (code=0->TyAt w5 (fun _=>True) x):=hid (fun h=>(HXA.out h).keep hb5)
 have HOK:=hid hok
 clear a0 a1 a2 a3 a4 a5 a6 b0 b1 b2 b3 b4 b5 hok hb5 HR4 HXB HXA HF2
 have HEND:Hid (TruePost w (.returned (.bool true)) w5):=hid ⟨rfl,HR5.out.g⟩
 by_cases h0:code=0
 case neg =>
  have e1:(code != 0)=true:=by simp [h0]
  have e2:(code==0)=false:=beq_eq_false_iff_ne.2 h0
  obtain rfl:=HBAD.out h0
  have hz5:w5.heap[xb]?=some (.cells #[.int .i64 0,.int .i64 0,.int .i64 0,.slice none 0 0,.slice none 0 0,.slice none 0 0,.string ⟨#[]⟩] 27):=HXB5.out
  obtain ⟨d0,d1,d2,d3,d4,d5,d6,-⟩:=ty_cells hz5
  clear HXB5 hz5
  have hsm:=same_zero w5
  unfold zeroTy BoolB at hsm
  have HSM:=hid hsm
  clear hsm h0
  go_wp2_with fail
  (with_reducible refine HSM.out.mono ?_)
  rintro e w6 ⟨rfl,hb6⟩
  have HEND6:Hid (TruePost w (.returned (.bool true)) w6):=hid ⟨rfl,HR5.out.g.trans (hb6.mono HR5.out.g.size)⟩
  clear hb6
  go_wp2_with fail
  try go_ret
  exact HEND6.out
 obtain rfl:code=0:=h0
 have e1:((0:Int) != 0)=false:=rfl
 have e2:((0:Int)==0)=true:=rfl
 by_cases h1:wy=0
 case neg =>
  have e3:(wy != 0)=true:=by simp [h1]
  go_wp2_with fail
  try go_ret
  exact HEND.out
 obtain rfl:wy=0:=h1
 have e3:((0:Int) != 0)=false:=rfl
 cases ok
 case false =>
  go_wp2_with fail
  try go_ret
  exact HEND.out
 have hfit:Fit false q.v p.v:=(HOK.out (by first|rfl|trivial)).1 rfl
 obtain ⟨hfe,hway,-⟩:=HGOOD.out (by first|rfl|trivial)
 obtain ⟨f,o,hd,hw,hwr⟩:=hway
 have hcv:chkV p.v=0:=by
  have h:=HWY.out
  unfold whyE at h
  rw [if_neg (fun g=>g hfe)] at h
  omega
 have hxe:fitsE x.v=0:=hwr.fits hfe
 have ham:Amid (movesOf ls o) x.v p:=⟨q.v,hwr,hfe,hfit,hcv⟩
 have HXE:=hid hxe
 have HR1:=hid (HRN.out w5 HR5.out.g x.v f o hd hw ham)
 have HXAA:Hid (TyAt w5 (fun _=>True) x):=hid (HXA5.out (by first|rfl|trivial))
 clear hfit hfe hd hw hwr hcv hxe ham HOK HGOOD HBAD HEND HXA5 HWY
 obtain ⟨b0,b1,b2,b3,b4,b5,-⟩:=six_cells HR5.out.bv
 go_wp2_with fail
 (with_reducible refine HR1.out.mono ?_)
 rintro e w6 ⟨y,yi,rc,rfl,hrc,hry,hb6⟩
 have hcb:=heap_alloc_new w6 (.cells #[.int .i64 y.v.k,.int .i64 y.v.n,.int .u64 y.v.f,.string y.v.s,.slice y.ad y.v.l.length y.cap,.slice y.bd y.v.e.length y.dap] 32)
 have hal:=(Below.refl w6.heap.size w6).alloc (Nat.le_refl _) (.cells #[.int .i64 y.v.k,.int .i64 y.v.n,.int .u64 y.v.f,.string y.v.s,.slice y.ad y.v.l.length y.cap,.slice y.bd y.v.e.length y.dap] 32)
 have HG7:Hid (Below w.heap.size w (w6.alloc (.cells #[.int .i64 y.v.k,.int .i64 y.v.n,.int .u64 y.v.f,.string y.v.s,.slice y.ad y.v.l.length y.cap,.slice y.bd y.v.e.length y.dap] 32))):=hid ((HR5.out.g.trans (hb6.mono HR5.out.g.size)).trans (hal.mono (Nat.le_trans HR5.out.g.size hb6.size)))
 have HX7:=hid ((HXAA.out.keep hb6).keep hal)
 have hx6:=(hb6.block _ (Array.getElem?_eq_some_iff.1 HXB5.out).1).trans HXB5.out
 have HXB7:=hid ((hal.block _ (Array.getElem?_eq_some_iff.1 hx6).1).trans hx6)
 have HRC:=hid hrc
 have HRY:Hid (rc=0->Fit false x.v y.v/\chkV y.v=0/\VAt (w6.alloc (.cells #[.int .i64 y.v.k,.int .i64 y.v.n,.int .u64 y.v.f,.string y.v.s,.slice y.ad y.v.l.length y.cap,.slice y.bd y.v.e.length y.dap] 32)) (fun _=>True) y):=hid (fun h=>⟨(hry h).1,(hry h).2.1,((hry h).2.2.weak (fun _ _ _=>trivial)).keep hal⟩)
 obtain ⟨yb,hyb⟩:∃ yb,w6.heap.size=yb:=⟨_,rfl⟩
 rw [hyb] at hcb
 have HYB:=hid hcb
 clear b0 b1 b2 b3 b4 b5 hrc hry hb6 hcb hal hx6 HR1 HXAA HR5 HXB5
 go_upto_region 8 with fail
 generalize World.alloc w6 _=w7 at HG7 HX7 HXB7 HRY HYB ⊢
 clear hyb
 have HEND:Hid (TruePost w (.returned (.bool true)) w7):=hid ⟨rfl,HG7.out⟩
 by_cases h2:rc=0
 case neg =>
  have e4:(rc != 0)=true:=by simp [h2]
  have hrc:=HRC.out
  rcases hrc with h|rfl|rfl
  ·exact absurd h h2
  ·have e5:((2:Int)==2)=true:=rfl
   clear h2 HRC HRY
   go_wp2_with fail
   try go_ret
   exact HEND.out
  ·have e5:((5:Int)==2)=false:=rfl
   have e6:((5:Int)==5)=true:=rfl
   clear h2 HRC HRY
   go_wp2_with fail
   try go_ret
   exact HEND.out
 obtain rfl:rc=0:=h2
 obtain ⟨hfy,hcy,hya⟩:=HRY.out (by first|rfl|trivial)
 have hwy:whyE x.v y.v=0:=by
  unfold whyE
  rw [if_neg (fun g=>g HXE.out),hcy];rfl
 have hf3:=fits_any x y w7 HX7.out hya (HT.out.1.keep HG7.out)
 unfold FitsPost Loc.val at hf3
 rw [hwy] at hf3
 have HF3:=hid hf3
 have HFY:=hid hfy
 obtain ⟨d0,d1,d2,d3,d4,d5,d6,-⟩:=ty_cells HXB7.out
 obtain ⟨b0,b1,b2,b3,b4,b5,-⟩:=six_cells HYB.out
 clear hfy hcy hya hwy hf3 HRY HRC
 go_wp2_with fail
 (with_reducible refine HF3.out.mono ?_)
 rintro e w8 ⟨ok2,rfl,hok2,-,hb8⟩
 obtain rfl:ok2=true:=(hok2 (by first|rfl|trivial)).2 HFY.out
 have HEND8:Hid (TruePost w (.returned (.bool true)) w8):=hid ⟨rfl,HG7.out.trans (hb8.mono HG7.out.size)⟩
 clear hok2 hb8 HF3
 go_wp2_with fail
 try go_ret
 exact HEND8.out
end Go.Proofs.YtgnonbdkmmkdgaaGreatDoor
namespace Go.Proofs
open Go.Shelf
def Tryz.lays260_ren:Go.Shelf.Ren:=⟨fun|260=>112|n=>n,fun|9=>9|21=>21|3=>3|4=>4|5=>5|119=>188|0=>0|46=>117|139=>191|138=>190|n=>n,fun|3=>0|4=>1|n=>n⟩
theorem Tryz.lays260:Go.Proofs.Lays.n260 Tryz.prog Tryz.lays260_ren:={
 mixed:=by kernel_rfl
 f260:=Tryz.func112.trans (congrArg some (by kernel_rfl))
 t0:=Tryz.underlying0
 a0:=Tryz.isAgg0
 z0:=Tryz.sizeOf0
 v0:=Tryz.zeroValue0
 t3:=Tryz.underlying3
 a3:=Tryz.isAgg3
 z3:=Tryz.sizeOf3
 v3:=Tryz.zeroValue3
 t4:=Tryz.underlying4
 a4:=Tryz.isAgg4
 z4:=Tryz.sizeOf4
 v4:=Tryz.zeroValue4
 t5:=Tryz.underlying5
 a5:=Tryz.isAgg5
 z5:=Tryz.sizeOf5
 v5:=Tryz.zeroValue5
 t9:=Tryz.underlying9
 a9:=Tryz.isAgg9
 z9:=Tryz.sizeOf9
 v9:=Tryz.zeroValue9
 t21:=Tryz.underlying21
 a21:=Tryz.isAgg21
 z21:=Tryz.sizeOf21
 v21:=Tryz.zeroValue21
 t46:=Tryz.underlying117
 a46:=Tryz.isAgg117
 z46:=Tryz.sizeOf117
 v46:=Tryz.zeroValue117
 t119:=Tryz.underlying188
 a119:=Tryz.isAgg188
 z119:=Tryz.sizeOf188
 t138:=Tryz.underlying190
 a138:=Tryz.isAgg190
 z138:=Tryz.sizeOf190
 v138:=Tryz.zeroValue190
 t139:=Tryz.underlying191
 a139:=Tryz.isAgg191
 z139:=Tryz.sizeOf191
 v139:=Tryz.zeroValue191
 g3:=by kernel_rfl
 g4:=by kernel_rfl }
namespace YtgnonbdkmmkdgaaGreatDoor
open Go.RowKit Gx
theorem tab_of_reads {P:Program} {W:World} {name:String} {k:IntKind} {zs:List Int} {g:Nat} {t e:TypeId} {n:Nat}
 (hg:P.globalNamed name=some g) (hty:(P.globals[g]?).map (·.type)=some t) (ht:P.underlying t=some (.array n e)) (he:P.underlying e=some (.int k)) (hce:P.cellsOf e=1) (hct:P.cellsOf t=n)
 (h:Lib.VarReads P W name (Lib.tabData k zs)):Lib.TabIs P W name k zs:=by
 obtain ⟨g',t',cs,fuel,p,hg',ht',hvar,hd⟩:=h
 obtain rfl:=Option.some.inj (hg.symm.trans hg')
 obtain rfl:=Option.some.inj (hty.symm.trans ht')
 unfold Lib.TabIs
 rw [hvar,<-Lib.cells_of_tab ht he hce hct hd]
theorem chainTyped_tabs {W:World} (hL:laidMetH Tryz.prog Rows.chainTypedRow.laid W):CTabs W:=by
 have h3:=Lib.laidMet.reads hL (.tail _ (.tail _ (.head _)))
 have h4:=Lib.laidMet.reads hL (.tail _ (.tail _ (.tail _ (.head _))))
 have h5:=Lib.laidMet.reads hL (.tail _ (.tail _ (.tail _ (.tail _ (.head _)))))
 have e3:Rows.laid_internal_strconv_uint64pow10=Lib.tabData (H:=Unit) .u64 Lib.pow10Tab:=by kernel_rfl
 rw [e3] at h3
 have t3:=tab_of_reads (g:=3) (t:=(Tryz.prog.globals[3]!).type) (by kernel_rfl) (by kernel_rfl) (n:=20) (e:=28) (by kernel_rfl) (by kernel_rfl) (by kernel_rfl) (by kernel_rfl) h3
 have hU:=Go.Proofs.utf8Tabs_of_reads Tryz.lays260 ⟨by kernel_rfl,by kernel_rfl,by kernel_rfl,by kernel_rfl,by kernel_rfl,by kernel_rfl,by kernel_rfl⟩
  (w:=W) (Pinned.utf8First_eq▸h5) ((show Rows.laid_unicode_utf8_acceptRanges=Lib.acceptData by kernel_rfl)▸h4)
 exact ⟨hU,t3⟩
end YtgnonbdkmmkdgaaGreatDoor
end Go.Proofs
