/-
  Lemmas for the statement: plain laws, and what functions answer; the conditions stand in each.
-/
import Derived.Test.YtgnonbdkmmkdgaaGreatDoorChainTypedAllQ00
import Derived.Test.YtgnonbdkmmkdgaaGreatDoorChainTypedAllQ26
import Derived.Test.YtgnonbdkmmkdgaaGreatDoorChainTypedAllQ27
import Derived.Test.YtgnonbdkmmkdgaaGreatDoorChainTypedAllQ28
import Derived.Test.YtgnonbdkmmkdgaaGreatDoorChainTypedAllQ29
import Derived.Test.YtgnonbdkmmkdgaaGreatDoorChainTypedAllQ30
set_option linter.unusedVariables false
set_option linter.unusedSimpArgs false
set_option maxHeartbeats 16000000
set_option maxRecDepth 100000
open Go.Lib (hid)
namespace Go.Proofs.YtgnonbdkmmkdgaaGreatDoor
open Go.RowKit Gx
open Classical in
noncomputable def fitsE (a:Ty):Int:=if typE a≠0 then typE a else if DefOk 20 a then 0 else 12
theorem fitsE_seen {a:Ty} (h:fitsE a=0):Seen 20 a:=by
 unfold fitsE at h
 by_cases hz:typE a=0
 ·exact typE_seen hz
 ·rw [if_pos hz] at h;exact absurd h hz
theorem sch_cells {w:World} {b:Nat} {r:Lt} {ty:TypeId} (h:w.heap[b]?=some (.cells #[.slice none 0 0,.int .i64 r.v.k,.int .i64 r.v.lo,.int .i64 r.v.hi,.slice r.xd r.v.x.length r.xc,.slice r.td r.v.t.length r.tc,.slice r.fd r.v.f.length r.fc,.string r.v.n] ty)):w.cell? ⟨b,0,none⟩=some (.slice none 0 0)/\w.cell? ⟨b,1,none⟩=some (.int .i64 r.v.k)/\w.cell? ⟨b,2,none⟩=some (.int .i64 r.v.lo)/\w.cell? ⟨b,3,none⟩=some (.int .i64 r.v.hi)/\w.cell? ⟨b,4,none⟩=some (.slice r.xd r.v.x.length r.xc)/\w.cell? ⟨b,5,none⟩=some (.slice r.td r.v.t.length r.tc)/\w.cell? ⟨b,6,none⟩=some (.slice r.fd r.v.f.length r.fc)/\w.cell? ⟨b,7,none⟩=some (.string r.v.n):=by
 refine ⟨?_,?_,?_,?_,?_,?_,?_,?_⟩<;>simp [World.cell?,h]
theorem fitsCheck_any (r:Lt) (w:World) (hr:TyAt w (fun _=>True) r) (hT:Tabs w):Calls Tryz.prog 10 #[.agg #[.slice none 0 0,.int .i64 r.v.k,.int .i64 r.v.lo,.int .i64 r.v.hi,.slice r.xd r.v.x.length r.xc,.slice r.td r.v.t.length r.tc,.slice r.fd r.v.f.length r.fc,.string r.v.n]] w (IntB (fitsE r.v) w):=by
 have hb:=(Below.refl w.heap.size w).alloc (Nat.le_refl _) (.cells #[.slice none 0 0,.int .i64 r.v.k,.int .i64 r.v.lo,.int .i64 r.v.hi,.slice r.xd r.v.x.length r.xc,.slice r.td r.v.t.length r.tc,.slice r.fd r.v.f.length r.fc,.string r.v.n] 41)
 have hc:=heap_alloc_new w (.cells #[.slice none 0 0,.int .i64 r.v.k,.int .i64 r.v.lo,.int .i64 r.v.hi,.slice r.xd r.v.x.length r.xc,.slice r.td r.v.t.length r.tc,.slice r.fd r.v.f.length r.fc,.string r.v.n] 41)
 have HB:=hid hb
 have HR:=hid (hr.keep hb)
 have HT:=hid (hT.keep hb)
 clear hb hr hT
 go_enter Tryz.func10,Tryz.ntmps10
 go_upto_region 1 with fail
 generalize World.alloc w _=w1 at hc HB HR HT ⊢
 generalize hS:w.heap.size=S at hc ⊢
 obtain ⟨s0,s1,s2,s3,s4,s5,s6,s7⟩:=sch_cells hc
 have HSC:=hid hc
 have HC:=hid (typCheck_any r w1 HR.out HT.out)
 clear hc hS
 go_wp2_with fail
 (with_reducible refine HC.out.mono ?_)
 rintro e w2 ⟨rfl,hb2⟩
 have HB2:=hid hb2
 have hsc2:=(hb2.block _ (Array.getElem?_eq_some_iff.1 HSC.out).1).trans HSC.out
 clear s0 s1 s2 s3 s4 s5 s6 s7 hb2 HC
 by_cases hz:typE r.v=0
 rotate_left
 ·have HX:Hid (IntB (fitsE r.v) w (.returned (.int .i64 (typE r.v))) w2):=hid (by unfold fitsE;rw [if_pos hz];exact ⟨rfl,HB.out.trans (HB2.out.mono HB.out.size)⟩)
  have z0:(typE r.v==0)=false:=beq_eq_false_iff_ne.2 hz
  have z1:(typE r.v != 0)=true:=by rw [bne,z0];rfl
  clear hz hsc2 HB2 HR HT HSC
  go_wp2_with fail
  try go_ret
  exact HX.out
 have HZ:=hid hz
 have hba:=(Below.refl w2.heap.size w2).alloc (Nat.le_refl _) (.cells #[.slice none 0 0,.int .i64 r.v.k,.int .i64 r.v.lo,.int .i64 r.v.hi,.slice r.xd r.v.x.length r.xc,.slice r.td r.v.t.length r.tc,.slice r.fd r.v.f.length r.fc,.string r.v.n,.bool true] 77)
 have hj:=heap_alloc_new w2 (.cells #[.slice none 0 0,.int .i64 r.v.k,.int .i64 r.v.lo,.int .i64 r.v.hi,.slice r.xd r.v.x.length r.xc,.slice r.td r.v.t.length r.tc,.slice r.fd r.v.f.length r.fc,.string r.v.n,.bool true] 77)
 have hsc3:=(hba.block _ (Array.getElem?_eq_some_iff.1 hsc2).1).trans hsc2
 have HBa:=hid (HB2.out.trans (hba.mono HB2.out.size))
 obtain ⟨s0,s1,s2,s3,s4,s5,s6,s7⟩:=sch_cells hsc2
 rw [hz]
 clear hz hba
 go_upto_region 5 with fail
 clear s0 s1 s2 s3 s4 s5 s6 s7
 generalize World.alloc w2 _=w3 at hj hsc3 HBa ⊢
 generalize hJ:w2.heap.size=J at hj ⊢
 have hcd:=defaults_any (J:=J) (r:=r) 20 r w3 hj (HT.out.keep HBa.out) (HR.out.keep HBa.out) (typE_seen HZ.out)
 unfold Lt.val at hcd
 have HCD:=hid hcd
 obtain ⟨s0,s1,s2,s3,s4,s5,s6,s7⟩:=sch_cells hsc3
 clear hj hJ hcd hsc3 hsc2
 go_wp2_with fail
 go_loopw [18] (fun v18 wr=>v18=.int .i64 0/\wr=w3) (fun _ _=>0)
 case atStart=>exact ⟨rfl,rfl⟩
 case round =>
  obtain ⟨rfl,rfl⟩:=hrel
  go_wp2_with fail
  (with_reducible refine HCD.out.mono ?_)
  rintro e w4 ⟨b,rfl,hbb,hb4⟩
  have HX:Hid (IntB (fitsE r.v) w (.returned (.int .i64 (if b=true then 0 else 12))) w4):=hid (by
   unfold fitsE
   rw [if_neg (fun h=>h HZ.out)]
   refine ⟨?_,HB.out.trans ((HBa.out.trans (hb4.mono HBa.out.size)).mono HB.out.size)⟩
   by_cases hd:DefOk 20 r.v
   ·rw [if_pos hd,if_pos (hbb.2 hd)]
   ·rw [if_neg hd,if_neg (fun h=>hd (hbb.1 h))])
  clear hbb hb4 HCD
  cases b with
  | true =>
    rw [if_pos rfl] at HX
    go_wp2_with fail
    try go_ret
    exact HX.out
  | false =>
    rw [if_neg (by decide)] at HX
    go_wp2_with fail
    try go_ret
    exact HX.out
noncomputable def whyE (a:Ty) (v:V):Int:=if fitsE a≠0 then fitsE a else (chkV v:Int)
def WhyPost (a:Ty) (v:V) (w:World) (e:Ending) (w':World):Prop:=∃ (ad:Option Addr) (l c:Nat) (ok:Bool),e=.returned (.tuple #[.slice ad l c,.bool ok,.int .i64 (whyE a v)])/\(whyE a v=0->(ok=true↔Fit false a v))/\(whyE a v≠0->ok=false)/\Below w.heap.size w w'
def FitsPost (a:Ty) (v:V) (w:World) (e:Ending) (w':World):Prop:=∃ ok:Bool,e=.returned (.tuple #[.bool ok,.int .i64 (whyE a v)])/\(whyE a v=0->(ok=true↔Fit false a v))/\(whyE a v≠0->ok=false)/\Below w.heap.size w w'
theorem why_any (r:Lt) (q:Loc) (w:World) (hr:TyAt w (fun _=>True) r) (hq:VAt w (fun _=>True) q) (hT:Tabs w):Calls Tryz.prog 13 #[.agg #[.slice none 0 0,.int .i64 r.v.k,.int .i64 r.v.lo,.int .i64 r.v.hi,.slice r.xd r.v.x.length r.xc,.slice r.td r.v.t.length r.tc,.slice r.fd r.v.f.length r.fc,.string r.v.n],q.val] w (WhyPost r.v q.v w):=by
 have hb:=((Below.refl w.heap.size w).alloc (Nat.le_refl _) (.cells #[.slice none 0 0,.int .i64 r.v.k,.int .i64 r.v.lo,.int .i64 r.v.hi,.slice r.xd r.v.x.length r.xc,.slice r.td r.v.t.length r.tc,.slice r.fd r.v.f.length r.fc,.string r.v.n] 41)).alloc (by simp) (.cells #[.int .i64 q.v.k,.int .i64 q.v.n,.int .u64 q.v.f,.string q.v.s,.slice q.ad q.v.l.length q.cap,.slice q.bd q.v.e.length q.dap] 32)
 have hc:((w.alloc (.cells #[.slice none 0 0,.int .i64 r.v.k,.int .i64 r.v.lo,.int .i64 r.v.hi,.slice r.xd r.v.x.length r.xc,.slice r.td r.v.t.length r.tc,.slice r.fd r.v.f.length r.fc,.string r.v.n] 41)).alloc (.cells #[.int .i64 q.v.k,.int .i64 q.v.n,.int .u64 q.v.f,.string q.v.s,.slice q.ad q.v.l.length q.cap,.slice q.bd q.v.e.length q.dap] 32)).heap[w.heap.size]?=_:=(Below.heap_alloc _ _ _ (by simp)).trans (heap_alloc_new w (.cells #[.slice none 0 0,.int .i64 r.v.k,.int .i64 r.v.lo,.int .i64 r.v.hi,.slice r.xd r.v.x.length r.xc,.slice r.td r.v.t.length r.tc,.slice r.fd r.v.f.length r.fc,.string r.v.n] 41))
 have hv:=heap_alloc_new (w.alloc (.cells #[.slice none 0 0,.int .i64 r.v.k,.int .i64 r.v.lo,.int .i64 r.v.hi,.slice r.xd r.v.x.length r.xc,.slice r.td r.v.t.length r.tc,.slice r.fd r.v.f.length r.fc,.string r.v.n] 41)) (.cells #[.int .i64 q.v.k,.int .i64 q.v.n,.int .u64 q.v.f,.string q.v.s,.slice q.ad q.v.l.length q.cap,.slice q.bd q.v.e.length q.dap] 32)
 rw [World.size_alloc] at hv
 have HB:=hid hb
 have HR:=hid (hr.keep hb)
 have HQ:=hid (hq.keep hb)
 have HT:=hid (hT.keep hb)
 unfold Loc.val
 clear hb hr hq hT
 go_enter Tryz.func13,Tryz.ntmps13
 go_upto_region 1 with fail
 generalize World.alloc (World.alloc w _) _=w1 at hc hv HB HR HT HQ ⊢
 generalize hS:w.heap.size=S at hc hv ⊢
 obtain ⟨s0,s1,s2,s3,s4,s5,s6,s7⟩:=sch_cells hc
 have HSC:=hid hc
 have HVC:=hid hv
 have HC:=hid (fitsCheck_any r w1 HR.out HT.out)
 clear hc hv hS
 go_wp2_with fail
 (with_reducible refine HC.out.mono ?_)
 rintro e w2 ⟨rfl,hb2⟩
 have HB2:=hid hb2
 have hsc2:=(hb2.block _ (Array.getElem?_eq_some_iff.1 HSC.out).1).trans HSC.out
 have hvc2:=(hb2.block _ (Array.getElem?_eq_some_iff.1 HVC.out).1).trans HVC.out
 clear s0 s1 s2 s3 s4 s5 s6 s7 hb2 HC HSC HVC
 by_cases hz:fitsE r.v=0
 rotate_left
 ·have HX:Hid (WhyPost r.v q.v w (.returned (.tuple #[.slice none 0 0,.bool false,.int .i64 (fitsE r.v)])) w2):=hid (by
   have hw:whyE r.v q.v=fitsE r.v:=by unfold whyE;rw [if_pos hz]
   exact ⟨none,0,0,false,by rw [hw],fun h=>absurd (hw.symm.trans h) hz,fun _=>rfl,HB.out.trans (HB2.out.mono HB.out.size)⟩)
  have z0:(fitsE r.v==0)=false:=beq_eq_false_iff_ne.2 hz
  have z1:(fitsE r.v != 0)=true:=by rw [bne,z0];rfl
  clear hz hsc2 hvc2 HB2 HR HT HQ
  go_wp2_with fail
  exact bodyPost_ret (v:=.tuple #[.slice none 0 0,.bool false,.int .i64 (fitsE r.v)]) (by simp [results,Tryz.results13,go_sem]) rfl HX.out
 have HZ:=hid hz
 have hck:=Check_any q w2 (HT.out.keep HB2.out) (HQ.out.keep HB2.out)
 unfold CheckPost Loc.val at hck
 have HCK:=hid hck
 have HSC2:=hid hsc2
 have HVC2:=hid hvc2
 obtain ⟨v0,v1,v2,v3,v4,v5⟩:=six_at hvc2
 rw [hz]
 clear hck hz hsc2 hvc2
 go_wp2_with fail
 (with_reducible refine HCK.out.mono ?_)
 rintro e w3 ⟨rfl,hb3⟩
 have HB3:=hid (HB2.out.trans (hb3.mono HB2.out.size))
 have hsc3:=(hb3.block _ (Array.getElem?_eq_some_iff.1 HSC2.out).1).trans HSC2.out
 have hvc3:=(hb3.block _ (Array.getElem?_eq_some_iff.1 HVC2.out).1).trans HVC2.out
 have HWE:Hid (whyE r.v q.v=(chkV q.v:Int)):=hid (by unfold whyE;rw [if_neg (fun h=>h HZ.out)])
 clear v0 v1 v2 v3 v4 v5 hb3 HCK HSC2 HVC2 HB2
 by_cases hy:chkV q.v=0
 rotate_left
 ·have HX:Hid (WhyPost r.v q.v w (.returned (.tuple #[.slice none 0 0,.bool false,.int .i64 (chkV q.v:Int)])) w3):=hid (by
   exact ⟨none,0,0,false,by rw [HWE.out],fun h=>absurd (HWE.out.symm.trans h) (by omega),fun _=>rfl,HB.out.trans (HB3.out.mono HB.out.size)⟩)
  obtain ⟨cc,hcc⟩:∃ cc,chkV q.v=cc:=⟨_,rfl⟩
  rw [hcc] at HX hy ⊢
  have z0:((cc:Int)==0)=false:=beq_eq_false_iff_ne.2 (by omega)
  have z1:((cc:Int) != 0)=true:=by rw [bne,z0];rfl
  clear hcc hy hsc3 hvc3 HB3 HR HT HQ HWE
  go_wp2_with fail
  exact bodyPost_ret (v:=.tuple #[.slice none 0 0,.bool false,.int .i64 (cc:Int)]) (by simp [results,Tryz.results13,go_sem]) rfl HX.out
 have HY:=hid hy
 have hba:=(Below.refl w3.heap.size w3).alloc (Nat.le_refl _) (.cells #[.slice none 0 0,.int .i64 r.v.k,.int .i64 r.v.lo,.int .i64 r.v.hi,.slice r.xd r.v.x.length r.xc,.slice r.td r.v.t.length r.tc,.slice r.fd r.v.f.length r.fc,.string r.v.n,.bool false] 77)
 have hj:=heap_alloc_new w3 (.cells #[.slice none 0 0,.int .i64 r.v.k,.int .i64 r.v.lo,.int .i64 r.v.hi,.slice r.xd r.v.x.length r.xc,.slice r.td r.v.t.length r.tc,.slice r.fd r.v.f.length r.fc,.string r.v.n,.bool false] 77)
 have HBa:=hid (HB3.out.trans (hba.mono HB3.out.size))
 have HKS:Hid (∀ o,(w3.alloc (.cells #[.slice none 0 0,.int .i64 r.v.k,.int .i64 r.v.lo,.int .i64 r.v.hi,.slice r.xd r.v.x.length r.xc,.slice r.td r.v.t.length r.tc,.slice r.fd r.v.f.length r.fc,.string r.v.n,.bool false] 77)).cell? ⟨S,o,none⟩=w3.cell? ⟨S,o,none⟩):=hid (fun o=>hba.cell (p:=⟨S,o,none⟩) (Array.getElem?_eq_some_iff.1 hsc3).1)
 have hsc4:=(hba.block _ (Array.getElem?_eq_some_iff.1 hsc3).1).trans hsc3
 have hvc4:=(hba.block _ (Array.getElem?_eq_some_iff.1 hvc3).1).trans hvc3
 have hcw:=wrong_any (J:=w3.heap.size) (r:=r) (full:=false) 20 (by omega) r q _ ⟨hj,HT.out.keep HBa.out,HR.out.keep HBa.out,HQ.out.keep HBa.out⟩ (fitsE_seen HZ.out).tok (chk_gd 20 q.v 0 HY.out)
 unfold Lt.val Loc.val at hcw
 have HCW:=hid hcw
 obtain ⟨s0,s1,s2,s3,s4,s5,s6,s7⟩:=sch_cells hsc3
 obtain ⟨t0,t1,t2,t3,t4,t5,t6,t7⟩:=sch_cells hsc4
 obtain ⟨v0,v1,v2,v3,v4,v5⟩:=six_at hvc4
 rw [hy]
 clear hy hba hj hsc3 hsc4 hvc3 hvc4 hcw HKS
 go_wp2_with fail
 (with_reducible refine HCW.out.mono ?_)
 rintro e w5 ⟨ad,pl,pc,bad,rfl,hbad,-,hb5⟩
 have HX:Hid (WhyPost r.v q.v w (.returned (.tuple #[.slice ad pl pc,.bool (!bad),.int .i64 0])) w5):=hid (by
  have hw:whyE r.v q.v=0:=by rw [HWE.out,HY.out];rfl
  refine ⟨ad,pl,pc,!bad,by rw [hw],fun _=>?_,fun h=>absurd hw h,HB.out.trans ((HBa.out.trans (hb5.mono HBa.out.size)).mono HB.out.size)⟩
  rw [<-hbad]
  cases bad<;>simp)
 clear hbad hb5 HCW HWE HB3 HR HT HQ HBa s0 s1 s2 s3 s4 s5 s6 s7 t0 t1 t2 t3 t4 t5 t6 t7 v0 v1 v2 v3 v4 v5
 go_wp2_with fail
 exact bodyPost_ret (v:=.tuple #[.slice ad pl pc,.bool (!bad),.int .i64 0]) (by simp [results,Tryz.results13,go_sem]) rfl HX.out
theorem fits_any (r:Lt) (q:Loc) (w:World) (hr:TyAt w (fun _=>True) r) (hq:VAt w (fun _=>True) q) (hT:Tabs w):Calls Tryz.prog 6 #[.agg #[.slice none 0 0,.int .i64 r.v.k,.int .i64 r.v.lo,.int .i64 r.v.hi,.slice r.xd r.v.x.length r.xc,.slice r.td r.v.t.length r.tc,.slice r.fd r.v.f.length r.fc,.string r.v.n],q.val] w (FitsPost r.v q.v w):=by
 have hb:=((Below.refl w.heap.size w).alloc (Nat.le_refl _) (.cells #[.slice none 0 0,.int .i64 r.v.k,.int .i64 r.v.lo,.int .i64 r.v.hi,.slice r.xd r.v.x.length r.xc,.slice r.td r.v.t.length r.tc,.slice r.fd r.v.f.length r.fc,.string r.v.n] 41)).alloc (by simp) (.cells #[.int .i64 q.v.k,.int .i64 q.v.n,.int .u64 q.v.f,.string q.v.s,.slice q.ad q.v.l.length q.cap,.slice q.bd q.v.e.length q.dap] 32)
 have hc:((w.alloc (.cells #[.slice none 0 0,.int .i64 r.v.k,.int .i64 r.v.lo,.int .i64 r.v.hi,.slice r.xd r.v.x.length r.xc,.slice r.td r.v.t.length r.tc,.slice r.fd r.v.f.length r.fc,.string r.v.n] 41)).alloc (.cells #[.int .i64 q.v.k,.int .i64 q.v.n,.int .u64 q.v.f,.string q.v.s,.slice q.ad q.v.l.length q.cap,.slice q.bd q.v.e.length q.dap] 32)).heap[w.heap.size]?=_:=(Below.heap_alloc _ _ _ (by simp)).trans (heap_alloc_new w (.cells #[.slice none 0 0,.int .i64 r.v.k,.int .i64 r.v.lo,.int .i64 r.v.hi,.slice r.xd r.v.x.length r.xc,.slice r.td r.v.t.length r.tc,.slice r.fd r.v.f.length r.fc,.string r.v.n] 41))
 have hv:=heap_alloc_new (w.alloc (.cells #[.slice none 0 0,.int .i64 r.v.k,.int .i64 r.v.lo,.int .i64 r.v.hi,.slice r.xd r.v.x.length r.xc,.slice r.td r.v.t.length r.tc,.slice r.fd r.v.f.length r.fc,.string r.v.n] 41)) (.cells #[.int .i64 q.v.k,.int .i64 q.v.n,.int .u64 q.v.f,.string q.v.s,.slice q.ad q.v.l.length q.cap,.slice q.bd q.v.e.length q.dap] 32)
 rw [World.size_alloc] at hv
 have hwhy:=why_any r q _ (hr.keep hb) (hq.keep hb) (hT.keep hb)
 unfold Loc.val at hwhy ⊢
 have HC:=hid hwhy
 have HB:=hid hb
 clear hb hr hq hT hwhy
 go_enter Tryz.func6,Tryz.ntmps6
 go_upto_region 1 with fail
 generalize World.alloc (World.alloc w _) _=w1 at hc hv HB HC ⊢
 generalize hS:w.heap.size=S at hc hv ⊢
 obtain ⟨s0,s1,s2,s3,s4,s5,s6,s7⟩:=sch_cells hc
 obtain ⟨v0,v1,v2,v3,v4,v5⟩:=six_at hv
 clear hc hv hS
 go_wp2_with fail
 (with_reducible refine HC.out.mono ?_)
 rintro e w2 ⟨ad,l,c,ok,rfl,h1,h2,hb2⟩
 have HX:Hid (FitsPost r.v q.v w (.returned (.tuple #[.bool ok,.int .i64 (whyE r.v q.v)])) w2):=hid ⟨ok,rfl,h1,h2,HB.out.trans (hb2.mono HB.out.size)⟩
 clear h1 h2 hb2 HC s0 s1 s2 s3 s4 s5 s6 s7 v0 v1 v2 v3 v4 v5
 go_wp2_with fail
 exact bodyPost_ret (v:=.tuple #[.bool ok,.int .i64 (whyE r.v q.v)]) (by simp [results,Tryz.results6,go_sem]) rfl HX.out
end Go.Proofs.YtgnonbdkmmkdgaaGreatDoor
namespace Go.Proofs.YtgnonbdkmmkdgaaGreatDoor
open Go.RowKit Gx
theorem dist_le {L:Links} {z0:Int} {f g:Int->Option Nat} (F:Dist L z0 f) (G:Dist L z0 g):∀ (d:Nat) (x:Int),f x=some d->∃ e,g x=some e/\e<=d
 | 0,x,h=>by
   rcases F.d2 x 0 h with ⟨rfl,-⟩|⟨y,e,-,-,h3⟩
   ·exact ⟨0,G.d1,Nat.le_refl _⟩
   ·omega
 | d+1,x,h=>by
   rcases F.d2 x (d+1) h with ⟨-,h1⟩|⟨y,e,h1,h2,h3⟩
   ·omega
   ·obtain rfl:e=d:=by omega
    obtain ⟨e',h4,h5⟩:=dist_le F G e y h2
    obtain ⟨c,h6,h7⟩:=G.d3 y e' h4 x h1
    exact ⟨c,h6,by omega⟩
theorem dist_uq {L:Links} {z0:Int} {f g:Int->Option Nat} (F:Dist L z0 f) (G:Dist L z0 g):f=g:=by
 funext x
 cases hf:f x with
 | none =>
   cases hg:g x with
   | none=>rfl
   | some e =>
     obtain ⟨d,hd,-⟩:=dist_le G F e x hg
     rw [hf] at hd;cases hd
 | some d =>
   obtain ⟨e,he,h1⟩:=dist_le F G d x hf
   obtain ⟨d',hd,h2⟩:=dist_le G F e x he
   rw [hf] at hd
   obtain rfl:=Option.some.inj hd
   rw [he,Nat.le_antisymm h1 h2]
theorem way_uq {L:Links} {f:Int->Option Nat} {b:Int} (hb:f b=some 0):∀ {o p:List Nat} {a:Int},Way L f o a b->Way L f p a b->o=p
 | [],[],_,_,_=>rfl
 | [],i::p,a,h,⟨y,_,⟨_,e,_,_,h3⟩,_⟩=>by
   obtain rfl:a=b:=h
   rw [hb] at h3;cases h3
 | i::o,[],a,⟨y,_,⟨_,e,_,_,h3⟩,_⟩,h=>by
   obtain rfl:a=b:=h
   rw [hb] at h3;cases h3
 | i::o,j::p,a,⟨y,h1,h2,h3,h4⟩,⟨z,g1,g2,g3,g4⟩=>by
   have hij:i=j:=by
    rcases Nat.lt_trichotomy i j with h|h|h
    ·exact absurd h2 (g3 i h)
    ·exact h
    ·exact absurd g2 (h3 j h)
   subst hij
   rw [h1] at g1
   obtain rfl:y=z:=by have:=Option.some.inj g1;exact congrArg Prod.snd this
   rw [way_uq hb h4 g4]
inductive WayR:List Mv->Ty->Ty->Prop
 | nil (a:Ty):WayR [] a a
 | cons (m:Mv) (l:List Mv) (a b u:Ty) (hm:checkM m=0) (ht:TypedR m m.p a b) (hb:fitsE b=0) (hl:WayR l b u):WayR (m::l) a u
theorem WayR.snoc {l:List Mv} {a b u:Ty} {m:Mv} (h:WayR l a b) (hm:checkM m=0) (ht:TypedR m m.p b u) (hu:fitsE u=0):WayR (l++[m]) a u:=by
 induction h with
 | nil a=>exact .cons m [] a u u hm ht hu (.nil u)
 | cons m' l a b c hm' ht' hb hl ih=>exact .cons m' _ a b u hm' ht' hb (ih ht)
theorem WayR.fits {l:List Mv} {a u:Ty} (h:WayR l a u) (ha:fitsE a=0):fitsE u=0:=by
 induction h with
 | nil a=>exact ha
 | cons m l a b u hm ht hb hl ih=>exact ih hb
theorem WayR.step {m:Mv} {l:List Mv} {a u:Ty} {v:V} (h:WayR (m::l) a u) (ha:fitsE a=0) (hx:Fit false a v) (hw:∀ d,WfD d v) (hv:chkV v=0) :
 checkM m=0/\∃ z b,stepV m v=.ok z/\(chkV z=0\/chkV z=2\/chkV z=5)/\Fit false b z/\fitsE b=0/\WayR l b u:=by
 cases h with
 | cons _ _ _ b _ hm ht hb hl =>
   obtain ⟨z,h1,h2,h3⟩:=step_fit ht (fitsE_seen ha).uq hx hw hv (checkM_ok hm).1
   exact ⟨hm,z,b,h1,h3,h2,hb,hl⟩
theorem VAt.wfD {w:World} {B:Nat->Prop}:∀ (d:Nat) {q:Loc},VAt w B q->WfD d q.v
 | 0,_,_=>trivial
 | d+1,q,h=>by
   refine ⟨h.wf,fun c hc=>?_,fun c hc=>?_⟩
   ·obtain ⟨i,hi⟩:=List.mem_iff_getElem?.1 hc
    obtain ⟨b,o,-,-,-,hall⟩:=h.l.elem (List.length_pos_of_mem hc)
    obtain ⟨p,hp,hv,-⟩:=hall i c hi
    rw [<-hp];exact VAt.wfD d hv
   ·obtain ⟨i,hi⟩:=List.mem_iff_getElem?.1 hc
    obtain ⟨b,o,-,-,-,hall⟩:=h.e.entry (List.length_pos_of_mem hc)
    obtain ⟨-,-,p,hp,hv,-⟩:=hall i c hi
    rw [<-hp];exact VAt.wfD d hv
def ApPost (z:V) (w:World) (e:Ending) (w':World):Prop:=∃ y:Loc,e=.returned (.tuple #[y.val,.int .i64 (chkV z)])/\(chkV z=0->y.v=z/\VAt w' (fun b=>w.heap.size<=b) y)/\Below w.heap.size w w'
theorem applyV_any (q:Loc) (m:Lm) (z:V) (w:World) (hq:VAt w (fun _=>True) q) (hm:MvAt w (fun _=>True) m) (hT:Tabs w) (hP:∀ W,Below w.heap.size w W->P10 W) (hv:chkV q.v=0) (hk:checkM m.mv=0) (hz:stepV m.mv q.v=.ok z) :
 Calls Tryz.prog 41 #[q.val,m.val] w (ApPost z w):=by
 have hrb:=V3.start w m #[.int .i64 q.v.k,.int .i64 q.v.n,.int .u64 q.v.f,.string q.v.s,.slice q.ad q.v.l.length q.cap,.slice q.bd q.v.e.length q.dap]
 unfold Loc.val Lm.val
 obtain ⟨nl,hnl⟩:∃ m,q.v.l.length=m:=⟨_,rfl⟩
 obtain ⟨ne,hne⟩:∃ m,q.v.e.length=m:=⟨_,rfl⟩
 obtain ⟨cz,hcz⟩:∃ c,chkV z=c:=⟨_,rfl⟩
 rw [hnl,hne] at hrb ⊢
 have HNL:=hid hnl
 have HNE:=hid hne
 have HCZ:=hid hcz
 have HQ:=hid hq
 have HM:=hid hm
 have HT:=hid hT
 have HP:=hid hP
 have HV:=hid hv
 have HK:=hid hk
 have HZ:=hid hz
 clear hnl hne hcz hq hm hT hP hv hk hz
 go_enter Tryz.func41,Tryz.ntmps41
 go_upto_region 1 with fail
 generalize World.alloc (World.alloc (World.alloc w _) _) _=w1 at hrb ⊢
 have HR:=hid hrb
 clear hrb
 obtain ⟨a0,a1,a2,a3,a4,a5,-⟩:=six_cells HR.out.v.bx
 have hck:=Check_any q w1 (HT.out.keep HR.out.v.g) (HQ.out.keep HR.out.v.g)
 unfold CheckPost Loc.val at hck
 rw [HNL.out,HNE.out,HV.out] at hck
 have HCK:=hid hck
 clear hck
 go_wp2_with fail
 (with_reducible refine HCK.out.mono ?_)
 rintro e w2 ⟨rfl,hb2⟩
 have HR2:=hid (HR.out.keep hb2)
 clear a0 a1 a2 a3 a4 a5 hb2 HR HCK
 obtain ⟨b0,b1,b2,b3,b4,b5,b6,b7,b8,b9⟩:=ten_cells HR2.out.bm
 have hck:=stepCheck_any m w2 (HT.out.keep HR2.out.v.g) (HM.out.keep HR2.out.v.g)
 unfold CheckPost Lm.val at hck
 rw [HK.out] at hck
 have HCK:=hid hck
 clear hck
 go_wp2_with fail
 (with_reducible refine HCK.out.mono ?_)
 rintro e w3 ⟨rfl,hb3⟩
 have HR3:=hid (HR2.out.keep hb3)
 clear b0 b1 b2 b3 b4 b5 b6 b7 b8 b9 hb3 HR2 HCK
 obtain ⟨a0,a1,a2,a3,a4,a5,-⟩:=six_cells HR3.out.v.bx
 obtain ⟨b0,b1,b2,b3,b4,b5,b6,b7,b8,b9⟩:=ten_cells HR3.out.bm
 have hal:=along_any m (w.heap.size+1) m.p 20 q z m.pd m.pc (fun _=>True) w3 HZ.out (chk_gd 20 q.v 0 HV.out) (HQ.out.keep HR3.out.v.g) (HM.out.keep HR3.out.v.g) HR3.out.bm (HM.out.p.keep HR3.out.v.g) HM.out.c0 HM.out.c1 (fun W h'=>HP.out W (HR3.out.v.g.trans (h'.mono HR3.out.v.g.size)))
 unfold BecVPost Loc.val at hal
 rw [HNL.out,HNE.out] at hal
 have HAL:=hid hal
 clear hal
 go_wp2_with fail
 (with_reducible refine HAL.out.mono ?_)
 rintro e w4 ⟨y,rfl,hyv,hya,hb4⟩
 have HR4:=hid (HR3.out.keep hb4)
 have HYV:=hid hyv
 have hcb:=heap_alloc_new w4 (.cells #[.int .i64 y.v.k,.int .i64 y.v.n,.int .u64 y.v.f,.string y.v.s,.slice y.ad y.v.l.length y.cap,.slice y.bd y.v.e.length y.dap] 32)
 have hab:=(Below.refl w4.heap.size w4).alloc (Nat.le_refl _) (.cells #[.int .i64 y.v.k,.int .i64 y.v.n,.int .u64 y.v.f,.string y.v.s,.slice y.ad y.v.l.length y.cap,.slice y.bd y.v.e.length y.dap] 32)
 have HR5:=hid (HR4.out.keep hab)
 have HYA:=hid ((hya.weak (C:=fun _=>True) (fun _ _ _=>trivial)).keep hab)
 obtain ⟨xb,hxb⟩:∃ xb,w4.heap.size=xb:=⟨_,rfl⟩
 rw [hxb] at hcb
 have HCB:=hid hcb
 clear a0 a1 a2 a3 a4 a5 b0 b1 b2 b3 b4 b5 b6 b7 b8 b9 hyv hya hb4 hcb hab HR3 HAL
 go_upto_region 8 with fail
 generalize World.alloc w4 _=w5 at HR5 HYA HCB ⊢
 clear hxb HR4
 obtain ⟨d0,d1,d2,d3,d4,d5,-⟩:=six_cells HCB.out
 have hck:=Check_any y w5 (HT.out.keep HR5.out.v.g) HYA.out
 unfold CheckPost Loc.val at hck
 rw [HYV.out,HCZ.out] at hck
 rw [<-HYV.out] at hck
 have HCK:=hid hck
 clear hck
 go_wp2_with fail
 (with_reducible refine HCK.out.mono ?_)
 rintro e w6 ⟨rfl,hb6⟩
 have HR6:=hid (HR5.out.keep hb6)
 have HY6:=hid (HYA.out.keep hb6)
 have HC6:=hid ((hb6.block _ (Array.getElem?_eq_some_iff.1 HCB.out).1).trans HCB.out)
 clear d0 d1 d2 d3 d4 d5 hb6 HR5 HYA HCB HCK
 by_cases h0:cz=0
 case neg =>
  have e1:((cz:Int) != 0)=true:=by simp [h0]
  obtain ⟨p0,p1,p2,p3,p4,p5,pf⟩:=six_cells HR6.out.v.res
  have pf0:=pf 0
  have pf1:=pf 1
  have pf2:=pf 2
  have pf3:=pf 3
  have pf4:=pf 4
  have pf5:=pf 5
  obtain ⟨W9,hW9,hr9,hg9⟩:=val_all HR6.out.v.res (.int .i64 0) (.int .i64 0) (.int .u64 0) (.string ⟨#[]⟩) (.slice none 0 0) (.slice none 0 0)
  obtain ⟨q0,q1,q2,q3,q4,q5,-⟩:=six_cells hr9
  have HW9:=hid hW9
  have HPOST:Hid (ApPost z w (.returned (.tuple #[.agg #[.int .i64 0,.int .i64 0,.int .u64 0,.string ⟨#[]⟩,.slice none 0 0,.slice none 0 0],.int .i64 (cz:Int)])) W9):=hid ⟨⟨.zero,none,0,none,0⟩,by rw [HCZ.out];rfl,fun h=>absurd (HCZ.out.symm.trans h) h0,HR6.out.v.g.grown hg9 (by have:=HR6.out.v.vlt;omega) (fun b e=>by have:=Option.some.inj e;omega)⟩
  clear hW9 hr9 hg9 pf
  go_wp2_with fail
  rw [<-HW9.out]
  exact bodyPost_ret (v:=.tuple #[.agg #[.int .i64 0,.int .i64 0,.int .u64 0,.string ⟨#[]⟩,.slice none 0 0,.slice none 0 0],.int .i64 (cz:Int)]) (by simp [results,Tryz.results41,go_sem,q0,q1,q2,q3,q4,q5]) rfl HPOST.out
 obtain rfl:cz=0:=h0
 have e1:(((0:Nat):Int) != 0)=false:=rfl
 obtain ⟨d0,d1,d2,d3,d4,d5,-⟩:=six_cells HC6.out
 have how:=own_any' y w6 HY6.out
 unfold CopyPost Loc.val at how
 have HOW:=hid how
 clear how
 go_wp2_with fail
 (with_reducible refine HOW.out.mono ?_)
 rintro e w7 ⟨p,rfl,hpv,hpa,hb7⟩
 have HR7:=hid (HR6.out.keep hb7)
 have HPV:=hid hpv
 have h67:=hb7.size
 have hs6:=HR6.out.v.vlt
 have HPA:=hid (hpa.weak (C:=fun b=>w.heap.size+2<b) (fun b hb _=>by omega))
 clear d0 d1 d2 d3 d4 d5 hpv hpa hb7 HR6 HY6 HC6 HOW
 obtain ⟨p0,p1,p2,p3,p4,p5,pf⟩:=six_cells HR7.out.v.res
 have pf0:=pf 0
 have pf1:=pf 1
 have pf2:=pf 2
 have pf3:=pf 3
 have pf4:=pf 4
 have pf5:=pf 5
 obtain ⟨W9,hW9,hr9,hg9⟩:=val_all HR7.out.v.res (.int .i64 p.v.k) (.int .i64 p.v.n) (.int .u64 p.v.f) (.string p.v.s) (.slice p.ad p.v.l.length p.cap) (.slice p.bd p.v.e.length p.dap)
 obtain ⟨q0,q1,q2,q3,q4,q5,-⟩:=six_cells hr9
 have HW9:=hid hW9
 have HPOST:Hid (ApPost z w (.returned (.tuple #[.agg #[.int .i64 p.v.k,.int .i64 p.v.n,.int .u64 p.v.f,.string p.v.s,.slice p.ad p.v.l.length p.cap,.slice p.bd p.v.e.length p.dap],.int .i64 0])) W9):=hid ⟨p,by rw [HCZ.out];rfl,fun _=>⟨HPV.out.trans HYV.out,(HPA.out.grow hg9 (fun b e hb=>by have:=Option.some.inj e;omega)).weak (fun b hb _=>by omega)⟩,HR7.out.v.g.grown hg9 (by have:=HR7.out.v.vlt;omega) (fun b e=>by have:=Option.some.inj e;omega)⟩
 clear hW9 hr9 hg9 pf
 go_wp2_with fail
 rw [<-HW9.out]
 exact bodyPost_ret (v:=.tuple #[.agg #[.int .i64 p.v.k,.int .i64 p.v.n,.int .u64 p.v.f,.string p.v.s,.slice p.ad p.v.l.length p.cap,.slice p.bd p.v.e.length p.dap],.int .i64 0]) (by simp [results,Tryz.results41,go_sem,q0,q1,q2,q3,q4,q5]) rfl HPOST.out
theorem recT_any (d:Nat) (q:Lt) (m:Lm) (w:World) (S C:Nat->Prop) (hq:OwnT w S q) (hs:Seen d q.v) (hk:q.v.k=10) (hm:MvAt w (fun _=>True) m) (hT:Tabs w) (hSC:∀ b,S b->C b) (hC:∀ b,w.heap.size<=b->C b) :
 Calls Tryz.prog 49 #[q.val,m.val] w (TypedPost (fun u=>RecR m.mv q.v u) S C w):=by
 rcases askedF_ways q.v m.key with ⟨hn,h1⟩|h1|⟨f,hn,ho,hh,h1⟩
 ·by_cases h3:m.k=3
  ·exact rec_add d q m w S C hq hs hk hm hT hSC hC h3 hn
  ·exact rec_err d q m w S C hq hs hk hm hT hSC hC (.inr ⟨h3,by omega⟩)
 ·by_cases h3:m.k=3
  ·exact rec_err d q m w S C hq hs hk hm hT hSC hC (.inl ⟨h3,by omega⟩)
  ·exact rec_err d q m w S C hq hs hk hm hT hSC hC (.inr ⟨h3,by omega⟩)
 ·by_cases h3:m.k=3
  ·exact rec_err d q m w S C hq hs hk hm hT hSC hC (.inl ⟨h3,by omega⟩)
  ·by_cases k1:m.k=1
   ·exact rec_name d q m w S C hq hs hk hm hT hSC hC f h3 hn ho hh k1
   ·by_cases k2:m.k=2
    ·exact rec_drop d q m w S C hq hs hk hm hT hSC hC f h3 hn ho hh k2
    ·exact rec_bec d q m w S C hq hs hk hm hT hSC hC f h3 hn ho hh k1 k2
def TypedC (m:Lm) (p:List ByteArray):Prop:=∀ (d:Nat) (q:Lt) (pd:Option Addr) (pc:Nat) (w:World) (S C:Nat->Prop),OwnT w S q->Seen d q.v->MvAt w (fun _=>True) m->Tabs w->SRow w (fun _=>True) p (.slice pd p.length pc)->p.length<=pc->pc<=9223372036854775807->(∀ b,S b->C b)->(∀ b,w.heap.size<=b->C b) ->
 Calls Tryz.prog 29 #[q.val,.slice pd p.length pc,m.val] w (TypedPost (fun u=>TypedR m.mv p q.v u) S C w)
theorem typed_not (m:Lm) (p:List ByteArray) (d:Nat) (q:Lt) (pd:Option Addr) (pc:Nat) (w:World) (S C:Nat->Prop) (hq:OwnT w S q) (hs:Seen d q.v) (hm:MvAt w (fun _=>True) m) (hT:Tabs w) (hp:SRow w (fun _=>True) p (.slice pd p.length pc)) (hpc:p.length<=pc) (hpc1:pc<=9223372036854775807) (hSC:∀ b,S b->C b) (hC:∀ b,w.heap.size<=b->C b) (hk:q.v.k≠10):Calls Tryz.prog 29 #[q.val,.slice pd p.length pc,m.val] w (TypedPost (fun u=>TypedR m.mv p q.v u) S C w):=by
 have hrb:=RB.start w (fun _=>False) #[.int .i64 q.v.k,.int .i64 q.v.lo,.int .i64 q.v.hi,.slice q.xd q.v.x.length q.xc,.slice q.td q.v.t.length q.tc,.slice q.fd q.v.f.length q.fc,.string q.v.n] #[.int .i64 m.k,.slice m.pd m.p.length m.pc,.string m.key,.string m.dst,.int .i64 m.q.v.k,.int .i64 m.q.v.n,.int .u64 m.q.v.f,.string m.q.v.s,.slice m.q.ad m.q.v.l.length m.q.cap,.slice m.q.bd m.q.v.e.length m.q.dap]
 have hqt:TyAt w (fun _=>True) q:=hq.at_.weak (fun _ _ _=>trivial)
 unfold Lt.val Lm.val
 obtain ⟨nx,hnx⟩:∃ m,q.v.x.length=m:=⟨_,rfl⟩
 obtain ⟨nt,hnt⟩:∃ m,q.v.t.length=m:=⟨_,rfl⟩
 obtain ⟨nf,hnf⟩:∃ m,q.v.f.length=m:=⟨_,rfl⟩
 rw [hnx,hnt,hnf] at hrb ⊢
 have HNX:=hid hnx
 have HNT:=hid hnt
 have HNF:=hid hnf
 have HQ:=hid hq
 have HQT:=hid hqt
 have HM:=hid hm
 have HT:=hid hT
 have HS:=hid hs
 have HSC:=hid hSC
 have HC:=hid hC
 clear hnx hnt hnf hq hqt hm hT hs hSC hC
 have e10:(q.v.k != 10)=true:=by simp [hk]
 clear hp hpc hpc1 hk
 generalize p.length=np
 go_enter Tryz.func29,Tryz.ntmps29
 go_upto_region 1 with fail
 generalize World.alloc (World.alloc (World.alloc w _) _) _=w1 at hrb ⊢
 have HR:=hid hrb
 clear hrb
 obtain ⟨a0,a1,a2,a3,a4,a5,a6,-⟩:=ty_cells HR.out.bt
 obtain ⟨p0,p1,p2,p3,p4,p5,p6,pf⟩:=ty_cells HR.out.res
 have pf0:=pf 0
 have pf1:=pf 1
 have pf2:=pf 2
 have pf3:=pf 3
 have pf4:=pf 4
 have pf5:=pf 5
 have pf6:=pf 6
 obtain ⟨W9,hW9,hr9,hg9⟩:=seven_all HR.out.res (.int .i64 q.v.k) (.int .i64 q.v.lo) (.int .i64 q.v.hi) (.slice q.xd nx q.xc) (.slice q.td nt q.tc) (.slice q.fd nf q.fc) (.string q.v.n)
 obtain ⟨q0,q1,q2,q3,q4,q5,q6,-⟩:=ty_cells hr9
 have HW9:=hid hW9
 have HPOST:Hid (TypedPost (fun u=>TypedR m.mv p q.v u) S C w (.returned (.tuple #[.agg #[.int .i64 q.v.k,.int .i64 q.v.lo,.int .i64 q.v.hi,.slice q.xd nx q.xc,.slice q.td nt q.tc,.slice q.fd nf q.fc,.string q.v.n],.int .i64 11])) W9):=hid ⟨q,11,by unfold Lt.val;rw [HNX.out,HNT.out,HNF.out],(fun h=>by cases h),HR.out.weak.fin hg9⟩
 clear hW9 hr9 hg9 pf
 go_wp2_with fail
 rw [<-HW9.out]
 exact bodyPost_ret (v:=.tuple #[.agg #[.int .i64 q.v.k,.int .i64 q.v.lo,.int .i64 q.v.hi,.slice q.xd nx q.xc,.slice q.td nt q.tc,.slice q.fd nf q.fc,.string q.v.n],.int .i64 11]) (by simp [results,Tryz.results29,go_sem,q0,q1,q2,q3,q4,q5,q6]) rfl HPOST.out
theorem typed_nil (m:Lm):TypedC m []:=by
 intro d q pd pc w S C hq hs hm hT hp hpc hpc1 hSC hC
 by_cases hk:q.v.k=10
 case neg=>exact typed_not m [] d q pd pc w S C hq hs hm hT hp hpc hpc1 hSC hC hk
 have hrb:=RB.start w (fun _=>False) #[.int .i64 q.v.k,.int .i64 q.v.lo,.int .i64 q.v.hi,.slice q.xd q.v.x.length q.xc,.slice q.td q.v.t.length q.tc,.slice q.fd q.v.f.length q.fc,.string q.v.n] #[.int .i64 m.k,.slice m.pd m.p.length m.pc,.string m.key,.string m.dst,.int .i64 m.q.v.k,.int .i64 m.q.v.n,.int .u64 m.q.v.f,.string m.q.v.s,.slice m.q.ad m.q.v.l.length m.q.cap,.slice m.q.bd m.q.v.e.length m.q.dap]
 have hqt:TyAt w (fun _=>True) q:=hq.at_.weak (fun _ _ _=>trivial)
 unfold Lt.val Lm.val
 obtain ⟨nx,hnx⟩:∃ m,q.v.x.length=m:=⟨_,rfl⟩
 obtain ⟨nt,hnt⟩:∃ m,q.v.t.length=m:=⟨_,rfl⟩
 obtain ⟨nf,hnf⟩:∃ m,q.v.f.length=m:=⟨_,rfl⟩
 rw [hnx,hnt,hnf] at hrb ⊢
 have HNX:=hid hnx
 have HNT:=hid hnt
 have HNF:=hid hnf
 have HQ:=hid hq
 have HQT:=hid hqt
 have HM:=hid hm
 have HT:=hid hT
 have HS:=hid hs
 have HSC:=hid hSC
 have HC:=hid hC
 clear hnx hnt hnf hq hqt hm hT hs hSC hC
 have e10:(q.v.k != 10)=false:=by simp [hk]
 rw [show ([]:List ByteArray).length=0 from rfl]
 have HK:=hid hk
 clear hp hpc hpc1 hk
 go_enter Tryz.func29,Tryz.ntmps29
 go_upto_region 1 with fail
 generalize World.alloc (World.alloc (World.alloc w _) _) _=w1 at hrb ⊢
 have HR:=hid hrb
 clear hrb
 obtain ⟨a0,a1,a2,a3,a4,a5,a6,-⟩:=ty_cells HR.out.bt
 obtain ⟨b0,b1,b2,b3,b4,b5,b6,b7,b8,b9⟩:=ten_cells HR.out.bm
 have hs2:=HR.out.s
 have hrc:=recT_any d q m w1 (fun b=>S b/\b<w.heap.size) (fun b=>C b/\b≠w.heap.size+2) ((HQ.out.weak (C:=fun b=>S b/\b<w.heap.size) (fun b h hl=>⟨h,hl⟩)).keep HR.out.below) HS.out HK.out (HM.out.keep HR.out.below) (HT.out.keep HR.out.below) (fun b hb=>⟨HSC.out b hb.1,by have:=hb.2;omega⟩) (fun b hb=>⟨HC.out b (by omega),by omega⟩)
 unfold TypedPost Lt.val Lm.val at hrc
 rw [HNX.out,HNT.out,HNF.out] at hrc
 have HRC:=hid hrc
 clear hrc
 go_upto_region 4 with fail
 go_wp2_with fail
 (with_reducible refine HRC.out.mono ?_)
 rintro e w4 ⟨x,code,rfl,hgood,hkp⟩
 have HR4:=hid (HR.out.weak.kps (S:=S) hkp (fun b hb=>⟨hb.2,hb.1⟩))
 have HGD:=hid hgood
 clear a0 a1 a2 a3 a4 a5 a6 b0 b1 b2 b3 b4 b5 b6 b7 b8 b9 HRC hgood hkp
 obtain ⟨p0,p1,p2,p3,p4,p5,p6,pf⟩:=ty_cells HR4.out.res
 have pf0:=pf 0
 have pf1:=pf 1
 have pf2:=pf 2
 have pf3:=pf 3
 have pf4:=pf 4
 have pf5:=pf 5
 have pf6:=pf 6
 obtain ⟨W9,hW9,hr9,hg9⟩:=seven_all HR4.out.res (.int .i64 x.v.k) (.int .i64 x.v.lo) (.int .i64 x.v.hi) (.slice x.xd x.v.x.length x.xc) (.slice x.td x.v.t.length x.tc) (.slice x.fd x.v.f.length x.fc) (.string x.v.n)
 obtain ⟨q0,q1,q2,q3,q4,q5,q6,-⟩:=ty_cells hr9
 have HW9:=hid hW9
 have HPOST:Hid (TypedPost (fun u=>TypedR m.mv [] q.v u) S C w (.returned (.tuple #[.agg #[.int .i64 x.v.k,.int .i64 x.v.lo,.int .i64 x.v.hi,.slice x.xd x.v.x.length x.xc,.slice x.td x.v.t.length x.tc,.slice x.fd x.v.f.length x.fc,.string x.v.n],.int .i64 code])) W9):=hid ⟨x,code,rfl,fun h0=>⟨⟨HK.out,(HGD.out h0).1⟩,(((HGD.out h0).2.grow hg9 (fun b e hb=>hb.2 (Option.some.inj e).symm))).weak (fun b hb _=>hb.1)⟩,HR4.out.fin hg9⟩
 clear hW9 hr9 hg9 pf
 go_wp2_with fail
 rw [<-HW9.out]
 exact bodyPost_ret (v:=.tuple #[.agg #[.int .i64 x.v.k,.int .i64 x.v.lo,.int .i64 x.v.hi,.slice x.xd x.v.x.length x.xc,.slice x.td x.v.t.length x.tc,.slice x.fd x.v.f.length x.fc,.string x.v.n],.int .i64 code]) (by simp [results,Tryz.results29,go_sem,q0,q1,q2,q3,q4,q5,q6]) rfl HPOST.out
theorem plain_any (q:Lt) (w:World) (hq:TyAt w (fun _=>True) q) (hT:Tabs w):Calls Tryz.prog 27 #[q.val] w (IntB (fitsE q.v) w):=by
 unfold Lt.val
 have hb:=(Below.refl w.heap.size w).alloc (Nat.le_refl _) (.cells #[.int .i64 q.v.k,.int .i64 q.v.lo,.int .i64 q.v.hi,.slice q.xd q.v.x.length q.xc,.slice q.td q.v.t.length q.tc,.slice q.fd q.v.f.length q.fc,.string q.v.n] 27)
 have hc:=heap_alloc_new w (.cells #[.int .i64 q.v.k,.int .i64 q.v.lo,.int .i64 q.v.hi,.slice q.xd q.v.x.length q.xc,.slice q.td q.v.t.length q.tc,.slice q.fd q.v.f.length q.fc,.string q.v.n] 27)
 have hcall:=fitsCheck_any q _ (hq.keep hb) (hT.keep hb)
 have HB:=hid hb
 have HC:=hid hcall
 generalize fitsE q.v=r at *
 clear hb hq hT hcall
 go_enter Tryz.func27,Tryz.ntmps27
 go_upto_region 1 with fail
 generalize World.alloc w _=w1 at hc HB HC ⊢
 obtain ⟨c0,c1,c2,c3,c4,c5,c6,-⟩:=ty_cells hc
 clear hc
 go_wp2_with fail
 (with_reducible refine HC.out.mono ?_)
 rintro e w2 ⟨rfl,hb2⟩
 have HB2:=hid (HB.out.trans (hb2.mono HB.out.size))
 clear hb2
 go_wp2_with fail
 try go_ret
 exact ⟨rfl,HB2.out⟩
end Go.Proofs.YtgnonbdkmmkdgaaGreatDoor
