/-
  Lemmas for the statement: plain laws, and what functions answer; the conditions stand in each.
-/
import Derived.RegionTactic
import Derived.Test.YtldhmfkojaekfaaGreatDoorShowBackAllPartC
set_option linter.unusedVariables false
set_option linter.unusedSimpArgs false
namespace Go.Proofs.YtldhmfkojaekfaaGreatDoor
open Go.RowKit Gx
set_option maxRecDepth 100000
def EntOk (R:Nat) (ta:Option Addr) (tc:Nat) (S:ByteArray) (X:TS) (deep:Int) (val:PS->PS×Nd):Prop :=
 ∀ (s:PS) (w:World),RS w R ta tc S X s->s.bad=0->s.i<=X.T.length->Calls Tryz.prog 71 #[.pointer (some ⟨R,0,none⟩),.int .i64 deep] w (NP R ta tc S X (val s) w)
set_option maxHeartbeats 4000000 in
theorem clos_entry (b2 b3:Nat) (deep:Int) (kid:PS->PS×Nd) (R:Nat) (ta:Option Addr) (tc:Nat) (S:ByteArray) (X:TS) (w0:World) (h2:w0.heap[b2]?=some (.cells #[.pointer (some ⟨R,0,none⟩)] 90)) (h3:w0.heap[b3]?=some (.cells #[.int .i64 deep] 3))
 (n2:b2≠R) (n3:b3≠R) (hd0:0<=deep) (hd1:deep<=20) (hk:EntOk R ta tc S X (deep+1) kid):KidOk R ta tc S X w0 70 #[.pointer (some ⟨b2,0,none⟩),.pointer (some ⟨b3,0,none⟩)] kid:=by
 intro s w hg h hb hi
 have hRl:=h.lt
 have hz2:=(Array.getElem?_eq_some_iff.1 h2).1
 have hz3:=(Array.getElem?_eq_some_iff.1 h3).1
 have e2:w.heap[b2]?=_:=(hg.block b2 hz2 (fun e=>n2 (Option.some.inj e))).trans h2
 have e3:w.heap[b3]?=_:=(hg.block b3 hz3 (fun e=>n3 (Option.some.inj e))).trans h3
 have c2:w.cell? ⟨b2,0,none⟩=some (.pointer (some ⟨R,0,none⟩)):=by simp [World.cell?,e2]
 have c3:w.cell? ⟨b3,0,none⟩=some (.int .i64 deep):=by simp [World.cell?,e3]
 have hl2:b2<w.heap.size:=(Array.getElem?_eq_some_iff.1 e2).1
 have hl3:b3<w.heap.size:=(Array.getElem?_eq_some_iff.1 e3).1
 have H0:=Lib.hid h
 have HC:=Lib.hid (hk s _ (h.alloc (.cells #[.int .i64 0,.int .i64 0,.int .i64 0,.slice none 0 0] 53)) hb hi)
 clear hg h2 h3 e2 e3 h hk hb
 go_enter Tryz.func70,Tryz.ntmps70
 go_wp2_with fail
 refine HC.out.mono ?_
 rintro e w3 ⟨vs,rfl,hk3,hr3,hg3⟩
 obtain ⟨so,sc,rfl⟩:=hk3.form
 have hh3:w3.heap[w.heap.size]?=some (.cells #[.int .i64 0,.int .i64 0,.int .i64 0,.slice none 0 0] 53) :=
  (hg3.block _ (by simp) (fun e=>by have:=Option.some.inj e;omega)).trans (heap_alloc_last w _)
 have hk4:=hk3.weak (C:=fun b=>w.heap.size<b) (fun b hb _=>by rw [World.size_alloc] at hb;omega)
 have hg4:=(grown_alloc w (.cells #[.int .i64 0,.int .i64 0,.int .i64 0,.slice none 0 0] 53) (some R)).trans hg3
 clear hk3 hg3 c2 c3
 obtain ⟨b0,b1,b2,b3,bf⟩:=node_cells hh3
 have bf0:=bf 0
 have bf1:=bf 1
 have bf2:=bf 2
 have bf3:=bf 3
 have HH3:=Lib.hid hh3
 have HR3:=Lib.hid hr3
 have HK4:=Lib.hid hk4
 have HG4:=Lib.hid hg4
 obtain ⟨nd,hnd⟩:∃ nd,(kid s).2=nd:=⟨_,rfl⟩
 have HND:=Lib.hid hnd
 rw [hnd] at HK4 ⊢
 clear bf hh3 hr3 hk4 hg4 hnd
 go_wp2_with fail
 obtain ⟨h7,g7⟩:=store4 HH3.out (.int .i64 nd.k) (.int .i64 nd.a) (.int .i64 nd.b) (.slice so nd.kids.length sc)
 generalize ((((w3.setCell ⟨w.heap.size,0,none⟩ (.int .i64 nd.k)).setCell ⟨w.heap.size,1,none⟩ (.int .i64 nd.a)).setCell ⟨w.heap.size,2,none⟩ (.int .i64 nd.b)).setCell ⟨w.heap.size,3,none⟩ (.slice so nd.kids.length sc))=w7 at h7 g7 ⊢
 clear b0 b1 b2 b3 bf0 bf1 bf2 bf3
 obtain ⟨n0,n1,n2,n3,-⟩:=node_cells h7
 exact bodyPost_ret (v:=.agg #[.int .i64 nd.k,.int .i64 nd.a,.int .i64 nd.b,.slice so nd.kids.length sc]) (by simp [results,Tryz.results70,go_sem,n0,n1,n2,n3]) rfl
  (by rw [<-HND.out];rw [<-HND.out] at HK4;exact ⟨_,rfl,(HK4.out.grow g7 (fun b e hb=>by have:=Option.some.inj e;omega)).weak (fun b hb _=>by omega),RS.other H0.out HR3.out g7 (Nat.le_refl _),grown_fresh HG4.out g7 (Nat.le_refl _)⟩)
set_option maxHeartbeats 4000000 in
theorem clos_value (b2 b3:Nat) (deep:Int) (kid:PS->PS×Nd) (R:Nat) (ta:Option Addr) (tc:Nat) (S:ByteArray) (X:TS) (w0:World) (h2:w0.heap[b2]?=some (.cells #[.pointer (some ⟨R,0,none⟩)] 90)) (h3:w0.heap[b3]?=some (.cells #[.int .i64 deep] 3))
 (n2:b2≠R) (n3:b3≠R) (hd0:0<=deep) (hd1:deep<=20) (hk:ValOk R ta tc S X (deep+1) kid):KidOk R ta tc S X w0 72 #[.pointer (some ⟨b2,0,none⟩),.pointer (some ⟨b3,0,none⟩)] kid:=by
 intro s w hg h hb hi
 have hRl:=h.lt
 have hz2:=(Array.getElem?_eq_some_iff.1 h2).1
 have hz3:=(Array.getElem?_eq_some_iff.1 h3).1
 have e2:w.heap[b2]?=_:=(hg.block b2 hz2 (fun e=>n2 (Option.some.inj e))).trans h2
 have e3:w.heap[b3]?=_:=(hg.block b3 hz3 (fun e=>n3 (Option.some.inj e))).trans h3
 have c2:w.cell? ⟨b2,0,none⟩=some (.pointer (some ⟨R,0,none⟩)):=by simp [World.cell?,e2]
 have c3:w.cell? ⟨b3,0,none⟩=some (.int .i64 deep):=by simp [World.cell?,e3]
 have hl2:b2<w.heap.size:=(Array.getElem?_eq_some_iff.1 e2).1
 have hl3:b3<w.heap.size:=(Array.getElem?_eq_some_iff.1 e3).1
 have H0:=Lib.hid h
 have HC:=Lib.hid (hk s _ (h.alloc (.cells #[.int .i64 0,.int .i64 0,.int .i64 0,.slice none 0 0] 53)) hb hi)
 clear hg h2 h3 e2 e3 h hk hb
 go_enter Tryz.func72,Tryz.ntmps72
 go_wp2_with fail
 refine HC.out.mono ?_
 rintro e w3 ⟨vs,rfl,hk3,hr3,hg3⟩
 obtain ⟨so,sc,rfl⟩:=hk3.form
 have hh3:w3.heap[w.heap.size]?=some (.cells #[.int .i64 0,.int .i64 0,.int .i64 0,.slice none 0 0] 53) :=
  (hg3.block _ (by simp) (fun e=>by have:=Option.some.inj e;omega)).trans (heap_alloc_last w _)
 have hk4:=hk3.weak (C:=fun b=>w.heap.size<b) (fun b hb _=>by rw [World.size_alloc] at hb;omega)
 have hg4:=(grown_alloc w (.cells #[.int .i64 0,.int .i64 0,.int .i64 0,.slice none 0 0] 53) (some R)).trans hg3
 clear hk3 hg3 c2 c3
 obtain ⟨b0,b1,b2,b3,bf⟩:=node_cells hh3
 have bf0:=bf 0
 have bf1:=bf 1
 have bf2:=bf 2
 have bf3:=bf 3
 have HH3:=Lib.hid hh3
 have HR3:=Lib.hid hr3
 have HK4:=Lib.hid hk4
 have HG4:=Lib.hid hg4
 obtain ⟨nd,hnd⟩:∃ nd,(kid s).2=nd:=⟨_,rfl⟩
 have HND:=Lib.hid hnd
 rw [hnd] at HK4 ⊢
 clear bf hh3 hr3 hk4 hg4 hnd
 go_wp2_with fail
 obtain ⟨h7,g7⟩:=store4 HH3.out (.int .i64 nd.k) (.int .i64 nd.a) (.int .i64 nd.b) (.slice so nd.kids.length sc)
 generalize ((((w3.setCell ⟨w.heap.size,0,none⟩ (.int .i64 nd.k)).setCell ⟨w.heap.size,1,none⟩ (.int .i64 nd.a)).setCell ⟨w.heap.size,2,none⟩ (.int .i64 nd.b)).setCell ⟨w.heap.size,3,none⟩ (.slice so nd.kids.length sc))=w7 at h7 g7 ⊢
 clear b0 b1 b2 b3 bf0 bf1 bf2 bf3
 obtain ⟨n0,n1,n2,n3,-⟩:=node_cells h7
 exact bodyPost_ret (v:=.agg #[.int .i64 nd.k,.int .i64 nd.a,.int .i64 nd.b,.slice so nd.kids.length sc]) (by simp [results,Tryz.results72,go_sem,n0,n1,n2,n3]) rfl
  (by rw [<-HND.out];rw [<-HND.out] at HK4;exact ⟨_,rfl,(HK4.out.grow g7 (fun b e hb=>by have:=Option.some.inj e;omega)).weak (fun b hb _=>by omega),RS.other H0.out HR3.out g7 (Nat.le_refl _),grown_fresh HG4.out g7 (Nat.le_refl _)⟩)
structure VR (w:World) (R:Nat) (ta:Option Addr) (tc:Nat) (S:ByteArray) (X:TS) (deep:Int) (u:PS) (wx:World):Prop where
 rs:RS wx R ta tc S X u
 bp:wx.heap[w.heap.size]?=some (.cells #[.pointer (some ⟨R,0,none⟩)] 90)
 bd:wx.heap[w.heap.size+1]?=some (.cells #[.int .i64 deep] 3)
 res:wx.heap[w.heap.size+2]?=some (.cells #[.int .i64 0,.int .i64 0,.int .i64 0,.slice none 0 0] 53)
 gr:w.grownBy wx (some R)
section
variable {w:World} {R:Nat} {ta:Option Addr} {tc:Nat} {S:ByteArray} {X:TS} {deep:Int} {u u2:PS} {wx w2:World}
theorem VR.size (h:VR w R ta tc S X deep u wx):w.heap.size+3<=wx.heap.size:=by
 have:=(Array.getElem?_eq_some_iff.1 h.res).1
 omega
theorem VR.cells (h:VR w R ta tc S X deep u wx):wx.cell? ⟨w.heap.size,0,none⟩=some (.pointer (some ⟨R,0,none⟩))/\wx.cell? ⟨w.heap.size+1,0,none⟩=some (.int .i64 deep):=by
 have h1:=h.bp
 have h2:=h.bd
 exact ⟨by simp [World.cell?,h1],by simp [World.cell?,h2]⟩
theorem VR.grow (hR:R<w.heap.size) (h:VR w R ta tc S X deep u wx) (hr:RS w2 R ta tc S X u2) (hg:wx.grownBy w2 (some R)):VR w R ta tc S X deep u2 w2:=by
 have hs:=h.size
 exact ⟨hr,(hg.block _ (by omega) (fun e=>by have:=Option.some.inj e;omega)).trans h.bp,(hg.block _ (by omega) (fun e=>by have:=Option.some.inj e;omega)).trans h.bd,(hg.block _ (by omega) (fun e=>by have:=Option.some.inj e;omega)).trans h.res,h.gr.trans hg⟩
theorem VR.drewN (hR:R<w.heap.size) (h:VR w R ta tc S X deep u wx) (n:Nat):VR w R ta tc S X deep u (wx.drewN n) :=
 h.grow hR (h.rs.drewN n) (grown_drew _ _ _)
theorem VR.start (h:RS w R ta tc S X u):VR w R ta tc S X deep u (((w.alloc (.cells #[.pointer (some ⟨R,0,none⟩)] 90)).alloc (.cells #[.int .i64 deep] 3)).alloc (.cells #[.int .i64 0,.int .i64 0,.int .i64 0,.slice none 0 0] 53)):=by
 refine ⟨((h.alloc _).alloc _).alloc _,?_,?_,?_,((grown_alloc _ _ _).trans (grown_alloc _ _ _)).trans (grown_alloc _ _ _)⟩
 ·exact (alloc_old_gx _ _ (by simp only [World.size_alloc];omega)).trans ((alloc_old_gx _ _ (by simp only [World.size_alloc];omega)).trans (heap_alloc_last w _))
 ·refine (alloc_old_gx _ _ (by simp only [World.size_alloc];omega)).trans ?_
  have:=heap_alloc_last (w.alloc (.cells #[.pointer (some ⟨R,0,none⟩)] 90)) (.cells #[.int .i64 deep] 3)
  rwa [World.size_alloc] at this
 ·have:=heap_alloc_last ((w.alloc (.cells #[.pointer (some ⟨R,0,none⟩)] 90)).alloc (.cells #[.int .i64 deep] 3)) (.cells #[.int .i64 0,.int .i64 0,.int .i64 0,.slice none 0 0] 53)
  rwa [World.size_alloc,World.size_alloc] at this
theorem VR.fin {s0:PS} {kids:List Nd} {vs:Value} {w7:World} (h0:RS w R ta tc S X s0) (h:VR w R ta tc S X deep u wx) (hn:KidsAt wx (fun b=>w.heap.size+3<=b) kids vs) (hg:wx.grownBy w7 (some (w.heap.size+2))) :
 KidsAt w7 (fun b=>w.heap.size<=b) kids vs/\RS w7 R ta tc S X u/\w.grownBy w7 (some R) :=
 ⟨(hn.grow hg (fun b e hb=>by have:=Option.some.inj e;omega)).weak (fun b hb _=>by omega),RS.other h0 h.rs hg (by omega),grown_fresh h.gr hg (by omega)⟩
end
set_option maxHeartbeats 8000000 in
theorem value_zero (r:Nat) (deep:Int) (R:Nat) (ta:Option Addr) (tc:Nat) (S:ByteArray) (X:TS) (hT:X.T.length<=20000) (hpos0:∀ j,j<X.T.length->X.pos j<X.l.length) (hr30:r<=20) (hd:deep=20) :
 ValOk R ta tc S X deep (valueS X 0):=by
 intro s w h hb0 hi
 have hRl:=h.lt
 have H0:=Lib.hid h
 obtain ⟨u,hu⟩:∃ u,s.skip X=u:=⟨_,rfl⟩
 obtain ⟨mv,hmv⟩:∃ mv:Int,((u.mark X).toNat:Int)=mv:=⟨_,rfl⟩
 have hui:u.i<=X.T.length:=by rw [<-hu];exact (skip_fine X _).2.1 hi
 have hb:u.bad=0:=by rw [<-hu];exact hb0
 have HV1:=Lib.hid (VR.start (deep:=deep) h)
 have HMk:=Lib.hid (mark_of u mv R ta tc S X s _ HV1.out.rs hT (by omega) hpos0 hu hmv)
 have hpos:=Lib.hid hpos0
 subst hd
 have hvs:valueS X 0 s=(if u.begins X then (u.fail X 5,.none) else leafS X 1 u):=by rw [<-hu];rfl
 have HVS:=Lib.hid hvs
 have HFL:Hid (∀ wz,RS wz R ta tc S X u->Calls Tryz.prog 46 #[.pointer (some ⟨R,0,none⟩),.int .i64 5] wz (RP R ta tc S X (u.fail X 5) wz)):=Lib.hid (fun wz hz=>fail_any 5 R ta tc S X u wz hz hT (by omega))
 clear h hu hpos0 hb0 hvs
 by_cases h1:u.mark X=123
 ·have e1:mv=123:=by rw [<-hmv,h1];rfl
  have t1:(mv==123)=true:=by rw [e1];rfl
  have hlt:=mark_lt h1 (by decide)
  have HEQ:=Lib.hid (show valueS X 0 s=(u.fail X 5,.none) from by rw [HVS.out,if_pos (by unfold PS.begins;rw [h1];rfl)])
  clear hmv HVS hb
  go_enter Tryz.func44,Tryz.ntmps44
  go_wp2_with fail
  refine HMk.out.mono ?_
  rintro e w2 ⟨rfl,hr2,hg2⟩
  have HV2:=Lib.hid (HV1.out.grow hRl hr2 hg2)
  clear hr2 hg2 HMk HV1
  obtain ⟨v0,v1⟩:=HV2.out.cells
  obtain ⟨c0,c1,c2,c3,c4,fz⟩:=HV2.out.rs.cells
  go_wp2_with fail
  go_quiet (fail)
  clear h1 e1
  have HV3:=Lib.hid (HV2.out.drewN hRl nq)
  clear HV2 c0 c1 c2 c3 c4 fz v0 v1
  obtain ⟨v0,v1⟩:=HV3.out.cells
  go_wp2_with fail
  refine HFL.out (w2.drewN nq) HV3.out.rs |>.mono ?_
  rintro e w4 ⟨rfl,hr4,hg4⟩
  have HV4:=Lib.hid (HV3.out.grow hRl hr4 hg4)
  clear hr4 hg4 v0 v1
  obtain ⟨b0,b1,b2,b3,bf⟩:=node_cells HV4.out.res
  have bf0:=bf 0
  have bf1:=bf 1
  have bf2:=bf 2
  have bf3:=bf 3
  clear bf
  go_wp2_with fail
  obtain ⟨h7,g7⟩:=store4 HV4.out.res (.int .i64 0) (.int .i64 0) (.int .i64 0) (.slice none 0 0)
  generalize ((((w4.setCell ⟨w.heap.size+2,0,none⟩ (.int .i64 0)).setCell ⟨w.heap.size+2,1,none⟩ (.int .i64 0)).setCell ⟨w.heap.size+2,2,none⟩ (.int .i64 0)).setCell ⟨w.heap.size+2,3,none⟩ (.slice none 0 0))=w7 at h7 g7 ⊢
  obtain ⟨f0,f1,f2⟩:=HV4.out.fin H0.out .nil g7
  clear b0 b1 b2 b3 bf0 bf1 bf2 bf3
  obtain ⟨n0,n1,n2,n3,-⟩:=node_cells h7
  exact bodyPost_ret (v:=.agg #[.int .i64 0,.int .i64 0,.int .i64 0,.slice none 0 0]) (by simp [results,Tryz.results44,go_sem,n0,n1,n2,n3]) rfl
   (by rw [HEQ.out];exact ⟨_,rfl,f0,f1,f2⟩)
 ·have n1:¬ mv=123:=fun e=>h1 (UInt8.toNat_inj.1 (by have h2:=hmv.trans e;exact_mod_cast h2))
  have t1:(mv==123)=false:=by simpa using n1
  by_cases h2:u.mark X=91
  ·have e1:mv=91:=by rw [<-hmv,h2];rfl
   have t2:(mv==91)=true:=by rw [e1];rfl
   have hlt:=mark_lt h2 (by decide)
   clear n1
   have HEQ:=Lib.hid (show valueS X 0 s=(u.fail X 5,.none) from by rw [HVS.out,if_pos (by unfold PS.begins;rw [h2];rfl)])
   clear hmv HVS hb
   go_enter Tryz.func44,Tryz.ntmps44
   go_wp2_with fail
   refine HMk.out.mono ?_
   rintro e w2 ⟨rfl,hr2,hg2⟩
   have HV2:=Lib.hid (HV1.out.grow hRl hr2 hg2)
   clear hr2 hg2 HMk HV1
   obtain ⟨v0,v1⟩:=HV2.out.cells
   obtain ⟨c0,c1,c2,c3,c4,fz⟩:=HV2.out.rs.cells
   go_wp2_with fail
   go_quiet (fail)
   clear h1 h2 e1
   have HV3:=Lib.hid (HV2.out.drewN hRl nq)
   clear HV2 c0 c1 c2 c3 c4 fz v0 v1
   obtain ⟨v0,v1⟩:=HV3.out.cells
   go_wp2_with fail
   refine HFL.out (w2.drewN nq) HV3.out.rs |>.mono ?_
   rintro e w4 ⟨rfl,hr4,hg4⟩
   have HV4:=Lib.hid (HV3.out.grow hRl hr4 hg4)
   clear hr4 hg4 v0 v1
   obtain ⟨b0,b1,b2,b3,bf⟩:=node_cells HV4.out.res
   have bf0:=bf 0
   have bf1:=bf 1
   have bf2:=bf 2
   have bf3:=bf 3
   clear bf
   go_wp2_with fail
   obtain ⟨h7,g7⟩:=store4 HV4.out.res (.int .i64 0) (.int .i64 0) (.int .i64 0) (.slice none 0 0)
   generalize ((((w4.setCell ⟨w.heap.size+2,0,none⟩ (.int .i64 0)).setCell ⟨w.heap.size+2,1,none⟩ (.int .i64 0)).setCell ⟨w.heap.size+2,2,none⟩ (.int .i64 0)).setCell ⟨w.heap.size+2,3,none⟩ (.slice none 0 0))=w7 at h7 g7 ⊢
   obtain ⟨f0,f1,f2⟩:=HV4.out.fin H0.out .nil g7
   clear b0 b1 b2 b3 bf0 bf1 bf2 bf3
   obtain ⟨n0,n1,n2,n3,-⟩:=node_cells h7
   exact bodyPost_ret (v:=.agg #[.int .i64 0,.int .i64 0,.int .i64 0,.slice none 0 0]) (by simp [results,Tryz.results44,go_sem,n0,n1,n2,n3]) rfl
    (by rw [HEQ.out];exact ⟨_,rfl,f0,f1,f2⟩)
  ·have n2:¬ mv=91:=fun e=>h2 (UInt8.toNat_inj.1 (by have h3:=hmv.trans e;exact_mod_cast h3))
   have t2:(mv==91)=false:=by simpa using n2
   clear n1 n2
   by_cases hlt:u.i<X.T.length
   ·have t3:decide ((u.i:Int)<(X.T.length:Int))=true:=decide_eq_true (by omega)
    have t3n:decide (u.i<X.T.length)=true:=decide_eq_true hlt
    have hi1:(0:Int)<=(u.i:Int):=by omega
    have hi2:(u.i:Int)<(X.T.length:Int):=by omega
    have hkn:(u.i:Int).toNat=u.i:=rfl
    by_cases hk4:X.kind u.i=4
    ·have hkk:=hk4
     have HEQ:=Lib.hid (show valueS X 0 s=(u.fail X 5,.none) from by rw [HVS.out,if_pos (by unfold PS.begins;rw [hk4];exact Bool.or_true _)])
     clear hmv HVS hb
     go_enter Tryz.func44,Tryz.ntmps44
     go_wp2_with fail
     refine HMk.out.mono ?_
     rintro e w2 ⟨rfl,hr2,hg2⟩
     have HV2:=Lib.hid (HV1.out.grow hRl hr2 hg2)
     clear hr2 hg2 HMk HV1
     obtain ⟨v0,v1⟩:=HV2.out.cells
     obtain ⟨c0,c1,c2,c3,c4,fz⟩:=HV2.out.rs.cells
     obtain ⟨tb,rfl,d0,d1⟩:=HV2.out.rs.tok3 u.i hlt
     rw [hkk] at d0
     clear hkk d1
     go_wp2_with fail
     go_quiet (fail)
     clear h1 h2 hk4
     have HV3:=Lib.hid (HV2.out.drewN hRl nq)
     clear HV2 c0 c1 c2 c3 c4 fz v0 v1
     obtain ⟨v0,v1⟩:=HV3.out.cells
     go_wp2_with fail
     refine HFL.out (w2.drewN nq) HV3.out.rs |>.mono ?_
     rintro e w4 ⟨rfl,hr4,hg4⟩
     have HV4:=Lib.hid (HV3.out.grow hRl hr4 hg4)
     clear hr4 hg4 v0 v1
     obtain ⟨b0,b1,b2,b3,bf⟩:=node_cells HV4.out.res
     have bf0:=bf 0
     have bf1:=bf 1
     have bf2:=bf 2
     have bf3:=bf 3
     clear bf
     go_wp2_with fail
     obtain ⟨h7,g7⟩:=store4 HV4.out.res (.int .i64 0) (.int .i64 0) (.int .i64 0) (.slice none 0 0)
     generalize ((((w4.setCell ⟨w.heap.size+2,0,none⟩ (.int .i64 0)).setCell ⟨w.heap.size+2,1,none⟩ (.int .i64 0)).setCell ⟨w.heap.size+2,2,none⟩ (.int .i64 0)).setCell ⟨w.heap.size+2,3,none⟩ (.slice none 0 0))=w7 at h7 g7 ⊢
     obtain ⟨f0,f1,f2⟩:=HV4.out.fin H0.out .nil g7
     clear b0 b1 b2 b3 bf0 bf1 bf2 bf3
     obtain ⟨n0,n1,n2,n3,-⟩:=node_cells h7
     exact bodyPost_ret (v:=.agg #[.int .i64 0,.int .i64 0,.int .i64 0,.slice none 0 0]) (by simp [results,Tryz.results44,go_sem,n0,n1,n2,n3]) rfl
      (by rw [HEQ.out];exact ⟨_,rfl,f0,f1,f2⟩)
    ·by_cases hk5:X.kind u.i=5
     ·have hkk:=hk5
      have HEQ:=Lib.hid (show valueS X 0 s=(u.fail X 5,.none) from by rw [HVS.out,if_pos (by unfold PS.begins;rw [hk5];exact Bool.or_true _)])
      clear hmv HVS hb
      go_enter Tryz.func44,Tryz.ntmps44
      go_wp2_with fail
      refine HMk.out.mono ?_
      rintro e w2 ⟨rfl,hr2,hg2⟩
      have HV2:=Lib.hid (HV1.out.grow hRl hr2 hg2)
      clear hr2 hg2 HMk HV1
      obtain ⟨v0,v1⟩:=HV2.out.cells
      obtain ⟨c0,c1,c2,c3,c4,fz⟩:=HV2.out.rs.cells
      obtain ⟨tb,rfl,d0,d1⟩:=HV2.out.rs.tok3 u.i hlt
      rw [hkk] at d0
      clear hkk d1
      go_wp2_with fail
      go_quiet (fail)
      clear h1 h2 hk4 hk5
      have HV3:=Lib.hid (HV2.out.drewN hRl nq)
      clear HV2 c0 c1 c2 c3 c4 fz v0 v1
      obtain ⟨v0,v1⟩:=HV3.out.cells
      go_wp2_with fail
      refine HFL.out (w2.drewN nq) HV3.out.rs |>.mono ?_
      rintro e w4 ⟨rfl,hr4,hg4⟩
      have HV4:=Lib.hid (HV3.out.grow hRl hr4 hg4)
      clear hr4 hg4 v0 v1
      obtain ⟨b0,b1,b2,b3,bf⟩:=node_cells HV4.out.res
      have bf0:=bf 0
      have bf1:=bf 1
      have bf2:=bf 2
      have bf3:=bf 3
      clear bf
      go_wp2_with fail
      obtain ⟨h7,g7⟩:=store4 HV4.out.res (.int .i64 0) (.int .i64 0) (.int .i64 0) (.slice none 0 0)
      generalize ((((w4.setCell ⟨w.heap.size+2,0,none⟩ (.int .i64 0)).setCell ⟨w.heap.size+2,1,none⟩ (.int .i64 0)).setCell ⟨w.heap.size+2,2,none⟩ (.int .i64 0)).setCell ⟨w.heap.size+2,3,none⟩ (.slice none 0 0))=w7 at h7 g7 ⊢
      obtain ⟨f0,f1,f2⟩:=HV4.out.fin H0.out .nil g7
      clear b0 b1 b2 b3 bf0 bf1 bf2 bf3
      obtain ⟨n0,n1,n2,n3,-⟩:=node_cells h7
      exact bodyPost_ret (v:=.agg #[.int .i64 0,.int .i64 0,.int .i64 0,.slice none 0 0]) (by simp [results,Tryz.results44,go_sem,n0,n1,n2,n3]) rfl
       (by rw [HEQ.out];exact ⟨_,rfl,f0,f1,f2⟩)
     ·obtain ⟨kk,hkk⟩:∃ kk,X.kind u.i=kk:=⟨_,rfl⟩
      have t4:(kk==4)=false:=by rw [<-hkk];simpa using hk4
      have t5:(kk==5)=false:=by rw [<-hkk];simpa using hk5
      have HEQ:=Lib.hid (show valueS X 0 s=leafS X 1 u from by rw [HVS.out,if_neg (by unfold PS.begins isLeaf;simp [h1,h2,hk4,hk5])])
      clear hmv HVS hb
      go_enter Tryz.func44,Tryz.ntmps44
      go_wp2_with fail
      refine HMk.out.mono ?_
      rintro e w2 ⟨rfl,hr2,hg2⟩
      have HV2:=Lib.hid (HV1.out.grow hRl hr2 hg2)
      clear hr2 hg2 HMk HV1
      obtain ⟨v0,v1⟩:=HV2.out.cells
      obtain ⟨c0,c1,c2,c3,c4,fz⟩:=HV2.out.rs.cells
      obtain ⟨tb,rfl,d0,d1⟩:=HV2.out.rs.tok3 u.i hlt
      rw [hkk] at d0
      clear hkk d1
      go_wp2_with fail
      go_quiet (fail)
      clear h1 h2 hk4 hk5
      have HV3:=Lib.hid (HV2.out.drewN hRl nq)
      clear HV2 c0 c1 c2 c3 c4 fz v0 v1
      obtain ⟨v0,v1⟩:=HV3.out.cells
      have HC:=Lib.hid (leaf_any 1 R _ tc S X u (w2.drewN nq) HV3.out.rs hT (by omega))
      go_wp2_with fail
      refine HC.out.mono ?_
      rintro e w4 ⟨vs,rfl,hk4,hr4,hg4⟩
      have hs3:=HV3.out.size
      have HV4:=Lib.hid (HV3.out.grow hRl hr4 hg4)
      have HK4:=Lib.hid (hk4.weak (C:=fun b=>w.heap.size+3<=b) (fun b hb _=>by omega))
      obtain ⟨so,sc,rfl⟩:=hk4.form
      clear hr4 hg4 hk4 v0 v1 hs3 HC
      obtain ⟨nd,hnd⟩:∃ nd,(leafS X 1 u).2=nd:=⟨_,rfl⟩
      have HND:=Lib.hid hnd
      rw [hnd] at HK4 ⊢
      clear hnd
      obtain ⟨b0,b1,b2,b3,bf⟩:=node_cells HV4.out.res
      have bf0:=bf 0
      have bf1:=bf 1
      have bf2:=bf 2
      have bf3:=bf 3
      clear bf
      go_wp2_with fail
      obtain ⟨h7,g7⟩:=store4 HV4.out.res (.int .i64 nd.k) (.int .i64 nd.a) (.int .i64 nd.b) (.slice so nd.kids.length sc)
      generalize ((((w4.setCell ⟨w.heap.size+2,0,none⟩ (.int .i64 nd.k)).setCell ⟨w.heap.size+2,1,none⟩ (.int .i64 nd.a)).setCell ⟨w.heap.size+2,2,none⟩ (.int .i64 nd.b)).setCell ⟨w.heap.size+2,3,none⟩ (.slice so nd.kids.length sc))=w7 at h7 g7 ⊢
      obtain ⟨f0,f1,f2⟩:=HV4.out.fin H0.out HK4.out g7
      clear b0 b1 b2 b3 bf0 bf1 bf2 bf3
      obtain ⟨n0,n1,n2,n3,-⟩:=node_cells h7
      exact bodyPost_ret (v:=.agg #[.int .i64 nd.k,.int .i64 nd.a,.int .i64 nd.b,.slice so nd.kids.length sc]) (by simp [results,Tryz.results44,go_sem,n0,n1,n2,n3]) rfl
       (by rw [HEQ.out];rw [<-HND.out] at f0 ⊢;exact ⟨_,rfl,f0,f1,f2⟩)
   ·have t3:decide ((u.i:Int)<(X.T.length:Int))=false:=decide_eq_false (by omega)
    have t3n:decide (u.i<X.T.length)=false:=decide_eq_false hlt
    have hk0:X.kind u.i=0:=by unfold TS.kind;rw [List.getElem?_eq_none (by omega)]
    have HEQ:=Lib.hid (show valueS X 0 s=leafS X 1 u from by rw [HVS.out,if_neg (by unfold PS.begins isLeaf;simp [h1,h2,hk0])])
    clear hmv HVS hb
    go_enter Tryz.func44,Tryz.ntmps44
    go_wp2_with fail
    refine HMk.out.mono ?_
    rintro e w2 ⟨rfl,hr2,hg2⟩
    have HV2:=Lib.hid (HV1.out.grow hRl hr2 hg2)
    clear hr2 hg2 HMk HV1
    obtain ⟨v0,v1⟩:=HV2.out.cells
    obtain ⟨c0,c1,c2,c3,c4,fz⟩:=HV2.out.rs.cells
    go_wp2_with fail
    go_quiet (fail)
    clear h1 h2 hk0
    have HV3:=Lib.hid (HV2.out.drewN hRl nq)
    clear HV2 c0 c1 c2 c3 c4 fz v0 v1
    obtain ⟨v0,v1⟩:=HV3.out.cells
    have HC:=Lib.hid (leaf_any 1 R _ tc S X u (w2.drewN nq) HV3.out.rs hT (by omega))
    go_wp2_with fail
    refine HC.out.mono ?_
    rintro e w4 ⟨vs,rfl,hk4,hr4,hg4⟩
    have hs3:=HV3.out.size
    have HV4:=Lib.hid (HV3.out.grow hRl hr4 hg4)
    have HK4:=Lib.hid (hk4.weak (C:=fun b=>w.heap.size+3<=b) (fun b hb _=>by omega))
    obtain ⟨so,sc,rfl⟩:=hk4.form
    clear hr4 hg4 hk4 v0 v1 hs3 HC
    obtain ⟨nd,hnd⟩:∃ nd,(leafS X 1 u).2=nd:=⟨_,rfl⟩
    have HND:=Lib.hid hnd
    rw [hnd] at HK4 ⊢
    clear hnd
    obtain ⟨b0,b1,b2,b3,bf⟩:=node_cells HV4.out.res
    have bf0:=bf 0
    have bf1:=bf 1
    have bf2:=bf 2
    have bf3:=bf 3
    clear bf
    go_wp2_with fail
    obtain ⟨h7,g7⟩:=store4 HV4.out.res (.int .i64 nd.k) (.int .i64 nd.a) (.int .i64 nd.b) (.slice so nd.kids.length sc)
    generalize ((((w4.setCell ⟨w.heap.size+2,0,none⟩ (.int .i64 nd.k)).setCell ⟨w.heap.size+2,1,none⟩ (.int .i64 nd.a)).setCell ⟨w.heap.size+2,2,none⟩ (.int .i64 nd.b)).setCell ⟨w.heap.size+2,3,none⟩ (.slice so nd.kids.length sc))=w7 at h7 g7 ⊢
    obtain ⟨f0,f1,f2⟩:=HV4.out.fin H0.out HK4.out g7
    clear b0 b1 b2 b3 bf0 bf1 bf2 bf3
    obtain ⟨n0,n1,n2,n3,-⟩:=node_cells h7
    exact bodyPost_ret (v:=.agg #[.int .i64 nd.k,.int .i64 nd.a,.int .i64 nd.b,.slice so nd.kids.length sc]) (by simp [results,Tryz.results44,go_sem,n0,n1,n2,n3]) rfl
     (by rw [HEQ.out];rw [<-HND.out] at f0 ⊢;exact ⟨_,rfl,f0,f1,f2⟩)
set_option maxHeartbeats 8000000 in
theorem value_succ (r:Nat) (deep:Int) (R:Nat) (ta:Option Addr) (tc:Nat) (S:ByteArray) (X:TS) (hT:X.T.length<=20000) (hpos0:∀ j,j<X.T.length->X.pos j<X.l.length) (hr30:r<=20) (hd:0<=deep/\deep<20) (hF:X.T.length+2<=X.F) (hF2:X.F<=100000) (hIV:ValOk R ta tc S X (deep+1) (valueS X r)) (hIE:EntOk R ta tc S X (deep+1) (entryS X (valueS X r))) :
 ValOk R ta tc S X deep (valueS X (r+1)):=by
 intro s w h hb0 hi
 have hRl:=h.lt
 have H0:=Lib.hid h
 obtain ⟨u,hu⟩:∃ u,s.skip X=u:=⟨_,rfl⟩
 obtain ⟨mv,hmv⟩:∃ mv:Int,((u.mark X).toNat:Int)=mv:=⟨_,rfl⟩
 have hui:u.i<=X.T.length:=by rw [<-hu];exact (skip_fine X _).2.1 hi
 have hb:u.bad=0:=by rw [<-hu];exact hb0
 have HV1:=Lib.hid (VR.start (deep:=deep) h)
 have HMk:=Lib.hid (mark_of u mv R ta tc S X s _ HV1.out.rs hT (by omega) hpos0 hu hmv)
 have hpos:=Lib.hid hpos0
 obtain ⟨hd0,hd1⟩:=hd
 have td:decide (20<=deep)=false:=decide_eq_false (by omega)
 have HIV:=Lib.hid hIV
 have HIE:=Lib.hid hIE
 clear hIV hIE
 have hvs:valueS X (r+1) s=(if u.mark X=123 then manyN X 3 125 (entryS X (valueS X r)) u else if u.mark X=91 then manyN X 5 93 (valueS X r) u else leafS X 1 u):=by rw [<-hu];rfl
 have HVS:=Lib.hid hvs
 clear h hu hpos0 hb0 hvs
 by_cases h1:u.mark X=123
 ·have e1:mv=123:=by rw [<-hmv,h1];rfl
  have t1:(mv==123)=true:=by rw [e1];rfl
  have hlt:=mark_lt h1 (by decide)
  have HEQ:=Lib.hid (show valueS X (r+1) s=manyN X 3 125 (entryS X (valueS X r)) u from by rw [HVS.out,if_pos h1])
  clear hmv HVS
  go_enter Tryz.func44,Tryz.ntmps44
  go_wp2_with fail
  refine HMk.out.mono ?_
  rintro e w2 ⟨rfl,hr2,hg2⟩
  have HV2:=Lib.hid (HV1.out.grow hRl hr2 hg2)
  clear hr2 hg2 HMk HV1
  obtain ⟨v0,v1⟩:=HV2.out.cells
  obtain ⟨c0,c1,c2,c3,c4,fz⟩:=HV2.out.rs.cells
  go_wp2_with fail
  go_quiet (fail)
  clear h1 e1
  have HV3:=Lib.hid (HV2.out.drewN hRl nq)
  clear HV2 c0 c1 c2 c3 c4 fz v0 v1
  obtain ⟨v0,v1⟩:=HV3.out.cells
  have HC:=Lib.hid (many_entry ⟨w.heap.size,0,none⟩ ⟨w.heap.size+1,0,none⟩ 3 125 (by decide) (by decide) _ (entryS X (valueS X r)) R ta tc S X (entry_fine (value_fine X r)) (by omega) u (w2.drewN nq) HV3.out.rs hT hF hF2 hlt hb hpos.out (clos_entry _ _ deep _ R ta tc S X _ HV3.out.bp HV3.out.bd (by omega) (by omega) hd0 (by omega) HIE.out))
  go_wp2_with fail
  refine HC.out.mono ?_
  rintro e w4 ⟨vs,rfl,hk4,hr4,hg4⟩
  have hs3:=HV3.out.size
  have HV4:=Lib.hid (HV3.out.grow hRl hr4 hg4)
  have HK4:=Lib.hid (hk4.weak (C:=fun b=>w.heap.size+3<=b) (fun b hb _=>by omega))
  obtain ⟨so,sc,rfl⟩:=hk4.form
  clear hr4 hg4 hk4 v0 v1 hs3 HC
  obtain ⟨nd,hnd⟩:∃ nd,(manyN X 3 125 (entryS X (valueS X r)) u).2=nd:=⟨_,rfl⟩
  have HND:=Lib.hid hnd
  rw [hnd] at HK4 ⊢
  clear hnd
  obtain ⟨b0,b1,b2,b3,bf⟩:=node_cells HV4.out.res
  have bf0:=bf 0
  have bf1:=bf 1
  have bf2:=bf 2
  have bf3:=bf 3
  clear bf
  go_wp2_with fail
  obtain ⟨h7,g7⟩:=store4 HV4.out.res (.int .i64 nd.k) (.int .i64 nd.a) (.int .i64 nd.b) (.slice so nd.kids.length sc)
  generalize ((((w4.setCell ⟨w.heap.size+2,0,none⟩ (.int .i64 nd.k)).setCell ⟨w.heap.size+2,1,none⟩ (.int .i64 nd.a)).setCell ⟨w.heap.size+2,2,none⟩ (.int .i64 nd.b)).setCell ⟨w.heap.size+2,3,none⟩ (.slice so nd.kids.length sc))=w7 at h7 g7 ⊢
  obtain ⟨f0,f1,f2⟩:=HV4.out.fin H0.out HK4.out g7
  clear b0 b1 b2 b3 bf0 bf1 bf2 bf3
  obtain ⟨n0,n1,n2,n3,-⟩:=node_cells h7
  exact bodyPost_ret (v:=.agg #[.int .i64 nd.k,.int .i64 nd.a,.int .i64 nd.b,.slice so nd.kids.length sc]) (by simp [results,Tryz.results44,go_sem,n0,n1,n2,n3]) rfl
   (by rw [HEQ.out];rw [<-HND.out] at f0 ⊢;exact ⟨_,rfl,f0,f1,f2⟩)
 ·have n1:¬ mv=123:=fun e=>h1 (UInt8.toNat_inj.1 (by have h2:=hmv.trans e;exact_mod_cast h2))
  have t1:(mv==123)=false:=by simpa using n1
  by_cases h2:u.mark X=91
  ·have e1:mv=91:=by rw [<-hmv,h2];rfl
   have t2:(mv==91)=true:=by rw [e1];rfl
   have hlt:=mark_lt h2 (by decide)
   clear n1
   have HEQ:=Lib.hid (show valueS X (r+1) s=manyN X 5 93 (valueS X r) u from by rw [HVS.out,if_neg h1,if_pos h2])
   clear hmv HVS
   go_enter Tryz.func44,Tryz.ntmps44
   go_wp2_with fail
   refine HMk.out.mono ?_
   rintro e w2 ⟨rfl,hr2,hg2⟩
   have HV2:=Lib.hid (HV1.out.grow hRl hr2 hg2)
   clear hr2 hg2 HMk HV1
   obtain ⟨v0,v1⟩:=HV2.out.cells
   obtain ⟨c0,c1,c2,c3,c4,fz⟩:=HV2.out.rs.cells
   go_wp2_with fail
   go_quiet (fail)
   clear h1 h2 e1
   have HV3:=Lib.hid (HV2.out.drewN hRl nq)
   clear HV2 c0 c1 c2 c3 c4 fz v0 v1
   obtain ⟨v0,v1⟩:=HV3.out.cells
   have HC:=Lib.hid (many_value ⟨w.heap.size,0,none⟩ ⟨w.heap.size+1,0,none⟩ 5 93 (by decide) (by decide) _ (valueS X r) R ta tc S X (value_fine X r) (by omega) u (w2.drewN nq) HV3.out.rs hT hF hF2 hlt hb hpos.out (clos_value _ _ deep _ R ta tc S X _ HV3.out.bp HV3.out.bd (by omega) (by omega) hd0 (by omega) HIV.out))
   go_wp2_with fail
   refine HC.out.mono ?_
   rintro e w4 ⟨vs,rfl,hk4,hr4,hg4⟩
   have hs3:=HV3.out.size
   have HV4:=Lib.hid (HV3.out.grow hRl hr4 hg4)
   have HK4:=Lib.hid (hk4.weak (C:=fun b=>w.heap.size+3<=b) (fun b hb _=>by omega))
   obtain ⟨so,sc,rfl⟩:=hk4.form
   clear hr4 hg4 hk4 v0 v1 hs3 HC
   obtain ⟨nd,hnd⟩:∃ nd,(manyN X 5 93 (valueS X r) u).2=nd:=⟨_,rfl⟩
   have HND:=Lib.hid hnd
   rw [hnd] at HK4 ⊢
   clear hnd
   obtain ⟨b0,b1,b2,b3,bf⟩:=node_cells HV4.out.res
   have bf0:=bf 0
   have bf1:=bf 1
   have bf2:=bf 2
   have bf3:=bf 3
   clear bf
   go_wp2_with fail
   obtain ⟨h7,g7⟩:=store4 HV4.out.res (.int .i64 nd.k) (.int .i64 nd.a) (.int .i64 nd.b) (.slice so nd.kids.length sc)
   generalize ((((w4.setCell ⟨w.heap.size+2,0,none⟩ (.int .i64 nd.k)).setCell ⟨w.heap.size+2,1,none⟩ (.int .i64 nd.a)).setCell ⟨w.heap.size+2,2,none⟩ (.int .i64 nd.b)).setCell ⟨w.heap.size+2,3,none⟩ (.slice so nd.kids.length sc))=w7 at h7 g7 ⊢
   obtain ⟨f0,f1,f2⟩:=HV4.out.fin H0.out HK4.out g7
   clear b0 b1 b2 b3 bf0 bf1 bf2 bf3
   obtain ⟨n0,n1,n2,n3,-⟩:=node_cells h7
   exact bodyPost_ret (v:=.agg #[.int .i64 nd.k,.int .i64 nd.a,.int .i64 nd.b,.slice so nd.kids.length sc]) (by simp [results,Tryz.results44,go_sem,n0,n1,n2,n3]) rfl
    (by rw [HEQ.out];rw [<-HND.out] at f0 ⊢;exact ⟨_,rfl,f0,f1,f2⟩)
  ·have n2:¬ mv=91:=fun e=>h2 (UInt8.toNat_inj.1 (by have h3:=hmv.trans e;exact_mod_cast h3))
   have t2:(mv==91)=false:=by simpa using n2
   clear n1 n2
   by_cases hlt:u.i<X.T.length
   ·have t3:decide ((u.i:Int)<(X.T.length:Int))=true:=decide_eq_true (by omega)
    have t3n:decide (u.i<X.T.length)=true:=decide_eq_true hlt
    have hi1:(0:Int)<=(u.i:Int):=by omega
    have hi2:(u.i:Int)<(X.T.length:Int):=by omega
    have hkn:(u.i:Int).toNat=u.i:=rfl
    by_cases hk4:X.kind u.i=4
    ·have hkk:=hk4
     have HEQ:=Lib.hid (show valueS X (r+1) s=leafS X 1 u from by rw [HVS.out,if_neg h1,if_neg h2])
     clear hmv HVS hb
     go_enter Tryz.func44,Tryz.ntmps44
     go_wp2_with fail
     refine HMk.out.mono ?_
     rintro e w2 ⟨rfl,hr2,hg2⟩
     have HV2:=Lib.hid (HV1.out.grow hRl hr2 hg2)
     clear hr2 hg2 HMk HV1
     obtain ⟨v0,v1⟩:=HV2.out.cells
     obtain ⟨c0,c1,c2,c3,c4,fz⟩:=HV2.out.rs.cells
     obtain ⟨tb,rfl,d0,d1⟩:=HV2.out.rs.tok3 u.i hlt
     rw [hkk] at d0
     clear hkk d1
     go_wp2_with fail
     go_quiet (fail)
     clear h1 h2 hk4
     have HV3:=Lib.hid (HV2.out.drewN hRl nq)
     clear HV2 c0 c1 c2 c3 c4 fz v0 v1
     obtain ⟨v0,v1⟩:=HV3.out.cells
     have HC:=Lib.hid (leaf_any 1 R _ tc S X u (w2.drewN nq) HV3.out.rs hT (by omega))
     go_wp2_with fail
     refine HC.out.mono ?_
     rintro e w4 ⟨vs,rfl,hk4,hr4,hg4⟩
     have hs3:=HV3.out.size
     have HV4:=Lib.hid (HV3.out.grow hRl hr4 hg4)
     have HK4:=Lib.hid (hk4.weak (C:=fun b=>w.heap.size+3<=b) (fun b hb _=>by omega))
     obtain ⟨so,sc,rfl⟩:=hk4.form
     clear hr4 hg4 hk4 v0 v1 hs3 HC
     obtain ⟨nd,hnd⟩:∃ nd,(leafS X 1 u).2=nd:=⟨_,rfl⟩
     have HND:=Lib.hid hnd
     rw [hnd] at HK4 ⊢
     clear hnd
     obtain ⟨b0,b1,b2,b3,bf⟩:=node_cells HV4.out.res
     have bf0:=bf 0
     have bf1:=bf 1
     have bf2:=bf 2
     have bf3:=bf 3
     clear bf
     go_wp2_with fail
     obtain ⟨h7,g7⟩:=store4 HV4.out.res (.int .i64 nd.k) (.int .i64 nd.a) (.int .i64 nd.b) (.slice so nd.kids.length sc)
     generalize ((((w4.setCell ⟨w.heap.size+2,0,none⟩ (.int .i64 nd.k)).setCell ⟨w.heap.size+2,1,none⟩ (.int .i64 nd.a)).setCell ⟨w.heap.size+2,2,none⟩ (.int .i64 nd.b)).setCell ⟨w.heap.size+2,3,none⟩ (.slice so nd.kids.length sc))=w7 at h7 g7 ⊢
     obtain ⟨f0,f1,f2⟩:=HV4.out.fin H0.out HK4.out g7
     clear b0 b1 b2 b3 bf0 bf1 bf2 bf3
     obtain ⟨n0,n1,n2,n3,-⟩:=node_cells h7
     exact bodyPost_ret (v:=.agg #[.int .i64 nd.k,.int .i64 nd.a,.int .i64 nd.b,.slice so nd.kids.length sc]) (by simp [results,Tryz.results44,go_sem,n0,n1,n2,n3]) rfl
      (by rw [HEQ.out];rw [<-HND.out] at f0 ⊢;exact ⟨_,rfl,f0,f1,f2⟩)
    ·by_cases hk5:X.kind u.i=5
     ·have hkk:=hk5
      have HEQ:=Lib.hid (show valueS X (r+1) s=leafS X 1 u from by rw [HVS.out,if_neg h1,if_neg h2])
      clear hmv HVS hb
      go_enter Tryz.func44,Tryz.ntmps44
      go_wp2_with fail
      refine HMk.out.mono ?_
      rintro e w2 ⟨rfl,hr2,hg2⟩
      have HV2:=Lib.hid (HV1.out.grow hRl hr2 hg2)
      clear hr2 hg2 HMk HV1
      obtain ⟨v0,v1⟩:=HV2.out.cells
      obtain ⟨c0,c1,c2,c3,c4,fz⟩:=HV2.out.rs.cells
      obtain ⟨tb,rfl,d0,d1⟩:=HV2.out.rs.tok3 u.i hlt
      rw [hkk] at d0
      clear hkk d1
      go_wp2_with fail
      go_quiet (fail)
      clear h1 h2 hk4 hk5
      have HV3:=Lib.hid (HV2.out.drewN hRl nq)
      clear HV2 c0 c1 c2 c3 c4 fz v0 v1
      obtain ⟨v0,v1⟩:=HV3.out.cells
      have HC:=Lib.hid (leaf_any 1 R _ tc S X u (w2.drewN nq) HV3.out.rs hT (by omega))
      go_wp2_with fail
      refine HC.out.mono ?_
      rintro e w4 ⟨vs,rfl,hk4,hr4,hg4⟩
      have hs3:=HV3.out.size
      have HV4:=Lib.hid (HV3.out.grow hRl hr4 hg4)
      have HK4:=Lib.hid (hk4.weak (C:=fun b=>w.heap.size+3<=b) (fun b hb _=>by omega))
      obtain ⟨so,sc,rfl⟩:=hk4.form
      clear hr4 hg4 hk4 v0 v1 hs3 HC
      obtain ⟨nd,hnd⟩:∃ nd,(leafS X 1 u).2=nd:=⟨_,rfl⟩
      have HND:=Lib.hid hnd
      rw [hnd] at HK4 ⊢
      clear hnd
      obtain ⟨b0,b1,b2,b3,bf⟩:=node_cells HV4.out.res
      have bf0:=bf 0
      have bf1:=bf 1
      have bf2:=bf 2
      have bf3:=bf 3
      clear bf
      go_wp2_with fail
      obtain ⟨h7,g7⟩:=store4 HV4.out.res (.int .i64 nd.k) (.int .i64 nd.a) (.int .i64 nd.b) (.slice so nd.kids.length sc)
      generalize ((((w4.setCell ⟨w.heap.size+2,0,none⟩ (.int .i64 nd.k)).setCell ⟨w.heap.size+2,1,none⟩ (.int .i64 nd.a)).setCell ⟨w.heap.size+2,2,none⟩ (.int .i64 nd.b)).setCell ⟨w.heap.size+2,3,none⟩ (.slice so nd.kids.length sc))=w7 at h7 g7 ⊢
      obtain ⟨f0,f1,f2⟩:=HV4.out.fin H0.out HK4.out g7
      clear b0 b1 b2 b3 bf0 bf1 bf2 bf3
      obtain ⟨n0,n1,n2,n3,-⟩:=node_cells h7
      exact bodyPost_ret (v:=.agg #[.int .i64 nd.k,.int .i64 nd.a,.int .i64 nd.b,.slice so nd.kids.length sc]) (by simp [results,Tryz.results44,go_sem,n0,n1,n2,n3]) rfl
       (by rw [HEQ.out];rw [<-HND.out] at f0 ⊢;exact ⟨_,rfl,f0,f1,f2⟩)
     ·obtain ⟨kk,hkk⟩:∃ kk,X.kind u.i=kk:=⟨_,rfl⟩
      have t4:(kk==4)=false:=by rw [<-hkk];simpa using hk4
      have t5:(kk==5)=false:=by rw [<-hkk];simpa using hk5
      have HEQ:=Lib.hid (show valueS X (r+1) s=leafS X 1 u from by rw [HVS.out,if_neg h1,if_neg h2])
      clear hmv HVS hb
      go_enter Tryz.func44,Tryz.ntmps44
      go_wp2_with fail
      refine HMk.out.mono ?_
      rintro e w2 ⟨rfl,hr2,hg2⟩
      have HV2:=Lib.hid (HV1.out.grow hRl hr2 hg2)
      clear hr2 hg2 HMk HV1
      obtain ⟨v0,v1⟩:=HV2.out.cells
      obtain ⟨c0,c1,c2,c3,c4,fz⟩:=HV2.out.rs.cells
      obtain ⟨tb,rfl,d0,d1⟩:=HV2.out.rs.tok3 u.i hlt
      rw [hkk] at d0
      clear hkk d1
      go_wp2_with fail
      go_quiet (fail)
      clear h1 h2 hk4 hk5
      have HV3:=Lib.hid (HV2.out.drewN hRl nq)
      clear HV2 c0 c1 c2 c3 c4 fz v0 v1
      obtain ⟨v0,v1⟩:=HV3.out.cells
      have HC:=Lib.hid (leaf_any 1 R _ tc S X u (w2.drewN nq) HV3.out.rs hT (by omega))
      go_wp2_with fail
      refine HC.out.mono ?_
      rintro e w4 ⟨vs,rfl,hk4,hr4,hg4⟩
      have hs3:=HV3.out.size
      have HV4:=Lib.hid (HV3.out.grow hRl hr4 hg4)
      have HK4:=Lib.hid (hk4.weak (C:=fun b=>w.heap.size+3<=b) (fun b hb _=>by omega))
      obtain ⟨so,sc,rfl⟩:=hk4.form
      clear hr4 hg4 hk4 v0 v1 hs3 HC
      obtain ⟨nd,hnd⟩:∃ nd,(leafS X 1 u).2=nd:=⟨_,rfl⟩
      have HND:=Lib.hid hnd
      rw [hnd] at HK4 ⊢
      clear hnd
      obtain ⟨b0,b1,b2,b3,bf⟩:=node_cells HV4.out.res
      have bf0:=bf 0
      have bf1:=bf 1
      have bf2:=bf 2
      have bf3:=bf 3
      clear bf
      go_wp2_with fail
      obtain ⟨h7,g7⟩:=store4 HV4.out.res (.int .i64 nd.k) (.int .i64 nd.a) (.int .i64 nd.b) (.slice so nd.kids.length sc)
      generalize ((((w4.setCell ⟨w.heap.size+2,0,none⟩ (.int .i64 nd.k)).setCell ⟨w.heap.size+2,1,none⟩ (.int .i64 nd.a)).setCell ⟨w.heap.size+2,2,none⟩ (.int .i64 nd.b)).setCell ⟨w.heap.size+2,3,none⟩ (.slice so nd.kids.length sc))=w7 at h7 g7 ⊢
      obtain ⟨f0,f1,f2⟩:=HV4.out.fin H0.out HK4.out g7
      clear b0 b1 b2 b3 bf0 bf1 bf2 bf3
      obtain ⟨n0,n1,n2,n3,-⟩:=node_cells h7
      exact bodyPost_ret (v:=.agg #[.int .i64 nd.k,.int .i64 nd.a,.int .i64 nd.b,.slice so nd.kids.length sc]) (by simp [results,Tryz.results44,go_sem,n0,n1,n2,n3]) rfl
       (by rw [HEQ.out];rw [<-HND.out] at f0 ⊢;exact ⟨_,rfl,f0,f1,f2⟩)
   ·have t3:decide ((u.i:Int)<(X.T.length:Int))=false:=decide_eq_false (by omega)
    have t3n:decide (u.i<X.T.length)=false:=decide_eq_false hlt
    have hk0:X.kind u.i=0:=by unfold TS.kind;rw [List.getElem?_eq_none (by omega)]
    have HEQ:=Lib.hid (show valueS X (r+1) s=leafS X 1 u from by rw [HVS.out,if_neg h1,if_neg h2])
    clear hmv HVS hb
    go_enter Tryz.func44,Tryz.ntmps44
    go_wp2_with fail
    refine HMk.out.mono ?_
    rintro e w2 ⟨rfl,hr2,hg2⟩
    have HV2:=Lib.hid (HV1.out.grow hRl hr2 hg2)
    clear hr2 hg2 HMk HV1
    obtain ⟨v0,v1⟩:=HV2.out.cells
    obtain ⟨c0,c1,c2,c3,c4,fz⟩:=HV2.out.rs.cells
    go_wp2_with fail
    go_quiet (fail)
    clear h1 h2 hk0
    have HV3:=Lib.hid (HV2.out.drewN hRl nq)
    clear HV2 c0 c1 c2 c3 c4 fz v0 v1
    obtain ⟨v0,v1⟩:=HV3.out.cells
    have HC:=Lib.hid (leaf_any 1 R _ tc S X u (w2.drewN nq) HV3.out.rs hT (by omega))
    go_wp2_with fail
    refine HC.out.mono ?_
    rintro e w4 ⟨vs,rfl,hk4,hr4,hg4⟩
    have hs3:=HV3.out.size
    have HV4:=Lib.hid (HV3.out.grow hRl hr4 hg4)
    have HK4:=Lib.hid (hk4.weak (C:=fun b=>w.heap.size+3<=b) (fun b hb _=>by omega))
    obtain ⟨so,sc,rfl⟩:=hk4.form
    clear hr4 hg4 hk4 v0 v1 hs3 HC
    obtain ⟨nd,hnd⟩:∃ nd,(leafS X 1 u).2=nd:=⟨_,rfl⟩
    have HND:=Lib.hid hnd
    rw [hnd] at HK4 ⊢
    clear hnd
    obtain ⟨b0,b1,b2,b3,bf⟩:=node_cells HV4.out.res
    have bf0:=bf 0
    have bf1:=bf 1
    have bf2:=bf 2
    have bf3:=bf 3
    clear bf
    go_wp2_with fail
    obtain ⟨h7,g7⟩:=store4 HV4.out.res (.int .i64 nd.k) (.int .i64 nd.a) (.int .i64 nd.b) (.slice so nd.kids.length sc)
    generalize ((((w4.setCell ⟨w.heap.size+2,0,none⟩ (.int .i64 nd.k)).setCell ⟨w.heap.size+2,1,none⟩ (.int .i64 nd.a)).setCell ⟨w.heap.size+2,2,none⟩ (.int .i64 nd.b)).setCell ⟨w.heap.size+2,3,none⟩ (.slice so nd.kids.length sc))=w7 at h7 g7 ⊢
    obtain ⟨f0,f1,f2⟩:=HV4.out.fin H0.out HK4.out g7
    clear b0 b1 b2 b3 bf0 bf1 bf2 bf3
    obtain ⟨n0,n1,n2,n3,-⟩:=node_cells h7
    exact bodyPost_ret (v:=.agg #[.int .i64 nd.k,.int .i64 nd.a,.int .i64 nd.b,.slice so nd.kids.length sc]) (by simp [results,Tryz.results44,go_sem,n0,n1,n2,n3]) rfl
     (by rw [HEQ.out];rw [<-HND.out] at f0 ⊢;exact ⟨_,rfl,f0,f1,f2⟩)
theorem value_any (R:Nat) (ta:Option Addr) (tc:Nat) (S:ByteArray) (X:TS) (hT:X.T.length<=20000) (hpos:∀ j,j<X.T.length->X.pos j<X.l.length) (hF:X.T.length+2<=X.F) (hF2:X.F<=100000):∀ (r:Nat) (deep:Int),deep+r=20->r<=20->ValOk R ta tc S X deep (valueS X r)
 | 0,deep,h,_=>value_zero 0 deep R ta tc S X hT hpos (by omega) (by omega)
 | r+1,deep,h,hr=>by
   have ih:=value_any R ta tc S X hT hpos hF hF2 r (deep+1) (by omega) (by omega)
   exact value_succ r deep R ta tc S X hT hpos (by omega) (by omega) hF hF2 ih (fun s w h hb hi=>entry_any (deep+1) _ R ta tc S X ih s w h hT hb hi hpos)
end Go.Proofs.YtldhmfkojaekfaaGreatDoor
namespace Go.Proofs.YtldhmfkojaekfaaGreatDoor
def Short (X:TS) (i j:Nat) (s:PS):Prop:=(s.bad=0/\s.i<=j)\/(s.bad≠0/\s.wh≠X.pos i)
structure BadAt (X:TS) (i j:Nat):Prop where
 row:Row X i
 lt:j<i
 bad:X.kind j=7
variable {X:TS} {i j:Nat}
def Keeps (X:TS) (i j:Nat) (f:PS->PS):Prop:=∀ s,Short X i j s->Short X i j (f s)
end Go.Proofs.YtldhmfkojaekfaaGreatDoor
namespace Go.Proofs.YtldhmfkojaekfaaGreatDoor
def treeOf (l:List UInt8) (F:Nat):TS:=⟨l,toksFrom l 0,F⟩
end Go.Proofs.YtldhmfkojaekfaaGreatDoor
namespace Go.Proofs.YtldhmfkojaekfaaGreatDoor
open Go.RowKit Gx
theorem TokAt.of_own {w:World} {g n b:Nat} {vo:Option Addr} {vc:Nat} {l:List Tok} (h:w.ownsRow b 40 3 (.slice vo n vc) n (tokCells l)) (hn:l.length=n):TokAt w vo l:=by
 by_cases h0:n=0
 ·exact .inl (List.eq_nil_of_length_eq_zero (by omega))
 ·obtain ⟨g,gc,he,hg⟩:∃ g gc,Value.slice vo n vc=.slice (some ⟨g,0,none⟩) n gc/\g<w.heap.size:=by
   rcases h.2 with ⟨h1,h2⟩|⟨g,cap,cur,h1,h2,h3,_⟩
   ·omega
   ·exact ⟨g,cap,h1,(Array.getElem?_eq_some_iff.1 h3).1⟩
  obtain ⟨rfl,rfl⟩:vo=some ⟨g,0,none⟩/\vc=gc:=by simpa using he
  refine .inr ⟨g,rfl,hg,fun k v hv=>?_⟩
  have hk:k<n * 3:=by
   have h1:=tokCells_len l
   have h2:=(List.getElem?_eq_some_iff.1 hv).1
   omega
  rw [h.cellAt k hk];exact hv
theorem tokCells_take (l:List Tok) (k j:Nat) (h:j<k * 3):(tokCells (l.take k))[j]?=(tokCells l)[j]?\/l.length * 3<=j:=by
 by_cases hj:l.length * 3<=j
 ·exact .inr hj
 ·refine .inl ?_
  have h1:tokCells l=tokCells (l.take k)++tokCells (l.drop k):=by
   conv=>lhs;rw [<-List.take_append_drop k l]
   simp only [tokCells,List.flatMap_append]
  rw [h1,List.getElem?_append_left]
  rw [tokCells_len,List.length_take];omega
theorem TokAt.take {w:World} {ad:Option Addr} {l:List Tok} (h:TokAt w ad l) (k:Nat):TokAt w ad (l.take k):=by
 rcases h with rfl|⟨b,h1,h2,h3⟩
 ·exact .inl (by simp)
 ·refine .inr ⟨b,h1,h2,fun j v hv=>h3 j v ?_⟩
  have h4:=(List.getElem?_eq_some_iff.1 hv).1
  rw [tokCells_len,List.length_take] at h4
  rcases tokCells_take l k j (by omega) with h5|h5
  ·rw [<-h5];exact hv
  ·omega
set_option maxRecDepth 100000
abbrev treeX (l:List UInt8):TS:=treeOf l 30000
def docNd (l:List UInt8):Nd:=.mk 6 0 (treeX l).T.length [(valueS (treeX l) 20 ⟨0,0,0⟩).2]
def ParsePost (l:List UInt8) (w:World) (e:Ending) (w':World):Prop :=
 Below w.heap.size w w' /\
 ((20000<l.length/\e=.returned (.tuple #[.agg #[.int .i64 0,.int .i64 0,.int .i64 0,.slice none 0 0],.int .i64 0,.int .i64 2])) \/
  (l.length<=20000/\(parseS (treeX l)).bad≠0/\e=.returned (.tuple #[.agg #[.int .i64 0,.int .i64 0,.int .i64 0,.slice none 0 0],.int .i64 (parseS (treeX l)).wh,.int .i64 (parseS (treeX l)).bad])) \/
  (l.length<=20000/\(parseS (treeX l)).bad=0/\∃ g,e=.returned (.tuple #[.agg #[.int .i64 6,.int .i64 0,.int .i64 (treeX l).T.length,.slice (some ⟨g,0,none⟩) 1 1],.int .i64 0,.int .i64 0]) /\
    KidsAt w' (fun b=>w.heap.size<=b) (docNd l).kids (.slice (some ⟨g,0,none⟩) 1 1)))
structure QR (w:World) (R:Nat) (ta:Option Addr) (tc:Nat) (S:ByteArray) (X:TS) (P:Nat) (nd:Nd) (ks:Value) (u:PS) (wx:World):Prop where
 rs:RS wx R ta tc S X u
 res:wx.heap[w.heap.size]?=some (.cells #[.int .i64 0,.int .i64 0,.int .i64 0,.slice none 0 0] 53)
 kb:wx.heap[P]?=some (.cells #[.int .i64 nd.k,.int .i64 nd.a,.int .i64 nd.b,ks] 53)
 kids:KidsAt wx (fun b=>R<b) nd.kids ks
 lo:w.heap.size<R
 lo2:R<P
 bel:Below w.heap.size w wx
section
variable {w:World} {R:Nat} {ta:Option Addr} {tc:Nat} {S:ByteArray} {X:TS} {P:Nat} {nd:Nd} {ks:Value} {u u2:PS} {wx w2:World}
theorem QR.hi (h:QR w R ta tc S X P nd ks u wx):P<wx.heap.size:=(Array.getElem?_eq_some_iff.1 h.kb).1
theorem QR.grow (h:QR w R ta tc S X P nd ks u wx) (hr:RS w2 R ta tc S X u2) (hg:wx.grownBy w2 (some R)):QR w R ta tc S X P nd ks u2 w2:=by
 have hs:=h.hi
 have hl:=h.lo
 have hl2:=h.lo2
 exact ⟨hr,(hg.block _ (by omega) (fun e=>by have:=Option.some.inj e;omega)).trans h.res,(hg.block _ (by omega) (fun e=>by have:=Option.some.inj e;omega)).trans h.kb,h.kids.grow hg (fun b e=>by have:=Option.some.inj e;omega),hl,hl2,h.bel.grown hg (by omega) (fun k e=>by have:=Option.some.inj e;omega)⟩
theorem QR.drewN (h:QR w R ta tc S X P nd ks u wx) (n:Nat):QR w R ta tc S X P nd ks u (wx.drewN n) :=
 h.grow (h.rs.drewN n) (grown_drew _ _ _)
theorem QR.start {w1 w3:World} {s:PS} (hb:Below w.heap.size w w1) (hz:w.heap.size<w1.heap.size) (hres:w1.heap[w.heap.size]?=some (.cells #[.int .i64 0,.int .i64 0,.int .i64 0,.slice none 0 0] 53)) (o:Obj)
 (hr:RS w3 w1.heap.size ta tc S X s) (hg:(w1.alloc o).grownBy w3 (some w1.heap.size)) (hk:KidsAt w3 (fun b=>(w1.alloc o).heap.size<=b) nd.kids ks) :
 QR w w1.heap.size ta tc S X w3.heap.size nd ks s (w3.alloc (.cells #[.int .i64 nd.k,.int .i64 nd.a,.int .i64 nd.b,ks] 53)):=by
 have hs:=hg.size
 rw [World.size_alloc] at hs
 have h1:w1.grownBy w3 (some w1.heap.size):=(grown_alloc w1 o _).trans hg
 refine ⟨hr.alloc _,(alloc_old_gx w3 _ (by omega)).trans ((h1.block _ hz (fun e=>by have:=Option.some.inj e;omega)).trans hres),heap_alloc_last _ _,(hk.weak (fun b hb _=>by rw [World.size_alloc] at hb;omega)).grow (grown_alloc w3 _ none) (fun b e=>by simp at e),hz,by omega,?_⟩
 exact (hb.grown h1 (by omega) (fun k e=>by have:=Option.some.inj e;omega)).alloc (by omega) _
theorem QR.fin {w6:World} (h:QR w R ta tc S X P nd ks u w2) (hg:w2.grownBy w6 (some w.heap.size)) (hz:w6.heap.size=w2.heap.size) :
 Below w.heap.size w (w6.alloc (.cells #[.int .i64 nd.k,.int .i64 nd.a,.int .i64 nd.b,ks] 53))/\KidsAt (w6.alloc (.cells #[.int .i64 nd.k,.int .i64 nd.a,.int .i64 nd.b,ks] 53)) (fun b=>w.heap.size<=b) [nd] (.slice (some ⟨w2.heap.size,0,none⟩) 1 1):=by
 have hs:=h.hi
 have hl:=h.lo
 have hl2:=h.lo2
 have hc4:∀ j u,([.int .i64 nd.k,.int .i64 nd.a,.int .i64 nd.b,ks]:List Value)[j]?=some u->(w6.alloc (.cells #[.int .i64 nd.k,.int .i64 nd.a,.int .i64 nd.b,ks] 53)).cell? ⟨w2.heap.size,j,none⟩=some u:=fun j u hj=>by
  have h1:=World.cell?_alloc_mark w6 #[.int .i64 nd.k,.int .i64 nd.a,.int .i64 nd.b,ks] 53 (0,0) j
  rw [hz] at h1
  exact h1.trans (by simpa using hj)
 have hk:KidsAt (w6.alloc (.cells #[.int .i64 nd.k,.int .i64 nd.a,.int .i64 nd.b,ks] 53)) (fun b=>w.heap.size<=b) nd.kids ks :=
  ((h.kids.grow hg (fun b e hb=>by have:=Option.some.inj e;omega)).weak (C:=fun b=>w.heap.size<=b) (fun b hb _=>by omega)).grow (grown_alloc _ _ none) (fun b e=>by simp at e)
 refine ⟨(h.bel.grown hg (by omega) (fun k e=>by have:=Option.some.inj e;omega)).alloc (by omega) _,.row [nd] (fun _=>ks) w2.heap.size 1 (by simp) (by omega) (by simp only [World.size_alloc];omega) (fun i n hi=>?_) (fun i n hi=>?_)⟩
 ·match i,hi with
  | 0,hi =>
    have:nd=n:=by simpa using hi
    subst this
    exact ⟨hc4 0 _ rfl,hc4 1 _ rfl,hc4 2 _ rfl,hc4 3 _ rfl⟩
  | i+1,hi=>simp at hi
 ·match i,hi with
  | 0,hi =>
    have:nd=n:=by simpa using hi
    subst this
    exact hk
  | i+1,hi=>simp at hi
theorem QR.none {w6:World} (h:QR w R ta tc S X P nd ks u w2) (hg:w2.grownBy w6 (some w.heap.size)):Below w.heap.size w w6 :=
 h.bel.grown hg (by have:=h.hi;have:=h.lo;have:=h.lo2;omega) (fun k e=>by have:=Option.some.inj e;omega)
end
theorem tree_pos (l:List UInt8) (F:Nat):∀ j,j<(treeOf l F).T.length->(treeOf l F).pos j<(treeOf l F).l.length:=fun j hj=>by
 have hget:(toksFrom l 0)[j]?=some ((toksFrom l 0)[j]'hj):=List.getElem?_eq_getElem hj
 have hlow:=toksFrom_low l l.length 0 (by omega) _ (List.mem_of_getElem? hget)
 unfold TS.pos treeOf
 simp only
 rw [hget]
 exact hlow.2
set_option maxHeartbeats 8000000 in
theorem parse_any (s:ByteArray) (w:World) (hm:MaxOk w):Calls Tryz.prog 24 #[.string s] w (ParsePost s.data.toList w):=by
 have hlen:s.data.toList.length=s.size:=Array.length_toList
 have hmx:MaxOk (w.alloc (.cells #[.int .i64 0,.int .i64 0,.int .i64 0,.slice none 0 0] 53)):=MaxOk.keep hm ((Below.refl w.heap.size w).alloc (Nat.le_refl _) _)
 have HC:=Lib.hid (cut_any s (w.alloc (.cells #[.int .i64 0,.int .i64 0,.int .i64 0,.slice none 0 0] 53)) hmx)
 unfold CutPost at HC
 clear hmx hm
 by_cases hL:20000<s.size
 ·have HL:Hid (20000<s.data.toList.length):=Lib.hid (by omega)
  clear hlen
  go_enter Tryz.func24,Tryz.ntmps24
  go_wp2_with fail
  refine HC.out.mono ?_
  rintro e w1 (⟨h1,-⟩|⟨-,rfl,rfl⟩)
  ·exact absurd HL.out (by omega)
  clear HC hL
  go_wp2_with fail
  exact bodyPost_ret (v:=.tuple #[.agg #[.int .i64 0,.int .i64 0,.int .i64 0,.slice none 0 0],.int .i64 0,.int .i64 2]) (by simp [results,Tryz.results24,go_sem]) rfl
   ⟨(Below.refl w.heap.size w).alloc (Nat.le_refl _) _,.inl ⟨HL.out,rfl⟩⟩
 ·have HL:Hid (s.data.toList.length<=20000):=Lib.hid (by omega)
  clear hlen
  go_enter Tryz.func24,Tryz.ntmps24
  go_wp2_with fail
  refine HC.out.mono ?_
  rintro e w1 (⟨-,vo,vc,rfl,hown,hbel⟩|⟨h1,-⟩)
  rotate_left
  ·exact absurd HL.out (by omega)
  clear HC hL
  have hres:w1.heap[w.heap.size]?=some (.cells #[.int .i64 0,.int .i64 0,.int .i64 0,.slice none 0 0] 53):=(hbel.block _ (by rw [World.size_alloc];omega)).trans (heap_alloc_last w _)
  have hz1:w.heap.size<w1.heap.size:=(Array.getElem?_eq_some_iff.1 hres).1
  have hb1:Below w.heap.size w w1:=((Below.refl w.heap.size w).alloc (Nat.le_refl _) _).trans (hbel.mono (by rw [World.size_alloc];omega))
  have hT:(treeX s.data.toList).T.length<=20000:=Nat.le_trans (toks_len _) HL.out
  have hrs:RS (w1.alloc (.cells #[.string s,.slice vo (toks s.data.toList).length vc,.int .i64 0,.int .i64 0,.int .i64 0] 92)) w1.heap.size vo vc s (treeX s.data.toList) ⟨0,0,0⟩ :=
   ⟨heap_alloc_last w1 _,(TokAt.of_own (g:=0) hown rfl).keep ((Below.refl _ _).alloc (Nat.le_refl _) _),rfl,fun a e=>by
     have:=(hown.lt a.block (by rw [e];rfl)).2
     omega⟩
  have HV:=Lib.hid (value_any w1.heap.size vo vc s (treeX s.data.toList) hT (tree_pos _ _) (by show _<=30000;omega) (by show 30000<=100000;omega) 20 0 (by omega) (by omega) ⟨0,0,0⟩ _ hrs rfl (Nat.zero_le _))
  have hvf:=value_fine (treeX s.data.toList) 20 ⟨0,0,0⟩ rfl (Nat.zero_le _)
  have hps:parseS (treeX s.data.toList)=endS (treeX s.data.toList) (valueS (treeX s.data.toList) 20 ⟨0,0,0⟩).1:=rfl
  obtain ⟨X,hX⟩:∃ X,treeX s.data.toList=X:=⟨_,rfl⟩
  obtain ⟨TL,hTL⟩:∃ TL,(toks s.data.toList).length=TL:=⟨_,rfl⟩
  have hXT:X.T.length=TL:=by rw [<-hX,<-hTL];rfl
  rw [hX] at HV hT hps hvf
  rw [hTL] at HV ⊢
  dsimp only at hvf
  obtain ⟨u3,hu3⟩:∃ u3,(valueS X 20 ⟨0,0,0⟩).1=u3:=⟨_,rfl⟩
  obtain ⟨nd,hnd⟩:∃ nd,(valueS X 20 ⟨0,0,0⟩).2=nd:=⟨_,rfl⟩
  obtain ⟨u4,hu4⟩:∃ u4,u3.skip X=u4:=⟨_,rfl⟩
  have hu4i:u4.i<=X.T.length+20:=by
   rw [hu3] at hvf
   have h1:=skip_fine X u3
   rw [hu4] at h1
   rcases Nat.lt_or_ge X.T.length u3.i with h|h
   ·rw [h1.2.2 (by omega)];omega
   ·have:=h1.2.1 h;omega
  unfold NP at HV
  rw [hu3,hnd] at HV
  rw [hu3] at hvf hps
  have HRES:=Lib.hid hres
  have HB1:=Lib.hid hb1
  have HPS:=Lib.hid hps
  have HU4:=Lib.hid hu4
  have HND:=Lib.hid hnd
  have HX:=Lib.hid hX
  have hu3i:u3.i<=100000:=by omega
  have HXT:=Lib.hid hXT
  clear hown hbel hres hb1 hrs hps hu4 hnd hX hTL hvf hu3 hXT
  go_wp2_with fail
  refine HV.out.mono ?_
  rintro e w3 ⟨ks,rfl,hk3,hr3,hg3⟩
  obtain ⟨ko,kc,rfl⟩:=hk3.form
  have HQ0:=Lib.hid (QR.start HB1.out hz1 HRES.out _ hr3 hg3 hk3)
  clear hk3 hr3 hg3 HV HB1 HRES
  go_wp2_with fail
  refine (skip_any w1.heap.size vo vc s X u3 _ HQ0.out.rs hT hu3i).mono ?_
  rintro e w5 ⟨rfl,hr5,hg5⟩
  rw [HU4.out] at hr5
  have HQ:=Lib.hid (HQ0.out.grow hr5 hg5)
  clear hr5 hg5 HQ0
  obtain ⟨c0,c1,c2,c3,c4,fz⟩:=HQ.out.rs.cells
  by_cases hlt:u4.i<TL
  ·have t1:decide ((u4.i:Int)<(TL:Int))=true:=decide_eq_true (by omega)
   have t2:decide (u4.i<TL)=true:=decide_eq_true hlt
   have hu4j:u4.i<=200000:=by omega
   have HFL:=Lib.hid (fail_any 4 w1.heap.size vo vc s X u4 _ HQ.out.rs hT hu4j)
   unfold RP at HFL
   obtain ⟨u5,hu5⟩:∃ u5,u4.fail X 4=u5:=⟨_,rfl⟩
   have hbad:u5.bad≠0:=by rw [<-hu5];exact fail_bad X 4 (by decide) u4
   have HP:=Lib.hid (show parseS X=u5 by rw [HPS.out];unfold endS;rw [HU4.out,HXT.out,if_pos hlt,hu5])
   rw [hu5] at HFL
   clear hu5 hlt
   go_wp2_with fail
   refine HFL.out.mono ?_
   rintro e w6 ⟨rfl,hr6,hg6⟩
   have HQ6:=Lib.hid (HQ.out.grow hr6 hg6)
   clear hr6 hg6 HQ c0 c1 c2 c3 c4 fz HFL
   have HQ:=HQ6
   clear HQ6
   obtain ⟨c0,c1,c2,c3,c4,fz⟩:=HQ.out.rs.cells
   obtain ⟨b0,b1,b2,b3,bf⟩:=node_cells HQ.out.res
   have bf0:=bf 0
   have bf1:=bf 1
   have bf2:=bf 2
   have bf3:=bf 3
   clear bf
   have HB5:=Lib.hid hbad
   have t9:(u5.bad != 0)=true:=by simpa using hbad
   clear hbad
   go_wp2_with fail
   go_region
   go_wp2_with fail
   obtain ⟨h7,g7⟩:=store4 HQ.out.res (.int .i64 0) (.int .i64 0) (.int .i64 0) (.slice none 0 0)
   generalize ((((w6.setCell ⟨w.heap.size,0,none⟩ (.int .i64 0)).setCell ⟨w.heap.size,1,none⟩ (.int .i64 0)).setCell ⟨w.heap.size,2,none⟩ (.int .i64 0)).setCell ⟨w.heap.size,3,none⟩ (.slice none 0 0))=w7 at h7 g7 ⊢
   have h9:w7.drew.heap[w.heap.size]?=_:=h7
   have g9:=HQ.out.none (g7.trans (grown_drew w7 1 _))
   change Below w.heap.size w w7.drew at g9
   clear b0 b1 b2 b3 bf0 bf1 bf2 bf3 c0 c1 c2 c3 c4 fz
   generalize w7.drew=w9 at h9 g9 ⊢
   obtain ⟨n0,n1,n2,n3,-⟩:=node_cells h9
   exact bodyPost_ret (v:=.tuple #[.agg #[.int .i64 0,.int .i64 0,.int .i64 0,.slice none 0 0],.int .i64 u5.wh,.int .i64 u5.bad]) (by simp [results,Tryz.results24,go_sem,n0,n1,n2,n3]) rfl
    ⟨g9,.inr (.inl ⟨HL.out,by rw [HX.out,HP.out];exact HB5.out,by rw [HX.out,HP.out]⟩)⟩
  ·have t1:decide ((u4.i:Int)<(TL:Int))=false:=decide_eq_false (by omega)
   have t2:decide (u4.i<TL)=false:=decide_eq_false hlt
   have HP:=Lib.hid (show parseS X=u4 by rw [HPS.out];unfold endS;rw [HU4.out,HXT.out,if_neg hlt])
   by_cases hbad:u4.bad=0
   ·skip
    obtain ⟨c0,c1,c2,c3,c4,fz⟩:=HQ.out.rs.cells
    obtain ⟨p0,p1,p2,p3,-⟩:=node_cells HQ.out.kb
    obtain ⟨b0,b1,b2,b3,bf⟩:=node_cells HQ.out.res
    have bf0:=bf 0
    have bf1:=bf 1
    have bf2:=bf 2
    have bf3:=bf 3
    clear bf
    have hhi:=HQ.out.hi
    have hlo:=HQ.out.lo
    have hlo2:=HQ.out.lo2
    have t9:(u4.bad != 0)=false:=by simpa using hbad
    have hhi2:w.heap.size<w5.heap.size:=by omega
    have HB5:=Lib.hid hbad
    have HB0:=Lib.hid HQ.out.res
    clear hbad
    go_wp2_with fail
    obtain ⟨h7,g7⟩:=store4 HB0.out (.int .i64 6) (.int .i64 0) (.int .i64 TL) (.slice (some ⟨w5.heap.size,0,none⟩) 1 1)
    have hz7:((((w5.setCell ⟨w.heap.size,0,none⟩ (.int .i64 6)).setCell ⟨w.heap.size,1,none⟩ (.int .i64 0)).setCell ⟨w.heap.size,2,none⟩ (.int .i64 TL)).setCell ⟨w.heap.size,3,none⟩ (.slice (some ⟨w5.heap.size,0,none⟩) 1 1)).heap.size=w5.heap.size:=by simp [World.setCell]
    generalize ((((w5.setCell ⟨w.heap.size,0,none⟩ (.int .i64 6)).setCell ⟨w.heap.size,1,none⟩ (.int .i64 0)).setCell ⟨w.heap.size,2,none⟩ (.int .i64 TL)).setCell ⟨w.heap.size,3,none⟩ (.slice (some ⟨w5.heap.size,0,none⟩) 1 1))=w7 at h7 g7 hz7 ⊢
    obtain ⟨f0,f1⟩:=HQ.out.fin g7 hz7
    have h9:=(alloc_old_gx w7 (.cells #[.int .i64 nd.k,.int .i64 nd.a,.int .i64 nd.b,.slice ko nd.kids.length kc] 53) (by omega)).trans h7
    clear b0 b1 b2 b3 bf0 bf1 bf2 bf3 p0 p1 p2 p3 c0 c1 c2 c3 c4 fz
    generalize w7.alloc (.cells #[.int .i64 nd.k,.int .i64 nd.a,.int .i64 nd.b,.slice ko nd.kids.length kc] 53)=w9 at h9 f0 f1 ⊢
    obtain ⟨n0,n1,n2,n3,-⟩:=node_cells h9
    refine bodyPost_ret (v:=.tuple #[.agg #[.int .i64 6,.int .i64 0,.int .i64 TL,.slice (some ⟨w5.heap.size,0,none⟩) 1 1],.int .i64 0,.int .i64 0]) (by simp [results,Tryz.results24,go_sem,n0,n1,n2,n3]) rfl ⟨f0,.inr (.inr ⟨HL.out,?_,w5.heap.size,?_,?_⟩)⟩
    ·rw [HX.out,HP.out];exact HB5.out
    ·rw [HX.out,HXT.out]
    ·unfold docNd
     rw [HX.out,HND.out]
     exact f1
   ·skip
    obtain ⟨c0,c1,c2,c3,c4,fz⟩:=HQ.out.rs.cells
    obtain ⟨b0,b1,b2,b3,bf⟩:=node_cells HQ.out.res
    have bf0:=bf 0
    have bf1:=bf 1
    have bf2:=bf 2
    have bf3:=bf 3
    clear bf
    have HB5:=Lib.hid hbad
    have t9:(u4.bad != 0)=true:=by simpa using hbad
    clear hbad
    go_wp2_with fail
    go_region
    go_wp2_with fail
    obtain ⟨h7,g7⟩:=store4 HQ.out.res (.int .i64 0) (.int .i64 0) (.int .i64 0) (.slice none 0 0)
    generalize ((((w5.setCell ⟨w.heap.size,0,none⟩ (.int .i64 0)).setCell ⟨w.heap.size,1,none⟩ (.int .i64 0)).setCell ⟨w.heap.size,2,none⟩ (.int .i64 0)).setCell ⟨w.heap.size,3,none⟩ (.slice none 0 0))=w7 at h7 g7 ⊢
    have h9:w7.drew.heap[w.heap.size]?=_:=h7
    have g9:=HQ.out.none (g7.trans (grown_drew w7 1 _))
    change Below w.heap.size w w7.drew at g9
    clear b0 b1 b2 b3 bf0 bf1 bf2 bf3 c0 c1 c2 c3 c4 fz
    generalize w7.drew=w9 at h9 g9 ⊢
    obtain ⟨n0,n1,n2,n3,-⟩:=node_cells h9
    exact bodyPost_ret (v:=.tuple #[.agg #[.int .i64 0,.int .i64 0,.int .i64 0,.slice none 0 0],.int .i64 u4.wh,.int .i64 u4.bad]) (by simp [results,Tryz.results24,go_sem,n0,n1,n2,n3]) rfl
     ⟨g9,.inr (.inl ⟨HL.out,by rw [HX.out,HP.out];exact HB5.out,by rw [HX.out,HP.out]⟩)⟩
end Go.Proofs.YtldhmfkojaekfaaGreatDoor
namespace Go.Proofs.YtldhmfkojaekfaaGreatDoor
def Gap (X:TS) (i j:Nat):Prop:=∀ t,i<=t->t<j->X.kind t≠4/\X.kind t≠5/\X.kind t≠7
theorem Gap.none (X:TS) (i:Nat):Gap X i i:=fun t a b=>by omega
theorem Gap.trans {X:TS} {i j k:Nat} (h:Gap X i j) (g:Gap X j k):Gap X i k:=fun t a b=>by
 rcases Nat.lt_or_ge t j with h1|h1
 ·exact h t a h1
 ·exact g t h1 b
theorem Gap.one {X:TS} {i:Nat} (h:X.kind i=6):Gap X i (i+1):=fun t a b=>by
 obtain rfl:t=i:=by omega
 rw [h]
 decide
theorem skip_gap (X:TS) (s:PS):Gap X s.i (s.skip X).i:=by
 have h:∀ (L:List (Int×Nat×Nat)) (j:Nat),j<skipN L->∃ t,L[j]?=some t/\solidK t.1=false:=by
  intro L
  induction L with
  | nil=>intro j hj;simp [skipN] at hj
  | cons t L ih =>
    intro j hj
    unfold skipN at hj
    split at hj
    ·omega
    ·rename_i ht
     cases j with
     | zero=>exact ⟨t,rfl,by simpa using ht⟩
     | succ j=>exact ih j (by omega)
 intro t a b
 have hb:t<s.i+skipN (X.T.drop s.i):=b
 obtain ⟨u,hu,hs⟩:=h (X.T.drop s.i) (t - s.i) (by omega)
 rw [List.getElem?_drop,show s.i+(t - s.i)=t by omega] at hu
 have hk:X.kind t=u.1:=by unfold TS.kind;rw [hu]
 rw [hk]
 unfold solidK at hs
 simp only [Bool.and_eq_false_iff,decide_eq_false_iff_not] at hs
 omega
theorem mark_kind {X:TS} {s:PS} {e:UInt8} (h:s.mark X=e) (he:e≠0):X.kind s.i=6:=by
 by_cases h6:X.kind s.i=6
 ·exact h6
 ·exfalso
  unfold PS.mark at h
  rw [if_neg h6] at h
  exact he h.symm
def Lies (X:TS) (e:Nat):Nat->List Nd->Prop
 | i,[]=>i<=e/\Gap X i e
 | i,n::r=>i<=n.a/\n.a<n.b/\n.b<=e/\Gap X i n.a/\Lies X e n.b r
theorem Lies.from {X:TS} {e i j:Nat} {l:List Nd} (h:Lies X e j l) (hij:i<=j) (g:Gap X i j):Lies X e i l:=by
 cases l with
 | nil=>exact ⟨by have:=h.1;omega,g.trans h.2⟩
 | cons n r=>exact ⟨by have:=h.1;omega,h.2.1,h.2.2.1,g.trans h.2.2.2.1,h.2.2.2.2⟩
theorem Lies.upto {X:TS} {e d:Nat} (hed:e<=d) (g:Gap X e d):∀ {i:Nat} {l:List Nd},Lies X e i l->Lies X d i l
 | i,[],h=>⟨by have:=h.1;omega,h.2.trans g⟩
 | i,n::r,h=>⟨h.1,h.2.1,by have:=h.2.2.1;omega,h.2.2.2.1,Lies.upto hed g h.2.2.2.2⟩
inductive Covers (X:TS):Nd->Prop
 | mk (k:Int) (a b:Nat) (kids:List Nd) (hab:a<=b) (hb:b<=X.T.length) (h:kids=[]\/Lies X b a kids) (hk:∀ n∈kids,Covers X n):Covers X (.mk k a b kids)
structure Res (X:TS) (s:PS) (r:PS×Nd):Prop where
 lo:s.i<=r.2.a
 gap:Gap X s.i r.2.a
 ab:r.2.a<r.2.b
 b:r.2.b=r.1.i
 le:r.1.i<=X.T.length
 cov:Covers X r.2
def Cov (X:TS) (f:PS->PS×Nd):Prop:=∀ s:PS,(f s).1.bad=0->s.i<=X.T.length->Res X s (f s)
theorem good_of {f:PS->PS} (h:Stays f) {s:PS} (hb:(f s).bad=0):s.bad=0:=by
 by_cases h0:s.bad=0
 ·exact h0
 ·exact absurd ((h s h0).1▸hb) h0
theorem fail_not {X:TS} {e:Int} (he:e≠0) {s:PS} (h:(s.fail X e).bad=0):False:=fail_bad X e he s h
theorem leaf_cov (X:TS) (k:Int):Cov X (leafS X k):=fun s hb hi=>by
 have hsk:=skip_fine X s
 have hg:=skip_gap X s
 unfold leafS at hb ⊢
 split at hb
 ·rename_i h3
  rw [if_pos h3]
  have h4:(s.skip X).i<X.T.length:=by
   rcases Nat.lt_or_ge (s.skip X).i X.T.length with h4|h4
   ·exact h4
   ·exfalso
    unfold TS.kind at h3
    rw [List.getElem?_eq_none h4] at h3
    exact absurd h3 (by decide)
  exact ⟨hsk.1,hg,Nat.lt_succ_self _,rfl,h4,.mk _ _ _ _ (Nat.le_succ _) h4 (.inl rfl) (fun n hn=>absurd hn (by simp))⟩
 ·exact (fail_not (by decide) hb).elim
theorem many_cov {X:TS} {kid:PS->PS×Nd} (hk:Cov X kid) (hs:Stays fun s=>(kid s).1) (e:UInt8) (he:e≠0):∀ (f:Nat) (s:PS) (ks:List Nd),(manyS X kid e f s ks).1.bad=0->s.i<=X.T.length ->
 ∃ new,(manyS X kid e f s ks).2=ks++new/\(∀ n∈new,Covers X n)/\Lies X (manyS X kid e f s ks).1.i s.i new/\X.kind (manyS X kid e f s ks).1.i=6/\(manyS X kid e f s ks).1.i<X.T.length
 | 0,s,ks,hb,hi=>(fail_not (X:=X) (e:=4) (by decide) hb).elim
 | f+1,s,ks,hb,hi=>by
   have hs0:s.bad=0:=good_of (f:=fun u=>(manyS X kid e (f+1) u ks).1) (fun u hu=>many_stays X kid e (f+1) u ks hu) hb
   by_cases hm:(s.skip X).mark X=e
   ·have e1:manyS X kid e (f+1) s ks=(s.skip X,ks):=by rw [manyS,if_pos (.inl hm)]
    rw [e1]
    exact ⟨[],by simp,fun n hn=>absurd hn (by simp),⟨(skip_fine X s).1,skip_gap X s⟩,mark_kind hm he,mark_lt hm he⟩
   ·have hn:¬ ((s.skip X).mark X=e\/s.bad≠0):=fun h=>h.elim hm (fun h=>h hs0)
    have hgo:=manyS_go (kid:=kid) (ks:=ks) (Nat.succ_le_succ (Nat.zero_le f)) hn
    rw [hgo] at hb ⊢
    rw [show f+1 - 1=f from rfl] at hb ⊢
    obtain ⟨n,hnd⟩:∃ n,(kid (s.skip X)).2=n:=⟨_,rfl⟩
    obtain ⟨t,ht⟩:∃ t,(kid (s.skip X)).1.skip X=t:=⟨_,rfl⟩
    rw [ht,hnd] at hb ⊢
    have hr0:(roundS X e t).bad=0:=good_of (f:=fun u=>(manyS X kid e f u (ks++[n])).1) (fun u hu=>many_stays X kid e f u _ hu) hb
    have hk0:(kid (s.skip X)).1.bad=0:=by
     have:t.bad=0:=by
      unfold roundS at hr0
      split at hr0
      ·exact hr0
      ·split at hr0
       ·exact hr0
       ·exact (fail_not (by decide) hr0).elim
     rw [<-ht] at this
     exact this
    obtain ⟨Rlo,Rgap,Rab,hRb,Rle,Rcov⟩:=hk (s.skip X) hk0 ((skip_fine X s).2.1 hi)
    rw [hnd] at Rlo Rgap Rab hRb Rcov
    have ht2:(kid (s.skip X)).1.i<=t.i/\Gap X (kid (s.skip X)).1.i t.i/\t.i<=X.T.length:=by
     rw [<-ht]
     exact ⟨(skip_fine X _).1,skip_gap X _,(skip_fine X _).2.1 Rle⟩
    have hnx:t.i<=(roundS X e t).i/\Gap X t.i (roundS X e t).i/\(roundS X e t).i<=X.T.length:=by
     unfold roundS at hr0 ⊢
     split at hr0
     ·rename_i h44
      rw [if_pos h44]
      exact ⟨Nat.le_succ _,Gap.one (mark_kind h44 (by decide)),mark_lt h44 (by decide)⟩
     ·rename_i h44
      rw [if_neg h44]
      split at hr0
      ·rename_i h5
       rw [if_pos h5]
       exact ⟨Nat.le_refl _,Gap.none X _,ht2.2.2⟩
      ·exact (fail_not (by decide) hr0).elim
    obtain ⟨new,h1,h2,h3,h4,h5⟩:=many_cov hk hs e he f (roundS X e t) (ks++[n]) hb hnx.2.2
    have h6:Lies X (manyS X kid e f (roundS X e t) (ks++[n])).1.i n.b new:=h3.from (by rw [hRb];omega) (by rw [hRb];exact ht2.2.1.trans hnx.2.1)
    have h7:n.b<=(manyS X kid e f (roundS X e t) (ks++[n])).1.i:=by
     cases new with
     | nil=>exact h6.1
     | cons m r=>have:=h6.1;have:=h6.2.1;have:=h6.2.2.1;omega
    refine ⟨n::new,by rw [h1];simp,fun m hm=>?_,⟨?_,Rab,h7,?_,h6⟩,h4,h5⟩
    ·rcases List.mem_cons.1 hm with rfl|hm
     ·exact Rcov
     ·exact h2 m hm
    ·have:=(skip_fine X s).1;omega
    ·exact (skip_gap X s).trans Rgap
theorem manyN_cov {X:TS} {kid:PS->PS×Nd} (hk:Cov X kid) (hs:Stays fun s=>(kid s).1) (k:Int) (e:UInt8) (he:e≠0) (s:PS) (hb:(manyN X k e kid s).1.bad=0) (h6:X.kind s.i=6) (hi:s.i<X.T.length):Res X s (manyN X k e kid s):=by
 unfold manyN at hb ⊢
 obtain ⟨new,h1,h2,h3,h4,h5⟩:=many_cov hk hs e he X.F s.inc [] hb hi
 have hl:Lies X ((manyS X kid e X.F s.inc []).1.i+1) s.i new:=(h3.from (Nat.le_succ s.i) (Gap.one h6)).upto (Nat.le_succ _) (Gap.one h4)
 have hle:s.i<(manyS X kid e X.F s.inc []).1.i+1:=by
  have hi:s.inc.i=s.i+1:=rfl
  cases new with
  | nil=>have:=h3.1;omega
  | cons m r=>have:=h3.1;have:=h3.2.1;have:=h3.2.2.1;omega
 refine ⟨Nat.le_refl _,Gap.none X _,hle,rfl,h5,.mk _ _ _ _ (Nat.le_of_lt hle) h5 (.inr ?_) ?_⟩
 ·rw [h1];exact hl
 ·rw [h1];exact h2
theorem colon_good {X:TS} {u:PS} (h:(colonS X u).bad=0):colonS X u=u/\u.bad=0/\X.kind u.i=6/\u.i<X.T.length:=by
 have hb:=colon_bad h
 unfold colonS at h ⊢
 split at h
 ·exact (fail_not (by decide) h).elim
 ·rename_i h2
  rw [if_neg h2]
  refine ⟨rfl,h,?_,hb.2⟩
  by_cases h58:u.mark X=58
  ·exact mark_kind h58 (by decide)
  ·by_cases h61:u.mark X=61
   ·exact mark_kind h61 (by decide)
   ·exact absurd ⟨h,h58,h61⟩ h2
theorem entry_cov {X:TS} {val:PS->PS×Nd} (hv:Cov X val) (hs:Stays fun s=>(val s).1):Cov X (entryS X val):=fun s hb hi=>by
 unfold entryS at hb ⊢
 split at hb
 ·rename_i h;exact absurd hb h
 ·rename_i h
  rw [if_neg h]
  have hcb:(colonS X ((leafS X 2 s).1.skip X)).bad=0:=by
   by_cases h0:(colonS X ((leafS X 2 s).1.skip X)).bad=0
   ·exact h0
   ·exact absurd h0 h
  obtain ⟨c1,c2,c3,c4⟩:=colon_good hcb
  rw [c1] at hb ⊢
  have K:=leaf_cov X 2 s c2 hi
  have V:=hv ((leafS X 2 s).1.skip X).inc hb c4
  generalize hkey:(leafS X 2 s).2=key at *
  generalize hval:(val ((leafS X 2 s).1.skip X).inc)=r at *
  have hVlo:=V.lo
  have hinc:((leafS X 2 s).1.skip X).inc.i=((leafS X 2 s).1.skip X).i+1:=rfl
  have hsk:=(skip_fine X (leafS X 2 s).1).1
  have hKb:=K.b
  rw [hkey] at hKb
  have hKab:=K.ab
  rw [hkey] at hKab
  have hVb:=V.b
  have hVab:=V.ab
  have hVle:=V.le
  have hg:Gap X key.b r.2.a:=by
   rw [hKb]
   exact ((skip_gap X _).trans (Gap.one c3)).trans V.gap
  have hKlo:=K.lo
  rw [hkey] at hKlo
  have hKg:=K.gap
  rw [hkey] at hKg
  have hKc:=K.cov
  rw [hkey] at hKc
  refine ⟨hKlo,hKg,by show key.a<r.2.b;omega,hVb,hVle,.mk _ _ _ _ (by omega) (by omega) (.inr ⟨Nat.le_refl _,hKab,by omega,Gap.none X _,by omega,hVab,Nat.le_refl _,hg,Nat.le_refl _,Gap.none X _⟩) (fun n hn=>?_)⟩
  have:n=key\/n=r.2:=by simpa using hn
  rcases this with rfl|rfl
  ·exact hKc
  ·exact V.cov
theorem Res.skip {X:TS} {s:PS} {r:PS×Nd} (h:Res X (s.skip X) r):Res X s r :=
 ⟨Nat.le_trans (skip_fine X s).1 h.lo,(skip_gap X s).trans h.gap,h.ab,h.b,h.le,h.cov⟩
theorem value_cov (X:TS):∀ r,Cov X (valueS X r)
 | 0=>fun s hb hi=>by
   have hi2:=(skip_fine X s).2.1 hi
   unfold valueS at hb ⊢
   split at hb
   ·exact (fail_not (by decide) hb).elim
   ·rename_i h
    rw [if_neg h]
    exact (leaf_cov X 1 _ hb hi2).skip
 | r+1=>fun s hb hi=>by
   have ih:=value_cov X r
   have hi2:=(skip_fine X s).2.1 hi
   unfold valueS at hb ⊢
   split at hb
   ·rename_i h
    rw [if_pos h]
    exact (manyN_cov (entry_cov ih (value_stays X r)) (entry_stays X _) 3 125 (by decide) _ hb (mark_kind h (by decide)) (mark_lt h (by decide))).skip
   ·rename_i h
    rw [if_neg h]
    split at hb
    ·rename_i h2
     rw [if_pos h2]
     exact (manyN_cov ih (value_stays X r) 5 93 (by decide) _ hb (mark_kind h2 (by decide)) (mark_lt h2 (by decide))).skip
    ·rename_i h2
     rw [if_neg h2]
     exact (leaf_cov X 1 _ hb hi2).skip
theorem Lies.len {X:TS} {e:Nat}:∀ {i:Nat} {l:List Nd},Lies X e i l->i+l.length<=e
 | i,[],h=>h.1
 | i,n::r,h=>by
   have:=Lies.len h.2.2.2.2
   have:=h.1
   have:=h.2.1
   rw [List.length_cons]
   omega
def ends (kids:List Nd) (b:Nat):List Nd:=kids++[.mk 0 b b []]
def atOf (a b:Nat) (kids:List Nd) (j:Nat):Nat:=if j=0 then a else (((ends kids b)[j - 1]?).getD Nd.none).b
theorem Lies.steps {X:TS} {e:Nat}:∀ {i:Nat} {l:List Nd},Lies X e i l->∀ j n,(ends l e)[j]?=some n->atOf i e l j<=n.a/\n.a<=n.b/\n.b<=e/\Gap X (atOf i e l j) n.a
 | i,[],h=>fun j n hj=>by
   cases j with
   | zero =>
     obtain rfl:Nd.mk 0 e e []=n:=by simpa [ends] using hj
     exact ⟨h.1,Nat.le_refl _,Nat.le_refl _,h.2⟩
   | succ j=>simp [ends] at hj
 | i,m::r,h=>fun j n hj=>by
   cases j with
   | zero =>
     obtain rfl:m=n:=by simpa [ends] using hj
     exact ⟨h.1,Nat.le_of_lt h.2.1,h.2.2.1,h.2.2.2.1⟩
   | succ j =>
     have hj':(ends r e)[j]?=some n:=by simpa [ends] using hj
     have:=Lies.steps h.2.2.2.2 j n hj'
     have ha:atOf i e (m::r) (j+1)=atOf m.b e r j:=by
      unfold atOf
      cases j with
      | zero=>simp [ends]
      | succ j=>simp [ends]
     rw [ha]
     exact this
theorem Covers.ab {X:TS} {k:Int} {a b:Nat} {kids:List Nd} (h:Covers X (.mk k a b kids)):a<=b/\b<=X.T.length:=by
 cases h with
 | mk _ _ _ _ hab hb _ _=>exact ⟨hab,hb⟩
theorem Covers.len {X:TS} {k:Int} {a b:Nat} {kids:List Nd} (h:Covers X (.mk k a b kids)):kids.length<=X.T.length:=by
 cases h with
 | mk _ _ _ _ hab hb h _ =>
   rcases h with rfl|h
   ·exact Nat.zero_le _
   ·have:=h.len;omega
theorem Covers.steps {X:TS} {k:Int} {a b:Nat} {kids:List Nd} (h:Covers X (.mk k a b kids)) (j:Nat) (n:Nd) (hj:(ends kids b)[j]?=some n):atOf a b kids j<=n.a/\n.a<=n.b/\n.b<=b/\(0<kids.length->Gap X (atOf a b kids j) n.a):=by
 cases h with
 | mk _ _ _ _ hab hb h _ =>
   rcases h with rfl|h
   ·cases j with
    | zero =>
      obtain rfl:Nd.mk 0 b b []=n:=by simpa [ends] using hj
      exact ⟨hab,Nat.le_refl _,Nat.le_refl _,fun h=>by simp at h⟩
    | succ j=>simp [ends] at hj
   ·have:=h.steps j n hj
    exact ⟨this.1,this.2.1,this.2.2.1,fun _=>this.2.2.2⟩
theorem Covers.kid {X:TS} {n m:Nd} (h:Covers X n) (hm:m∈n.kids):Covers X m:=by
 cases h with
 | mk _ _ _ _ _ _ _ hk=>exact hk m hm
end Go.Proofs.YtldhmfkojaekfaaGreatDoor
