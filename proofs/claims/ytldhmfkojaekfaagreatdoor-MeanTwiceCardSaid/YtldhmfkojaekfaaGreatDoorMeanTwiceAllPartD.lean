/-
  Lemmas for the statement: plain laws, and what functions answer; the conditions stand in each.
-/
import Derived.Deep.DeepCutAuto
import Derived.Test.YtldhmfkojaekfaaGreatDoorMeanTwiceAllPartC
set_option linter.unusedVariables false
set_option linter.unusedSimpArgs false
namespace Go.Proofs.YtldhmfkojaekfaaGreatDoor
open Go.RowKit Gx
set_option maxRecDepth 100000
def ValOk (R:Nat) (ta:Option Addr) (tc:Nat) (S:ByteArray) (X:TS) (deep:Int) (val:PS->PS×Nd):Prop :=
 ∀ (s:PS) (w:World),RS w R ta tc S X s->s.bad=0->s.i<=X.T.length->Calls Tryz.prog 44 #[.pointer (some ⟨R,0,none⟩),.int .i64 deep] w (NP R ta tc S X (val s) w)
structure ER (w:World) (R:Nat) (ta:Option Addr) (tc:Nat) (S:ByteArray) (X:TS) (P:Nat) (key:Nd) (ks:Value) (u:PS) (wx:World):Prop where
 rs:RS wx R ta tc S X u
 res:wx.heap[w.heap.size]?=some (.cells #[.int .i64 0,.int .i64 0,.int .i64 0,.slice none 0 0] 53)
 kb:wx.heap[P]?=some (.cells #[.int .i64 key.k,.int .i64 key.a,.int .i64 key.b,ks] 53)
 kids:KidsAt wx (fun b=>w.heap.size<b) key.kids ks
 lo:w.heap.size<P
 gr:w.grownBy wx (some R)
section
variable {w:World} {R:Nat} {ta:Option Addr} {tc:Nat} {S:ByteArray} {X:TS} {P:Nat} {key:Nd} {ks:Value} {u u2:PS} {wx w2:World}
theorem ER.hi (h:ER w R ta tc S X P key ks u wx):P<wx.heap.size:=(Array.getElem?_eq_some_iff.1 h.kb).1
theorem ER.grow (hR:R<w.heap.size) (h:ER w R ta tc S X P key ks u wx) (hr:RS w2 R ta tc S X u2) (hg:wx.grownBy w2 (some R)):ER w R ta tc S X P key ks u2 w2:=by
 have hs:=h.hi
 have hl:=h.lo
 exact ⟨hr,(hg.block _ (by omega) (fun e=>by have:=Option.some.inj e;omega)).trans h.res,(hg.block _ (by omega) (fun e=>by have:=Option.some.inj e;omega)).trans h.kb,h.kids.grow hg (fun b e=>by have:=Option.some.inj e;omega),hl,h.gr.trans hg⟩
theorem ER.drewN (hR:R<w.heap.size) (h:ER w R ta tc S X P key ks u wx) (n:Nat):ER w R ta tc S X P key ks u (wx.drewN n) :=
 h.grow hR (h.rs.drewN n) (grown_drew _ _ _)
theorem ER.inc (hR:R<w.heap.size) (h:ER w R ta tc S X P key ks u wx):ER w R ta tc S X P key ks u.inc (wx.setCell ⟨R,2,none⟩ (.int .i64 ((u.i:Int)+1))):=by
 have h1:=h.rs.set2 (u.i+1)
 rw [show ((u.i+1:Nat):Int)=(u.i:Int)+1 by omega] at h1
 exact h.grow hR h1 (grown_set _ R 2 _)
theorem ER.start {s0:PS} {w1:World} (hR:R<w.heap.size) (hg:(w.alloc (.cells #[.int .i64 0,.int .i64 0,.int .i64 0,.slice none 0 0] 53)).grownBy w1 (some R)) (hr:RS w1 R ta tc S X s0)
 (hk:KidsAt w1 (fun b=>(w.alloc (.cells #[.int .i64 0,.int .i64 0,.int .i64 0,.slice none 0 0] 53)).heap.size<=b) key.kids ks) :
 ER w R ta tc S X w1.heap.size key ks s0 (w1.alloc (.cells #[.int .i64 key.k,.int .i64 key.a,.int .i64 key.b,ks] 53)):=by
 have hs:=hg.size
 rw [World.size_alloc] at hs
 refine ⟨hr.alloc _,?_,heap_alloc_last _ _,(hk.weak (fun b hb _=>by rw [World.size_alloc] at hb;omega)).grow (grown_alloc w1 _ none) (fun b e=>by simp at e),by omega,((grown_alloc w _ _).trans hg).trans (grown_alloc _ _ _)⟩
 exact (alloc_old_gx w1 _ (by omega)).trans ((hg.block _ (by rw [World.size_alloc];omega) (fun e=>by have:=Option.some.inj e;omega)).trans (heap_alloc_last w _))
theorem ER.fin {s0:PS} {nd:Nd} {vs:Value} {w5 w6:World} (h0:RS w R ta tc S X s0) (h:ER w R ta tc S X P key ks u w5) (hn:KidsAt w5 (fun b=>w.heap.size<b) nd.kids vs) (hg:w5.grownBy w6 (some w.heap.size)) (hz:w6.heap.size=w5.heap.size) :
 KidsAt ((w6.alloc (.cells #[.int .i64 nd.k,.int .i64 nd.a,.int .i64 nd.b,vs] 53)).alloc (.cells #[.int .i64 key.k,.int .i64 key.a,.int .i64 key.b,ks,.int .i64 nd.k,.int .i64 nd.a,.int .i64 nd.b,vs] 53)) (fun b=>w.heap.size<=b) [key,nd] (.slice (some ⟨w5.heap.size+1,0,none⟩) 2 2) /\
 RS ((w6.alloc (.cells #[.int .i64 nd.k,.int .i64 nd.a,.int .i64 nd.b,vs] 53)).alloc (.cells #[.int .i64 key.k,.int .i64 key.a,.int .i64 key.b,ks,.int .i64 nd.k,.int .i64 nd.a,.int .i64 nd.b,vs] 53)) R ta tc S X u /\
 w.grownBy ((w6.alloc (.cells #[.int .i64 nd.k,.int .i64 nd.a,.int .i64 nd.b,vs] 53)).alloc (.cells #[.int .i64 key.k,.int .i64 key.a,.int .i64 key.b,ks,.int .i64 nd.k,.int .i64 nd.a,.int .i64 nd.b,vs] 53)) (some R):=by
 have hs:=h.hi
 have hl:=h.lo
 have hr6:=RS.other h0 h.rs hg (Nat.le_refl _)
 have hg6:=grown_fresh h.gr hg (Nat.le_refl _)
 have gb:∀ {kids:List Nd} {v:Value},KidsAt w5 (fun b=>w.heap.size<b) kids v->KidsAt ((w6.alloc (.cells #[.int .i64 nd.k,.int .i64 nd.a,.int .i64 nd.b,vs] 53)).alloc (.cells #[.int .i64 key.k,.int .i64 key.a,.int .i64 key.b,ks,.int .i64 nd.k,.int .i64 nd.a,.int .i64 nd.b,vs] 53)) (fun b=>w.heap.size<=b) kids v:=fun hk =>
  ((hk.grow hg (fun b e hb=>by have:=Option.some.inj e;omega)).weak (fun b hb _=>by omega)).grow ((grown_alloc _ _ none).trans (grown_alloc _ _ none)) (fun b e=>by simp at e)
 have hc8:∀ j u,([.int .i64 key.k,.int .i64 key.a,.int .i64 key.b,ks,.int .i64 nd.k,.int .i64 nd.a,.int .i64 nd.b,vs]:List Value)[j]?=some u->((w6.alloc (.cells #[.int .i64 nd.k,.int .i64 nd.a,.int .i64 nd.b,vs] 53)).alloc (.cells #[.int .i64 key.k,.int .i64 key.a,.int .i64 key.b,ks,.int .i64 nd.k,.int .i64 nd.a,.int .i64 nd.b,vs] 53)).cell? ⟨w5.heap.size+1,j,none⟩=some u:=fun j u hj=>by
  have h1:=World.cell?_alloc_mark (w6.alloc (.cells #[.int .i64 nd.k,.int .i64 nd.a,.int .i64 nd.b,vs] 53)) #[.int .i64 key.k,.int .i64 key.a,.int .i64 key.b,ks,.int .i64 nd.k,.int .i64 nd.a,.int .i64 nd.b,vs] 53 (0,0) j
  rw [World.size_alloc,hz] at h1
  exact h1.trans (by simpa using hj)
 refine ⟨.row [key,nd] (fun i=>if i=0 then ks else vs) (w5.heap.size+1) 2 (by simp) (by omega) (by simp only [World.size_alloc];omega) (fun i n hi=>?_) (fun i n hi=>?_),(hr6.alloc _).alloc _,hg6.trans ((grown_alloc _ _ _).trans (grown_alloc _ _ _))⟩
 ·match i,hi with
  | 0,hi =>
    have:key=n:=by simpa using hi
    subst this
    exact ⟨hc8 0 _ rfl,hc8 1 _ rfl,hc8 2 _ rfl,hc8 3 _ rfl⟩
  | 1,hi =>
    have:nd=n:=by simpa using hi
    subst this
    exact ⟨hc8 4 _ rfl,hc8 5 _ rfl,hc8 6 _ rfl,hc8 7 _ rfl⟩
  | i+2,hi=>simp at hi
 ·match i,hi with
  | 0,hi =>
    have:key=n:=by simpa using hi
    subst this
    exact gb h.kids
  | 1,hi =>
    have:nd=n:=by simpa using hi
    subst this
    exact gb hn
  | i+2,hi=>simp at hi
theorem ER.none {s0:PS} {w7:World} (h0:RS w R ta tc S X s0) (h:ER w R ta tc S X P key ks u w2) (hg:w2.grownBy w7 (some w.heap.size)):RS w7 R ta tc S X u/\w.grownBy w7 (some R) :=
 ⟨RS.other h0 h.rs hg (Nat.le_refl _),grown_fresh h.gr hg (Nat.le_refl _)⟩
end
theorem entry_none (X:TS) (val:PS->PS×Nd) (s0 u u2:PS) (hu:(leafS X 2 s0).1.skip X=u) (h2:colonS X u=u2) (hb:u2.bad≠0):entryS X val s0=(u2,.none):=by
 unfold entryS
 rw [hu,h2,if_pos hb]
theorem entry_some (X:TS) (val:PS->PS×Nd) (s0 u:PS) (key:Nd) (hu:(leafS X 2 s0).1.skip X=u) (hk:(leafS X 2 s0).2=key) (h2:colonS X u=u) (hb:u.bad=0):entryS X val s0=((val u.inc).1,.mk 4 key.a (val u.inc).2.b [key,(val u.inc).2]):=by
 unfold entryS
 rw [hu,hk,h2,if_neg (fun h=>h hb)]
set_option maxHeartbeats 8000000 in
theorem entry_any (deep:Int) (val:PS->PS×Nd) (R:Nat) (ta:Option Addr) (tc:Nat) (S:ByteArray) (X:TS) (hv:ValOk R ta tc S X deep val) (s:PS) (w:World) (h:RS w R ta tc S X s) (hT:X.T.length<=20000)
 (hb0:s.bad=0) (hi:s.i<=X.T.length) (hpos:∀ j,j<X.T.length->X.pos j<X.l.length) :
 Calls Tryz.prog 71 #[.pointer (some ⟨R,0,none⟩),.int .i64 deep] w (NP R ta tc S X (entryS X val s) w):=by
 have hRl:=h.lt
 have H0:=Lib.hid h
 have HL:=Lib.hid (leaf_any 2 R ta tc S X s _ (h.alloc (.cells #[.int .i64 0,.int .i64 0,.int .i64 0,.slice none 0 0] 53)) hT (by omega))
 have hlf:=leaf_fine X 2 0 s hb0 hi
 dsimp only at hlf
 obtain ⟨s1,hs1⟩:∃ s1,(leafS X 2 s).1=s1:=⟨_,rfl⟩
 obtain ⟨key,hkey⟩:∃ key,(leafS X 2 s).2=key:=⟨_,rfl⟩
 obtain ⟨u,hu⟩:∃ u,s1.skip X=u:=⟨_,rfl⟩
 obtain ⟨mv,hmv⟩:∃ mv:Int,((u.mark X).toNat:Int)=mv:=⟨_,rfl⟩
 have hui:u.i<=X.T.length:=by rw [<-hu,<-hs1];exact (skip_fine X _).2.1 hlf.2.1
 unfold NP at HL
 rw [hs1,hkey] at HL
 rw [hs1] at hlf
 have HS1:=Lib.hid (show (leafS X 2 s).1.skip X=u by rw [hs1];exact hu)
 have hs1i:s1.i<=100000:=by omega
 have HU:=Lib.hid hu
 have HKEY:=Lib.hid hkey
 have HV:=Lib.hid hv
 have HPOS:=Lib.hid hpos
 have HMV:=Lib.hid hmv
 clear h hb0 hlf hs1 hkey hu hv hpos
 go_enter Tryz.func71,Tryz.ntmps71
 go_wp2_with fail
 refine HL.out.mono ?_
 rintro e w1 ⟨ks,rfl,hk1,hr1,hg1⟩
 obtain ⟨ko,kc,rfl⟩:=hk1.form
 have HE1:=Lib.hid (ER.start hRl hg1 hr1 hk1)
 have hlo:w.heap.size<w1.heap.size:=HE1.out.lo
 clear hk1 hr1 hg1 HL
 go_wp2_with fail
 refine (mark_of u mv R ta tc S X s1 _ HE1.out.rs hT hs1i HPOS.out HU.out HMV.out).mono ?_
 rintro e w2 ⟨rfl,hr2,hg2⟩
 have HE2:=Lib.hid (HE1.out.grow hRl hr2 hg2)
 clear hr2 hg2 HE1
 obtain ⟨c0,c1,c2,c3,c4,fz⟩:=HE2.out.rs.cells
 obtain ⟨b0,b1,b2,b3,bf⟩:=node_cells HE2.out.res
 have bf0:=bf 0
 have bf1:=bf 1
 have bf2:=bf 2
 have bf3:=bf 3
 clear bf
 by_cases hbd:u.bad=0
 ·have t2:(u.bad==0)=true:=by simpa using hbd
  by_cases hgo:u.mark X=58\/u.mark X=61
  ·have hcol:colonS X u=u:=by
    unfold colonS
    rw [if_neg]
    rintro ⟨-,h1,h2⟩
    exact hgo.elim h1 h2
   have HEN:=Lib.hid (entry_some X val s u key HS1.out HKEY.out hcol hbd)
   have t3:(u.bad != 0)=false:=by simpa using hbd
   have hui2:u.inc.i<=X.T.length:=by
    show u.i+1<=_
    exact hgo.elim (fun h=>mark_lt h (by decide)) (fun h=>mark_lt h (by decide))
   rcases hgo with hgo|hgo
   ·have e5:mv=58:=by rw [<-hmv,hgo];rfl
    have t5:(mv != 58)=false:=by rw [e5];rfl
    clear hgo e5 hmv hcol
    go_wp2_with fail
    refine (HV.out u.inc _ (HE2.out.inc hRl).rs hbd hui2).mono ?_
    rintro e w5 ⟨vs,rfl,hk5,hr5,hg5⟩
    have hlo4:w.heap.size<(w2.setCell ⟨R,2,none⟩ (.int .i64 ((u.i:Int)+1))).heap.size:=by have:=(HE2.out.inc hRl).hi;omega
    have HE5:=Lib.hid ((HE2.out.inc hRl).grow hRl hr5 hg5)
    have HK5:=Lib.hid (hk5.weak (C:=fun b=>w.heap.size<b) (fun b hb _=>by omega))
    obtain ⟨vo,vc,rfl⟩:=hk5.form
    clear hr5 hg5 hlo4 hk5 b0 b1 b2 b3 bf0 bf1 bf2 bf3 c0 c1 c2 c3 c4 fz
    obtain ⟨b0,b1,b2,b3,bf⟩:=node_cells HE5.out.res
    have bf0:=bf 0
    have bf1:=bf 1
    have bf2:=bf 2
    have bf3:=bf 3
    clear bf
    obtain ⟨k0,k1,k2,k3,-⟩:=node_cells HE5.out.kb
    have hhi:=HE5.out.hi
    have hhi2:w.heap.size<w5.heap.size:=by omega
    obtain ⟨nd,hnd⟩:∃ nd,(val u.inc).2=nd:=⟨_,rfl⟩
    obtain ⟨u5,hu5⟩:∃ u5,(val u.inc).1=u5:=⟨_,rfl⟩
    rw [hnd] at HK5 HEN ⊢
    rw [hu5] at HE5 HEN
    clear hnd hu5
    go_wp2_with fail
    obtain ⟨h7,g7⟩:=store4 HE5.out.res (.int .i64 4) (.int .i64 key.a) (.int .i64 nd.b) (.slice (some ⟨w5.heap.size+1,0,none⟩) 2 2)
    have hz7:((((w5.setCell ⟨w.heap.size,0,none⟩ (.int .i64 4)).setCell ⟨w.heap.size,1,none⟩ (.int .i64 key.a)).setCell ⟨w.heap.size,2,none⟩ (.int .i64 nd.b)).setCell ⟨w.heap.size,3,none⟩ (.slice (some ⟨w5.heap.size+1,0,none⟩) 2 2)).heap.size=w5.heap.size:=by simp [World.setCell]
    generalize ((((w5.setCell ⟨w.heap.size,0,none⟩ (.int .i64 4)).setCell ⟨w.heap.size,1,none⟩ (.int .i64 key.a)).setCell ⟨w.heap.size,2,none⟩ (.int .i64 nd.b)).setCell ⟨w.heap.size,3,none⟩ (.slice (some ⟨w5.heap.size+1,0,none⟩) 2 2))=w6 at h7 g7 hz7 ⊢
    obtain ⟨f0,f1,f2⟩:=HE5.out.fin H0.out HK5.out g7 hz7
    have h9:=(alloc_old_gx (w6.alloc (.cells #[.int .i64 nd.k,.int .i64 nd.a,.int .i64 nd.b,.slice vo nd.kids.length vc] 53)) (.cells #[.int .i64 key.k,.int .i64 key.a,.int .i64 key.b,.slice ko key.kids.length kc,.int .i64 nd.k,.int .i64 nd.a,.int .i64 nd.b,.slice vo nd.kids.length vc] 53) (by rw [World.size_alloc];omega)).trans ((alloc_old_gx w6 _ (by omega)).trans h7)
    clear b0 b1 b2 b3 bf0 bf1 bf2 bf3 k0 k1 k2 k3
    generalize (w6.alloc (.cells #[.int .i64 nd.k,.int .i64 nd.a,.int .i64 nd.b,.slice vo nd.kids.length vc] 53)).alloc (.cells #[.int .i64 key.k,.int .i64 key.a,.int .i64 key.b,.slice ko key.kids.length kc,.int .i64 nd.k,.int .i64 nd.a,.int .i64 nd.b,.slice vo nd.kids.length vc] 53)=w9 at h9 f0 f1 f2 ⊢
    obtain ⟨n0,n1,n2,n3,-⟩:=node_cells h9
    exact bodyPost_ret (v:=.agg #[.int .i64 4,.int .i64 key.a,.int .i64 nd.b,.slice (some ⟨w5.heap.size+1,0,none⟩) 2 2]) (by simp [results,Tryz.results71,go_sem,n0,n1,n2,n3]) rfl
     (by rw [HEN.out];exact ⟨_,rfl,f0,f1,f2⟩)
   ·have e5:mv=61:=by rw [<-hmv,hgo];rfl
    have t5:(mv != 58)=true:=by rw [e5];rfl
    have t6:(mv != 61)=false:=by rw [e5];rfl
    clear hgo e5 hmv hcol
    go_wp2_with fail
    refine (HV.out u.inc _ (HE2.out.inc hRl).rs hbd hui2).mono ?_
    rintro e w5 ⟨vs,rfl,hk5,hr5,hg5⟩
    have hlo4:w.heap.size<(w2.setCell ⟨R,2,none⟩ (.int .i64 ((u.i:Int)+1))).heap.size:=by have:=(HE2.out.inc hRl).hi;omega
    have HE5:=Lib.hid ((HE2.out.inc hRl).grow hRl hr5 hg5)
    have HK5:=Lib.hid (hk5.weak (C:=fun b=>w.heap.size<b) (fun b hb _=>by omega))
    obtain ⟨vo,vc,rfl⟩:=hk5.form
    clear hr5 hg5 hlo4 hk5 b0 b1 b2 b3 bf0 bf1 bf2 bf3 c0 c1 c2 c3 c4 fz
    obtain ⟨b0,b1,b2,b3,bf⟩:=node_cells HE5.out.res
    have bf0:=bf 0
    have bf1:=bf 1
    have bf2:=bf 2
    have bf3:=bf 3
    clear bf
    obtain ⟨k0,k1,k2,k3,-⟩:=node_cells HE5.out.kb
    have hhi:=HE5.out.hi
    have hhi2:w.heap.size<w5.heap.size:=by omega
    obtain ⟨nd,hnd⟩:∃ nd,(val u.inc).2=nd:=⟨_,rfl⟩
    obtain ⟨u5,hu5⟩:∃ u5,(val u.inc).1=u5:=⟨_,rfl⟩
    rw [hnd] at HK5 HEN ⊢
    rw [hu5] at HE5 HEN
    clear hnd hu5
    go_wp2_with fail
    obtain ⟨h7,g7⟩:=store4 HE5.out.res (.int .i64 4) (.int .i64 key.a) (.int .i64 nd.b) (.slice (some ⟨w5.heap.size+1,0,none⟩) 2 2)
    have hz7:((((w5.setCell ⟨w.heap.size,0,none⟩ (.int .i64 4)).setCell ⟨w.heap.size,1,none⟩ (.int .i64 key.a)).setCell ⟨w.heap.size,2,none⟩ (.int .i64 nd.b)).setCell ⟨w.heap.size,3,none⟩ (.slice (some ⟨w5.heap.size+1,0,none⟩) 2 2)).heap.size=w5.heap.size:=by simp [World.setCell]
    generalize ((((w5.setCell ⟨w.heap.size,0,none⟩ (.int .i64 4)).setCell ⟨w.heap.size,1,none⟩ (.int .i64 key.a)).setCell ⟨w.heap.size,2,none⟩ (.int .i64 nd.b)).setCell ⟨w.heap.size,3,none⟩ (.slice (some ⟨w5.heap.size+1,0,none⟩) 2 2))=w6 at h7 g7 hz7 ⊢
    obtain ⟨f0,f1,f2⟩:=HE5.out.fin H0.out HK5.out g7 hz7
    have h9:=(alloc_old_gx (w6.alloc (.cells #[.int .i64 nd.k,.int .i64 nd.a,.int .i64 nd.b,.slice vo nd.kids.length vc] 53)) (.cells #[.int .i64 key.k,.int .i64 key.a,.int .i64 key.b,.slice ko key.kids.length kc,.int .i64 nd.k,.int .i64 nd.a,.int .i64 nd.b,.slice vo nd.kids.length vc] 53) (by rw [World.size_alloc];omega)).trans ((alloc_old_gx w6 _ (by omega)).trans h7)
    clear b0 b1 b2 b3 bf0 bf1 bf2 bf3 k0 k1 k2 k3
    generalize (w6.alloc (.cells #[.int .i64 nd.k,.int .i64 nd.a,.int .i64 nd.b,.slice vo nd.kids.length vc] 53)).alloc (.cells #[.int .i64 key.k,.int .i64 key.a,.int .i64 key.b,.slice ko key.kids.length kc,.int .i64 nd.k,.int .i64 nd.a,.int .i64 nd.b,.slice vo nd.kids.length vc] 53)=w9 at h9 f0 f1 f2 ⊢
    obtain ⟨n0,n1,n2,n3,-⟩:=node_cells h9
    exact bodyPost_ret (v:=.agg #[.int .i64 4,.int .i64 key.a,.int .i64 nd.b,.slice (some ⟨w5.heap.size+1,0,none⟩) 2 2]) (by simp [results,Tryz.results71,go_sem,n0,n1,n2,n3]) rfl
     (by rw [HEN.out];exact ⟨_,rfl,f0,f1,f2⟩)
  ·have n58:¬ mv=58:=fun e=>hgo (.inl (UInt8.toNat_inj.1 (by have h2:=hmv.trans e;exact_mod_cast h2)))
   have n61:¬ mv=61:=fun e=>hgo (.inr (UInt8.toNat_inj.1 (by have h2:=hmv.trans e;exact_mod_cast h2)))
   have t5:(mv != 58)=true:=by simpa using n58
   have t6:(mv != 61)=true:=by simpa using n61
   obtain ⟨u2,hu2⟩:∃ u2,u.fail X 4=u2:=⟨_,rfl⟩
   have hcol:colonS X u=u2:=by
    unfold colonS
    rw [if_pos ⟨hbd,fun h=>hgo (.inl h),fun h=>hgo (.inr h)⟩,hu2]
   have hu2b:u2.bad≠0:=by rw [<-hu2];exact fail_bad X 4 (by decide) u
   have HEN:=Lib.hid (entry_none X val s u u2 HS1.out hcol hu2b)
   have t3:(u2.bad != 0)=true:=by simpa using hu2b
   have HFL:=Lib.hid (fail_any 4 R ta tc S X u _ HE2.out.rs hT (by omega))
   unfold RP at HFL
   rw [hu2] at HFL
   clear hu2b hcol hgo n58 n61 hu2 hmv
   go_wp2_with fail
   refine HFL.out.mono ?_
   rintro e w3 ⟨rfl,hr3,hg3⟩
   have HE3:=Lib.hid (HE2.out.grow hRl hr3 hg3)
   clear hr3 hg3 c0 c1 c2 c3 c4 fz b0 b1 b2 b3 bf0 bf1 bf2 bf3 HFL
   obtain ⟨c0,c1,c2,c3,c4,fz⟩:=HE3.out.rs.cells
   obtain ⟨b0,b1,b2,b3,bf⟩:=node_cells HE3.out.res
   have bf0:=bf 0
   have bf1:=bf 1
   have bf2:=bf 2
   have bf3:=bf 3
   clear bf
   go_wp2_with fail
   obtain ⟨h7,g7⟩:=store4 HE3.out.res (.int .i64 0) (.int .i64 0) (.int .i64 0) (.slice none 0 0)
   generalize (((w3.setCell ⟨w.heap.size,0,none⟩ (.int .i64 0)).setCell ⟨w.heap.size,1,none⟩ (.int .i64 0)).setCell ⟨w.heap.size,2,none⟩ (.int .i64 0)).setCell ⟨w.heap.size,3,none⟩ (.slice none 0 0)=w7 at h7 g7 ⊢
   obtain ⟨f1,f2⟩:=HE3.out.none H0.out g7
   clear b0 b1 b2 b3 bf0 bf1 bf2 bf3
   obtain ⟨n0,n1,n2,n3,-⟩:=node_cells h7
   exact bodyPost_ret (v:=.agg #[.int .i64 0,.int .i64 0,.int .i64 0,.slice none 0 0]) (by simp [results,Tryz.results71,go_sem,n0,n1,n2,n3]) rfl
    (by rw [HEN.out];exact ⟨.slice none 0 0,rfl,.nil,f1,f2⟩)
 ·have t2:(u.bad==0)=false:=by simpa using hbd
  have t3:(u.bad != 0)=true:=by simpa using hbd
  have hcol:colonS X u=u:=by unfold colonS;rw [if_neg (fun h=>hbd h.1)]
  have HEN:=Lib.hid (entry_none X val s u u HS1.out hcol hbd)
  clear hcol hmv hbd
  go_wp2_with fail
  obtain ⟨h7,g7⟩:=store4 HE2.out.res (.int .i64 0) (.int .i64 0) (.int .i64 0) (.slice none 0 0)
  generalize (((w2.setCell ⟨w.heap.size,0,none⟩ (.int .i64 0)).setCell ⟨w.heap.size,1,none⟩ (.int .i64 0)).setCell ⟨w.heap.size,2,none⟩ (.int .i64 0)).setCell ⟨w.heap.size,3,none⟩ (.slice none 0 0)=w7 at h7 g7 ⊢
  obtain ⟨f1,f2⟩:=HE2.out.none H0.out g7
  clear b0 b1 b2 b3 bf0 bf1 bf2 bf3
  obtain ⟨n0,n1,n2,n3,-⟩:=node_cells h7
  exact bodyPost_ret (v:=.agg #[.int .i64 0,.int .i64 0,.int .i64 0,.slice none 0 0]) (by simp [results,Tryz.results71,go_sem,n0,n1,n2,n3]) rfl
   (by rw [HEN.out];exact ⟨.slice none 0 0,rfl,.nil,f1,f2⟩)
end Go.Proofs.YtldhmfkojaekfaaGreatDoor
namespace Go.Proofs.YtldhmfkojaekfaaGreatDoor
open Go.RowKit Gx
set_option maxRecDepth 100000
def EntOk (R:Nat) (ta:Option Addr) (tc:Nat) (S:ByteArray) (X:TS) (deep:Int) (val:PS->PS×Nd):Prop :=
 ∀ (s:PS) (w:World),RS w R ta tc S X s->s.bad=0->s.i<=X.T.length->Calls Tryz.prog 71 #[.pointer (some ⟨R,0,none⟩),.int .i64 deep] w (NP R ta tc S X (val s) w)
set_option maxHeartbeats 4000000 in
theorem clos_entry (b2 b3:Nat) (deep:Int) (kid:PS->PS×Nd) (R:Nat) (ta:Option Addr) (tc:Nat) (S:ByteArray) (X:TS) (w0:World) (h2:w0.heap[b2]?=some (.cells #[.pointer (some ⟨R,0,none⟩)] 90)) (h3:w0.heap[b3]?=some (.cells #[.int .i64 deep] 3))
 (n2:b2≠R) (n3:b3≠R) (hd0:0<=deep) (hd1:deep<=20) (hk:EntOk R ta tc S X (deep+1) kid):KidOk R ta tc S X w0 70 #[.pointer (some ⟨b2,0,none⟩),.pointer (some ⟨b3,0,none⟩)] kid:=by
 intro s w hg h hb hi
 have hRl:=h.lt
 have hz2:=(Array.getElem?_eq_some_iff.1 h2).1
 have hz3:=(Array.getElem?_eq_some_iff.1 h3).1
 have e2:w.heap[b2]?=_:=(hg.block b2 hz2 (fun e=>n2 (Option.some.inj e))).trans h2
 have e3:w.heap[b3]?=_:=(hg.block b3 hz3 (fun e=>n3 (Option.some.inj e))).trans h3
 have c2:w.cell? ⟨b2,0,none⟩=some (.pointer (some ⟨R,0,none⟩)):=by simp [World.cell?,e2]
 have c3:w.cell? ⟨b3,0,none⟩=some (.int .i64 deep):=by simp [World.cell?,e3]
 have hl2:b2<w.heap.size:=(Array.getElem?_eq_some_iff.1 e2).1
 have hl3:b3<w.heap.size:=(Array.getElem?_eq_some_iff.1 e3).1
 have H0:=Lib.hid h
 have HC:=Lib.hid (hk s _ (h.alloc (.cells #[.int .i64 0,.int .i64 0,.int .i64 0,.slice none 0 0] 53)) hb hi)
 clear hg h2 h3 e2 e3 h hk hb
 go_enter Tryz.func70,Tryz.ntmps70
 go_wp2_with fail
 refine HC.out.mono ?_
 rintro e w3 ⟨vs,rfl,hk3,hr3,hg3⟩
 obtain ⟨so,sc,rfl⟩:=hk3.form
 have hh3:w3.heap[w.heap.size]?=some (.cells #[.int .i64 0,.int .i64 0,.int .i64 0,.slice none 0 0] 53) :=
  (hg3.block _ (by simp) (fun e=>by have:=Option.some.inj e;omega)).trans (heap_alloc_last w _)
 have hk4:=hk3.weak (C:=fun b=>w.heap.size<b) (fun b hb _=>by rw [World.size_alloc] at hb;omega)
 have hg4:=(grown_alloc w (.cells #[.int .i64 0,.int .i64 0,.int .i64 0,.slice none 0 0] 53) (some R)).trans hg3
 clear hk3 hg3 c2 c3
 obtain ⟨b0,b1,b2,b3,bf⟩:=node_cells hh3
 have bf0:=bf 0
 have bf1:=bf 1
 have bf2:=bf 2
 have bf3:=bf 3
 have HH3:=Lib.hid hh3
 have HR3:=Lib.hid hr3
 have HK4:=Lib.hid hk4
 have HG4:=Lib.hid hg4
 obtain ⟨nd,hnd⟩:∃ nd,(kid s).2=nd:=⟨_,rfl⟩
 have HND:=Lib.hid hnd
 rw [hnd] at HK4 ⊢
 clear bf hh3 hr3 hk4 hg4 hnd
 go_wp2_with fail
 obtain ⟨h7,g7⟩:=store4 HH3.out (.int .i64 nd.k) (.int .i64 nd.a) (.int .i64 nd.b) (.slice so nd.kids.length sc)
 generalize ((((w3.setCell ⟨w.heap.size,0,none⟩ (.int .i64 nd.k)).setCell ⟨w.heap.size,1,none⟩ (.int .i64 nd.a)).setCell ⟨w.heap.size,2,none⟩ (.int .i64 nd.b)).setCell ⟨w.heap.size,3,none⟩ (.slice so nd.kids.length sc))=w7 at h7 g7 ⊢
 clear b0 b1 b2 b3 bf0 bf1 bf2 bf3
 obtain ⟨n0,n1,n2,n3,-⟩:=node_cells h7
 exact bodyPost_ret (v:=.agg #[.int .i64 nd.k,.int .i64 nd.a,.int .i64 nd.b,.slice so nd.kids.length sc]) (by simp [results,Tryz.results70,go_sem,n0,n1,n2,n3]) rfl
  (by rw [<-HND.out];rw [<-HND.out] at HK4;exact ⟨_,rfl,(HK4.out.grow g7 (fun b e hb=>by have:=Option.some.inj e;omega)).weak (fun b hb _=>by omega),RS.other H0.out HR3.out g7 (Nat.le_refl _),grown_fresh HG4.out g7 (Nat.le_refl _)⟩)
set_option maxHeartbeats 4000000 in
theorem clos_value (b2 b3:Nat) (deep:Int) (kid:PS->PS×Nd) (R:Nat) (ta:Option Addr) (tc:Nat) (S:ByteArray) (X:TS) (w0:World) (h2:w0.heap[b2]?=some (.cells #[.pointer (some ⟨R,0,none⟩)] 90)) (h3:w0.heap[b3]?=some (.cells #[.int .i64 deep] 3))
 (n2:b2≠R) (n3:b3≠R) (hd0:0<=deep) (hd1:deep<=20) (hk:ValOk R ta tc S X (deep+1) kid):KidOk R ta tc S X w0 72 #[.pointer (some ⟨b2,0,none⟩),.pointer (some ⟨b3,0,none⟩)] kid:=by
 intro s w hg h hb hi
 have hRl:=h.lt
 have hz2:=(Array.getElem?_eq_some_iff.1 h2).1
 have hz3:=(Array.getElem?_eq_some_iff.1 h3).1
 have e2:w.heap[b2]?=_:=(hg.block b2 hz2 (fun e=>n2 (Option.some.inj e))).trans h2
 have e3:w.heap[b3]?=_:=(hg.block b3 hz3 (fun e=>n3 (Option.some.inj e))).trans h3
 have c2:w.cell? ⟨b2,0,none⟩=some (.pointer (some ⟨R,0,none⟩)):=by simp [World.cell?,e2]
 have c3:w.cell? ⟨b3,0,none⟩=some (.int .i64 deep):=by simp [World.cell?,e3]
 have hl2:b2<w.heap.size:=(Array.getElem?_eq_some_iff.1 e2).1
 have hl3:b3<w.heap.size:=(Array.getElem?_eq_some_iff.1 e3).1
 have H0:=Lib.hid h
 have HC:=Lib.hid (hk s _ (h.alloc (.cells #[.int .i64 0,.int .i64 0,.int .i64 0,.slice none 0 0] 53)) hb hi)
 clear hg h2 h3 e2 e3 h hk hb
 go_enter Tryz.func72,Tryz.ntmps72
 go_wp2_with fail
 refine HC.out.mono ?_
 rintro e w3 ⟨vs,rfl,hk3,hr3,hg3⟩
 obtain ⟨so,sc,rfl⟩:=hk3.form
 have hh3:w3.heap[w.heap.size]?=some (.cells #[.int .i64 0,.int .i64 0,.int .i64 0,.slice none 0 0] 53) :=
  (hg3.block _ (by simp) (fun e=>by have:=Option.some.inj e;omega)).trans (heap_alloc_last w _)
 have hk4:=hk3.weak (C:=fun b=>w.heap.size<b) (fun b hb _=>by rw [World.size_alloc] at hb;omega)
 have hg4:=(grown_alloc w (.cells #[.int .i64 0,.int .i64 0,.int .i64 0,.slice none 0 0] 53) (some R)).trans hg3
 clear hk3 hg3 c2 c3
 obtain ⟨b0,b1,b2,b3,bf⟩:=node_cells hh3
 have bf0:=bf 0
 have bf1:=bf 1
 have bf2:=bf 2
 have bf3:=bf 3
 have HH3:=Lib.hid hh3
 have HR3:=Lib.hid hr3
 have HK4:=Lib.hid hk4
 have HG4:=Lib.hid hg4
 obtain ⟨nd,hnd⟩:∃ nd,(kid s).2=nd:=⟨_,rfl⟩
 have HND:=Lib.hid hnd
 rw [hnd] at HK4 ⊢
 clear bf hh3 hr3 hk4 hg4 hnd
 go_wp2_with fail
 obtain ⟨h7,g7⟩:=store4 HH3.out (.int .i64 nd.k) (.int .i64 nd.a) (.int .i64 nd.b) (.slice so nd.kids.length sc)
 generalize ((((w3.setCell ⟨w.heap.size,0,none⟩ (.int .i64 nd.k)).setCell ⟨w.heap.size,1,none⟩ (.int .i64 nd.a)).setCell ⟨w.heap.size,2,none⟩ (.int .i64 nd.b)).setCell ⟨w.heap.size,3,none⟩ (.slice so nd.kids.length sc))=w7 at h7 g7 ⊢
 clear b0 b1 b2 b3 bf0 bf1 bf2 bf3
 obtain ⟨n0,n1,n2,n3,-⟩:=node_cells h7
 exact bodyPost_ret (v:=.agg #[.int .i64 nd.k,.int .i64 nd.a,.int .i64 nd.b,.slice so nd.kids.length sc]) (by simp [results,Tryz.results72,go_sem,n0,n1,n2,n3]) rfl
  (by rw [<-HND.out];rw [<-HND.out] at HK4;exact ⟨_,rfl,(HK4.out.grow g7 (fun b e hb=>by have:=Option.some.inj e;omega)).weak (fun b hb _=>by omega),RS.other H0.out HR3.out g7 (Nat.le_refl _),grown_fresh HG4.out g7 (Nat.le_refl _)⟩)
structure VR (w:World) (R:Nat) (ta:Option Addr) (tc:Nat) (S:ByteArray) (X:TS) (deep:Int) (u:PS) (wx:World):Prop where
 rs:RS wx R ta tc S X u
 bp:wx.heap[w.heap.size]?=some (.cells #[.pointer (some ⟨R,0,none⟩)] 90)
 bd:wx.heap[w.heap.size+1]?=some (.cells #[.int .i64 deep] 3)
 res:wx.heap[w.heap.size+2]?=some (.cells #[.int .i64 0,.int .i64 0,.int .i64 0,.slice none 0 0] 53)
 gr:w.grownBy wx (some R)
section
variable {w:World} {R:Nat} {ta:Option Addr} {tc:Nat} {S:ByteArray} {X:TS} {deep:Int} {u u2:PS} {wx w2:World}
theorem VR.size (h:VR w R ta tc S X deep u wx):w.heap.size+3<=wx.heap.size:=by
 have:=(Array.getElem?_eq_some_iff.1 h.res).1
 omega
theorem VR.cells (h:VR w R ta tc S X deep u wx):wx.cell? ⟨w.heap.size,0,none⟩=some (.pointer (some ⟨R,0,none⟩))/\wx.cell? ⟨w.heap.size+1,0,none⟩=some (.int .i64 deep):=by
 have h1:=h.bp
 have h2:=h.bd
 exact ⟨by simp [World.cell?,h1],by simp [World.cell?,h2]⟩
theorem VR.grow (hR:R<w.heap.size) (h:VR w R ta tc S X deep u wx) (hr:RS w2 R ta tc S X u2) (hg:wx.grownBy w2 (some R)):VR w R ta tc S X deep u2 w2:=by
 have hs:=h.size
 exact ⟨hr,(hg.block _ (by omega) (fun e=>by have:=Option.some.inj e;omega)).trans h.bp,(hg.block _ (by omega) (fun e=>by have:=Option.some.inj e;omega)).trans h.bd,(hg.block _ (by omega) (fun e=>by have:=Option.some.inj e;omega)).trans h.res,h.gr.trans hg⟩
theorem VR.drewN (hR:R<w.heap.size) (h:VR w R ta tc S X deep u wx) (n:Nat):VR w R ta tc S X deep u (wx.drewN n) :=
 h.grow hR (h.rs.drewN n) (grown_drew _ _ _)
theorem VR.start (h:RS w R ta tc S X u):VR w R ta tc S X deep u (((w.alloc (.cells #[.pointer (some ⟨R,0,none⟩)] 90)).alloc (.cells #[.int .i64 deep] 3)).alloc (.cells #[.int .i64 0,.int .i64 0,.int .i64 0,.slice none 0 0] 53)):=by
 refine ⟨((h.alloc _).alloc _).alloc _,?_,?_,?_,((grown_alloc _ _ _).trans (grown_alloc _ _ _)).trans (grown_alloc _ _ _)⟩
 ·exact (alloc_old_gx _ _ (by simp only [World.size_alloc];omega)).trans ((alloc_old_gx _ _ (by simp only [World.size_alloc];omega)).trans (heap_alloc_last w _))
 ·refine (alloc_old_gx _ _ (by simp only [World.size_alloc];omega)).trans ?_
  have:=heap_alloc_last (w.alloc (.cells #[.pointer (some ⟨R,0,none⟩)] 90)) (.cells #[.int .i64 deep] 3)
  rwa [World.size_alloc] at this
 ·have:=heap_alloc_last ((w.alloc (.cells #[.pointer (some ⟨R,0,none⟩)] 90)).alloc (.cells #[.int .i64 deep] 3)) (.cells #[.int .i64 0,.int .i64 0,.int .i64 0,.slice none 0 0] 53)
  rwa [World.size_alloc,World.size_alloc] at this
theorem VR.fin {s0:PS} {kids:List Nd} {vs:Value} {w7:World} (h0:RS w R ta tc S X s0) (h:VR w R ta tc S X deep u wx) (hn:KidsAt wx (fun b=>w.heap.size+3<=b) kids vs) (hg:wx.grownBy w7 (some (w.heap.size+2))) :
 KidsAt w7 (fun b=>w.heap.size<=b) kids vs/\RS w7 R ta tc S X u/\w.grownBy w7 (some R) :=
 ⟨(hn.grow hg (fun b e hb=>by have:=Option.some.inj e;omega)).weak (fun b hb _=>by omega),RS.other h0 h.rs hg (by omega),grown_fresh h.gr hg (by omega)⟩
end
set_option maxHeartbeats 8000000 in
theorem value_zero (r:Nat) (deep:Int) (R:Nat) (ta:Option Addr) (tc:Nat) (S:ByteArray) (X:TS) (hT:X.T.length<=20000) (hpos0:∀ j,j<X.T.length->X.pos j<X.l.length) (hr30:r<=20) (hd:deep=20) :
 ValOk R ta tc S X deep (valueS X 0):=by
 intro s w h hb0 hi
 have hRl:=h.lt
 have H0:=Lib.hid h
 obtain ⟨u,hu⟩:∃ u,s.skip X=u:=⟨_,rfl⟩
 obtain ⟨mv,hmv⟩:∃ mv:Int,((u.mark X).toNat:Int)=mv:=⟨_,rfl⟩
 have hui:u.i<=X.T.length:=by rw [<-hu];exact (skip_fine X _).2.1 hi
 have hb:u.bad=0:=by rw [<-hu];exact hb0
 have HV1:=Lib.hid (VR.start (deep:=deep) h)
 have HMk:=Lib.hid (mark_of u mv R ta tc S X s _ HV1.out.rs hT (by omega) hpos0 hu hmv)
 have hpos:=Lib.hid hpos0
 subst hd
 have hvs:valueS X 0 s=(if u.begins X then (u.fail X 5,.none) else leafS X 1 u):=by rw [<-hu];rfl
 have HVS:=Lib.hid hvs
 have HFL:Hid (∀ wz,RS wz R ta tc S X u->Calls Tryz.prog 46 #[.pointer (some ⟨R,0,none⟩),.int .i64 5] wz (RP R ta tc S X (u.fail X 5) wz)):=Lib.hid (fun wz hz=>fail_any 5 R ta tc S X u wz hz hT (by omega))
 clear h hu hpos0 hb0 hvs
 by_cases h1:u.mark X=123
 ·have e1:mv=123:=by rw [<-hmv,h1];rfl
  have t1:(mv==123)=true:=by rw [e1];rfl
  have hlt:=mark_lt h1 (by decide)
  have HEQ:=Lib.hid (show valueS X 0 s=(u.fail X 5,.none) from by rw [HVS.out,if_pos (by unfold PS.begins;rw [h1];rfl)])
  clear hmv HVS hb
  go_enter Tryz.func44,Tryz.ntmps44
  go_wp2_with fail
  refine HMk.out.mono ?_
  rintro e w2 ⟨rfl,hr2,hg2⟩
  have HV2:=Lib.hid (HV1.out.grow hRl hr2 hg2)
  clear hr2 hg2 HMk HV1
  obtain ⟨v0,v1⟩:=HV2.out.cells
  obtain ⟨c0,c1,c2,c3,c4,fz⟩:=HV2.out.rs.cells
  go_wp2_with fail
  go_quiet (fail)
  clear h1 e1
  have HV3:=Lib.hid (HV2.out.drewN hRl nq)
  clear HV2 c0 c1 c2 c3 c4 fz v0 v1
  obtain ⟨v0,v1⟩:=HV3.out.cells
  go_wp2_with fail
  refine HFL.out (w2.drewN nq) HV3.out.rs |>.mono ?_
  rintro e w4 ⟨rfl,hr4,hg4⟩
  have HV4:=Lib.hid (HV3.out.grow hRl hr4 hg4)
  clear hr4 hg4 v0 v1
  obtain ⟨b0,b1,b2,b3,bf⟩:=node_cells HV4.out.res
  have bf0:=bf 0
  have bf1:=bf 1
  have bf2:=bf 2
  have bf3:=bf 3
  clear bf
  go_wp2_with fail
  obtain ⟨h7,g7⟩:=store4 HV4.out.res (.int .i64 0) (.int .i64 0) (.int .i64 0) (.slice none 0 0)
  generalize ((((w4.setCell ⟨w.heap.size+2,0,none⟩ (.int .i64 0)).setCell ⟨w.heap.size+2,1,none⟩ (.int .i64 0)).setCell ⟨w.heap.size+2,2,none⟩ (.int .i64 0)).setCell ⟨w.heap.size+2,3,none⟩ (.slice none 0 0))=w7 at h7 g7 ⊢
  obtain ⟨f0,f1,f2⟩:=HV4.out.fin H0.out .nil g7
  clear b0 b1 b2 b3 bf0 bf1 bf2 bf3
  obtain ⟨n0,n1,n2,n3,-⟩:=node_cells h7
  exact bodyPost_ret (v:=.agg #[.int .i64 0,.int .i64 0,.int .i64 0,.slice none 0 0]) (by simp [results,Tryz.results44,go_sem,n0,n1,n2,n3]) rfl
   (by rw [HEQ.out];exact ⟨_,rfl,f0,f1,f2⟩)
 ·have n1:¬ mv=123:=fun e=>h1 (UInt8.toNat_inj.1 (by have h2:=hmv.trans e;exact_mod_cast h2))
  have t1:(mv==123)=false:=by simpa using n1
  by_cases h2:u.mark X=91
  ·have e1:mv=91:=by rw [<-hmv,h2];rfl
   have t2:(mv==91)=true:=by rw [e1];rfl
   have hlt:=mark_lt h2 (by decide)
   clear n1
   have HEQ:=Lib.hid (show valueS X 0 s=(u.fail X 5,.none) from by rw [HVS.out,if_pos (by unfold PS.begins;rw [h2];rfl)])
   clear hmv HVS hb
   go_enter Tryz.func44,Tryz.ntmps44
   go_wp2_with fail
   refine HMk.out.mono ?_
   rintro e w2 ⟨rfl,hr2,hg2⟩
   have HV2:=Lib.hid (HV1.out.grow hRl hr2 hg2)
   clear hr2 hg2 HMk HV1
   obtain ⟨v0,v1⟩:=HV2.out.cells
   obtain ⟨c0,c1,c2,c3,c4,fz⟩:=HV2.out.rs.cells
   go_wp2_with fail
   go_quiet (fail)
   clear h1 h2 e1
   have HV3:=Lib.hid (HV2.out.drewN hRl nq)
   clear HV2 c0 c1 c2 c3 c4 fz v0 v1
   obtain ⟨v0,v1⟩:=HV3.out.cells
   go_wp2_with fail
   refine HFL.out (w2.drewN nq) HV3.out.rs |>.mono ?_
   rintro e w4 ⟨rfl,hr4,hg4⟩
   have HV4:=Lib.hid (HV3.out.grow hRl hr4 hg4)
   clear hr4 hg4 v0 v1
   obtain ⟨b0,b1,b2,b3,bf⟩:=node_cells HV4.out.res
   have bf0:=bf 0
   have bf1:=bf 1
   have bf2:=bf 2
   have bf3:=bf 3
   clear bf
   go_wp2_with fail
   obtain ⟨h7,g7⟩:=store4 HV4.out.res (.int .i64 0) (.int .i64 0) (.int .i64 0) (.slice none 0 0)
   generalize ((((w4.setCell ⟨w.heap.size+2,0,none⟩ (.int .i64 0)).setCell ⟨w.heap.size+2,1,none⟩ (.int .i64 0)).setCell ⟨w.heap.size+2,2,none⟩ (.int .i64 0)).setCell ⟨w.heap.size+2,3,none⟩ (.slice none 0 0))=w7 at h7 g7 ⊢
   obtain ⟨f0,f1,f2⟩:=HV4.out.fin H0.out .nil g7
   clear b0 b1 b2 b3 bf0 bf1 bf2 bf3
   obtain ⟨n0,n1,n2,n3,-⟩:=node_cells h7
   exact bodyPost_ret (v:=.agg #[.int .i64 0,.int .i64 0,.int .i64 0,.slice none 0 0]) (by simp [results,Tryz.results44,go_sem,n0,n1,n2,n3]) rfl
    (by rw [HEQ.out];exact ⟨_,rfl,f0,f1,f2⟩)
  ·have n2:¬ mv=91:=fun e=>h2 (UInt8.toNat_inj.1 (by have h3:=hmv.trans e;exact_mod_cast h3))
   have t2:(mv==91)=false:=by simpa using n2
   clear n1 n2
   by_cases hlt:u.i<X.T.length
   ·have t3:decide ((u.i:Int)<(X.T.length:Int))=true:=decide_eq_true (by omega)
    have t3n:decide (u.i<X.T.length)=true:=decide_eq_true hlt
    have hi1:(0:Int)<=(u.i:Int):=by omega
    have hi2:(u.i:Int)<(X.T.length:Int):=by omega
    have hkn:(u.i:Int).toNat=u.i:=rfl
    by_cases hk4:X.kind u.i=4
    ·have hkk:=hk4
     have HEQ:=Lib.hid (show valueS X 0 s=(u.fail X 5,.none) from by rw [HVS.out,if_pos (by unfold PS.begins;rw [hk4];exact Bool.or_true _)])
     clear hmv HVS hb
     go_enter Tryz.func44,Tryz.ntmps44
     go_wp2_with fail
     refine HMk.out.mono ?_
     rintro e w2 ⟨rfl,hr2,hg2⟩
     have HV2:=Lib.hid (HV1.out.grow hRl hr2 hg2)
     clear hr2 hg2 HMk HV1
     obtain ⟨v0,v1⟩:=HV2.out.cells
     obtain ⟨c0,c1,c2,c3,c4,fz⟩:=HV2.out.rs.cells
     obtain ⟨tb,rfl,d0,d1⟩:=HV2.out.rs.tok3 u.i hlt
     rw [hkk] at d0
     clear hkk d1
     go_wp2_with fail
     go_quiet (fail)
     clear h1 h2 hk4
     have HV3:=Lib.hid (HV2.out.drewN hRl nq)
     clear HV2 c0 c1 c2 c3 c4 fz v0 v1
     obtain ⟨v0,v1⟩:=HV3.out.cells
     go_wp2_with fail
     refine HFL.out (w2.drewN nq) HV3.out.rs |>.mono ?_
     rintro e w4 ⟨rfl,hr4,hg4⟩
     have HV4:=Lib.hid (HV3.out.grow hRl hr4 hg4)
     clear hr4 hg4 v0 v1
     obtain ⟨b0,b1,b2,b3,bf⟩:=node_cells HV4.out.res
     have bf0:=bf 0
     have bf1:=bf 1
     have bf2:=bf 2
     have bf3:=bf 3
     clear bf
     go_wp2_with fail
     obtain ⟨h7,g7⟩:=store4 HV4.out.res (.int .i64 0) (.int .i64 0) (.int .i64 0) (.slice none 0 0)
     generalize ((((w4.setCell ⟨w.heap.size+2,0,none⟩ (.int .i64 0)).setCell ⟨w.heap.size+2,1,none⟩ (.int .i64 0)).setCell ⟨w.heap.size+2,2,none⟩ (.int .i64 0)).setCell ⟨w.heap.size+2,3,none⟩ (.slice none 0 0))=w7 at h7 g7 ⊢
     obtain ⟨f0,f1,f2⟩:=HV4.out.fin H0.out .nil g7
     clear b0 b1 b2 b3 bf0 bf1 bf2 bf3
     obtain ⟨n0,n1,n2,n3,-⟩:=node_cells h7
     exact bodyPost_ret (v:=.agg #[.int .i64 0,.int .i64 0,.int .i64 0,.slice none 0 0]) (by simp [results,Tryz.results44,go_sem,n0,n1,n2,n3]) rfl
      (by rw [HEQ.out];exact ⟨_,rfl,f0,f1,f2⟩)
    ·by_cases hk5:X.kind u.i=5
     ·have hkk:=hk5
      have HEQ:=Lib.hid (show valueS X 0 s=(u.fail X 5,.none) from by rw [HVS.out,if_pos (by unfold PS.begins;rw [hk5];exact Bool.or_true _)])
      clear hmv HVS hb
      go_enter Tryz.func44,Tryz.ntmps44
      go_wp2_with fail
      refine HMk.out.mono ?_
      rintro e w2 ⟨rfl,hr2,hg2⟩
      have HV2:=Lib.hid (HV1.out.grow hRl hr2 hg2)
      clear hr2 hg2 HMk HV1
      obtain ⟨v0,v1⟩:=HV2.out.cells
      obtain ⟨c0,c1,c2,c3,c4,fz⟩:=HV2.out.rs.cells
      obtain ⟨tb,rfl,d0,d1⟩:=HV2.out.rs.tok3 u.i hlt
      rw [hkk] at d0
      clear hkk d1
      go_wp2_with fail
      go_quiet (fail)
      clear h1 h2 hk4 hk5
      have HV3:=Lib.hid (HV2.out.drewN hRl nq)
      clear HV2 c0 c1 c2 c3 c4 fz v0 v1
      obtain ⟨v0,v1⟩:=HV3.out.cells
      go_wp2_with fail
      refine HFL.out (w2.drewN nq) HV3.out.rs |>.mono ?_
      rintro e w4 ⟨rfl,hr4,hg4⟩
      have HV4:=Lib.hid (HV3.out.grow hRl hr4 hg4)
      clear hr4 hg4 v0 v1
      obtain ⟨b0,b1,b2,b3,bf⟩:=node_cells HV4.out.res
      have bf0:=bf 0
      have bf1:=bf 1
      have bf2:=bf 2
      have bf3:=bf 3
      clear bf
      go_wp2_with fail
      obtain ⟨h7,g7⟩:=store4 HV4.out.res (.int .i64 0) (.int .i64 0) (.int .i64 0) (.slice none 0 0)
      generalize ((((w4.setCell ⟨w.heap.size+2,0,none⟩ (.int .i64 0)).setCell ⟨w.heap.size+2,1,none⟩ (.int .i64 0)).setCell ⟨w.heap.size+2,2,none⟩ (.int .i64 0)).setCell ⟨w.heap.size+2,3,none⟩ (.slice none 0 0))=w7 at h7 g7 ⊢
      obtain ⟨f0,f1,f2⟩:=HV4.out.fin H0.out .nil g7
      clear b0 b1 b2 b3 bf0 bf1 bf2 bf3
      obtain ⟨n0,n1,n2,n3,-⟩:=node_cells h7
      exact bodyPost_ret (v:=.agg #[.int .i64 0,.int .i64 0,.int .i64 0,.slice none 0 0]) (by simp [results,Tryz.results44,go_sem,n0,n1,n2,n3]) rfl
       (by rw [HEQ.out];exact ⟨_,rfl,f0,f1,f2⟩)
     ·obtain ⟨kk,hkk⟩:∃ kk,X.kind u.i=kk:=⟨_,rfl⟩
      have t4:(kk==4)=false:=by rw [<-hkk];simpa using hk4
      have t5:(kk==5)=false:=by rw [<-hkk];simpa using hk5
      have HEQ:=Lib.hid (show valueS X 0 s=leafS X 1 u from by rw [HVS.out,if_neg (by unfold PS.begins isLeaf;simp [h1,h2,hk4,hk5])])
      clear hmv HVS hb
      go_enter Tryz.func44,Tryz.ntmps44
      go_wp2_with fail
      refine HMk.out.mono ?_
      rintro e w2 ⟨rfl,hr2,hg2⟩
      have HV2:=Lib.hid (HV1.out.grow hRl hr2 hg2)
      clear hr2 hg2 HMk HV1
      obtain ⟨v0,v1⟩:=HV2.out.cells
      obtain ⟨c0,c1,c2,c3,c4,fz⟩:=HV2.out.rs.cells
      obtain ⟨tb,rfl,d0,d1⟩:=HV2.out.rs.tok3 u.i hlt
      rw [hkk] at d0
      clear hkk d1
      go_wp2_with fail
      go_quiet (fail)
      clear h1 h2 hk4 hk5
      have HV3:=Lib.hid (HV2.out.drewN hRl nq)
      clear HV2 c0 c1 c2 c3 c4 fz v0 v1
      obtain ⟨v0,v1⟩:=HV3.out.cells
      have HC:=Lib.hid (leaf_any 1 R _ tc S X u (w2.drewN nq) HV3.out.rs hT (by omega))
      go_wp2_with fail
      refine HC.out.mono ?_
      rintro e w4 ⟨vs,rfl,hk4,hr4,hg4⟩
      have hs3:=HV3.out.size
      have HV4:=Lib.hid (HV3.out.grow hRl hr4 hg4)
      have HK4:=Lib.hid (hk4.weak (C:=fun b=>w.heap.size+3<=b) (fun b hb _=>by omega))
      obtain ⟨so,sc,rfl⟩:=hk4.form
      clear hr4 hg4 hk4 v0 v1 hs3 HC
      obtain ⟨nd,hnd⟩:∃ nd,(leafS X 1 u).2=nd:=⟨_,rfl⟩
      have HND:=Lib.hid hnd
      rw [hnd] at HK4 ⊢
      clear hnd
      obtain ⟨b0,b1,b2,b3,bf⟩:=node_cells HV4.out.res
      have bf0:=bf 0
      have bf1:=bf 1
      have bf2:=bf 2
      have bf3:=bf 3
      clear bf
      go_wp2_with fail
      obtain ⟨h7,g7⟩:=store4 HV4.out.res (.int .i64 nd.k) (.int .i64 nd.a) (.int .i64 nd.b) (.slice so nd.kids.length sc)
      generalize ((((w4.setCell ⟨w.heap.size+2,0,none⟩ (.int .i64 nd.k)).setCell ⟨w.heap.size+2,1,none⟩ (.int .i64 nd.a)).setCell ⟨w.heap.size+2,2,none⟩ (.int .i64 nd.b)).setCell ⟨w.heap.size+2,3,none⟩ (.slice so nd.kids.length sc))=w7 at h7 g7 ⊢
      obtain ⟨f0,f1,f2⟩:=HV4.out.fin H0.out HK4.out g7
      clear b0 b1 b2 b3 bf0 bf1 bf2 bf3
      obtain ⟨n0,n1,n2,n3,-⟩:=node_cells h7
      exact bodyPost_ret (v:=.agg #[.int .i64 nd.k,.int .i64 nd.a,.int .i64 nd.b,.slice so nd.kids.length sc]) (by simp [results,Tryz.results44,go_sem,n0,n1,n2,n3]) rfl
       (by rw [HEQ.out];rw [<-HND.out] at f0 ⊢;exact ⟨_,rfl,f0,f1,f2⟩)
   ·have t3:decide ((u.i:Int)<(X.T.length:Int))=false:=decide_eq_false (by omega)
    have t3n:decide (u.i<X.T.length)=false:=decide_eq_false hlt
    have hk0:X.kind u.i=0:=by unfold TS.kind;rw [List.getElem?_eq_none (by omega)]
    have HEQ:=Lib.hid (show valueS X 0 s=leafS X 1 u from by rw [HVS.out,if_neg (by unfold PS.begins isLeaf;simp [h1,h2,hk0])])
    clear hmv HVS hb
    go_enter Tryz.func44,Tryz.ntmps44
    go_wp2_with fail
    refine HMk.out.mono ?_
    rintro e w2 ⟨rfl,hr2,hg2⟩
    have HV2:=Lib.hid (HV1.out.grow hRl hr2 hg2)
    clear hr2 hg2 HMk HV1
    obtain ⟨v0,v1⟩:=HV2.out.cells
    obtain ⟨c0,c1,c2,c3,c4,fz⟩:=HV2.out.rs.cells
    go_wp2_with fail
    go_quiet (fail)
    clear h1 h2 hk0
    have HV3:=Lib.hid (HV2.out.drewN hRl nq)
    clear HV2 c0 c1 c2 c3 c4 fz v0 v1
    obtain ⟨v0,v1⟩:=HV3.out.cells
    have HC:=Lib.hid (leaf_any 1 R _ tc S X u (w2.drewN nq) HV3.out.rs hT (by omega))
    go_wp2_with fail
    refine HC.out.mono ?_
    rintro e w4 ⟨vs,rfl,hk4,hr4,hg4⟩
    have hs3:=HV3.out.size
    have HV4:=Lib.hid (HV3.out.grow hRl hr4 hg4)
    have HK4:=Lib.hid (hk4.weak (C:=fun b=>w.heap.size+3<=b) (fun b hb _=>by omega))
    obtain ⟨so,sc,rfl⟩:=hk4.form
    clear hr4 hg4 hk4 v0 v1 hs3 HC
    obtain ⟨nd,hnd⟩:∃ nd,(leafS X 1 u).2=nd:=⟨_,rfl⟩
    have HND:=Lib.hid hnd
    rw [hnd] at HK4 ⊢
    clear hnd
    obtain ⟨b0,b1,b2,b3,bf⟩:=node_cells HV4.out.res
    have bf0:=bf 0
    have bf1:=bf 1
    have bf2:=bf 2
    have bf3:=bf 3
    clear bf
    go_wp2_with fail
    obtain ⟨h7,g7⟩:=store4 HV4.out.res (.int .i64 nd.k) (.int .i64 nd.a) (.int .i64 nd.b) (.slice so nd.kids.length sc)
    generalize ((((w4.setCell ⟨w.heap.size+2,0,none⟩ (.int .i64 nd.k)).setCell ⟨w.heap.size+2,1,none⟩ (.int .i64 nd.a)).setCell ⟨w.heap.size+2,2,none⟩ (.int .i64 nd.b)).setCell ⟨w.heap.size+2,3,none⟩ (.slice so nd.kids.length sc))=w7 at h7 g7 ⊢
    obtain ⟨f0,f1,f2⟩:=HV4.out.fin H0.out HK4.out g7
    clear b0 b1 b2 b3 bf0 bf1 bf2 bf3
    obtain ⟨n0,n1,n2,n3,-⟩:=node_cells h7
    exact bodyPost_ret (v:=.agg #[.int .i64 nd.k,.int .i64 nd.a,.int .i64 nd.b,.slice so nd.kids.length sc]) (by simp [results,Tryz.results44,go_sem,n0,n1,n2,n3]) rfl
     (by rw [HEQ.out];rw [<-HND.out] at f0 ⊢;exact ⟨_,rfl,f0,f1,f2⟩)
set_option maxHeartbeats 8000000 in
theorem value_succ (r:Nat) (deep:Int) (R:Nat) (ta:Option Addr) (tc:Nat) (S:ByteArray) (X:TS) (hT:X.T.length<=20000) (hpos0:∀ j,j<X.T.length->X.pos j<X.l.length) (hr30:r<=20) (hd:0<=deep/\deep<20) (hF:X.T.length+2<=X.F) (hF2:X.F<=100000) (hIV:ValOk R ta tc S X (deep+1) (valueS X r)) (hIE:EntOk R ta tc S X (deep+1) (entryS X (valueS X r))) :
 ValOk R ta tc S X deep (valueS X (r+1)):=by
 intro s w h hb0 hi
 have hRl:=h.lt
 have H0:=Lib.hid h
 obtain ⟨u,hu⟩:∃ u,s.skip X=u:=⟨_,rfl⟩
 obtain ⟨mv,hmv⟩:∃ mv:Int,((u.mark X).toNat:Int)=mv:=⟨_,rfl⟩
 have hui:u.i<=X.T.length:=by rw [<-hu];exact (skip_fine X _).2.1 hi
 have hb:u.bad=0:=by rw [<-hu];exact hb0
 have HV1:=Lib.hid (VR.start (deep:=deep) h)
 have HMk:=Lib.hid (mark_of u mv R ta tc S X s _ HV1.out.rs hT (by omega) hpos0 hu hmv)
 have hpos:=Lib.hid hpos0
 obtain ⟨hd0,hd1⟩:=hd
 have td:decide (20<=deep)=false:=decide_eq_false (by omega)
 have HIV:=Lib.hid hIV
 have HIE:=Lib.hid hIE
 clear hIV hIE
 have hvs:valueS X (r+1) s=(if u.mark X=123 then manyN X 3 125 (entryS X (valueS X r)) u else if u.mark X=91 then manyN X 5 93 (valueS X r) u else leafS X 1 u):=by rw [<-hu];rfl
 have HVS:=Lib.hid hvs
 clear h hu hpos0 hb0 hvs
 by_cases h1:u.mark X=123
 ·have e1:mv=123:=by rw [<-hmv,h1];rfl
  have t1:(mv==123)=true:=by rw [e1];rfl
  have hlt:=mark_lt h1 (by decide)
  have HEQ:=Lib.hid (show valueS X (r+1) s=manyN X 3 125 (entryS X (valueS X r)) u from by rw [HVS.out,if_pos h1])
  clear hmv HVS
  go_enter Tryz.func44,Tryz.ntmps44
  go_wp2_with fail
  refine HMk.out.mono ?_
  rintro e w2 ⟨rfl,hr2,hg2⟩
  have HV2:=Lib.hid (HV1.out.grow hRl hr2 hg2)
  clear hr2 hg2 HMk HV1
  obtain ⟨v0,v1⟩:=HV2.out.cells
  obtain ⟨c0,c1,c2,c3,c4,fz⟩:=HV2.out.rs.cells
  go_wp2_with fail
  go_quiet (fail)
  clear h1 e1
  have HV3:=Lib.hid (HV2.out.drewN hRl nq)
  clear HV2 c0 c1 c2 c3 c4 fz v0 v1
  obtain ⟨v0,v1⟩:=HV3.out.cells
  have HC:=Lib.hid (many_entry ⟨w.heap.size,0,none⟩ ⟨w.heap.size+1,0,none⟩ 3 125 (by decide) (by decide) _ (entryS X (valueS X r)) R ta tc S X (entry_fine (value_fine X r)) (by omega) u (w2.drewN nq) HV3.out.rs hT hF hF2 hlt hb hpos.out (clos_entry _ _ deep _ R ta tc S X _ HV3.out.bp HV3.out.bd (by omega) (by omega) hd0 (by omega) HIE.out))
  go_wp2_with fail
  refine HC.out.mono ?_
  rintro e w4 ⟨vs,rfl,hk4,hr4,hg4⟩
  have hs3:=HV3.out.size
  have HV4:=Lib.hid (HV3.out.grow hRl hr4 hg4)
  have HK4:=Lib.hid (hk4.weak (C:=fun b=>w.heap.size+3<=b) (fun b hb _=>by omega))
  obtain ⟨so,sc,rfl⟩:=hk4.form
  clear hr4 hg4 hk4 v0 v1 hs3 HC
  obtain ⟨nd,hnd⟩:∃ nd,(manyN X 3 125 (entryS X (valueS X r)) u).2=nd:=⟨_,rfl⟩
  have HND:=Lib.hid hnd
  rw [hnd] at HK4 ⊢
  clear hnd
  obtain ⟨b0,b1,b2,b3,bf⟩:=node_cells HV4.out.res
  have bf0:=bf 0
  have bf1:=bf 1
  have bf2:=bf 2
  have bf3:=bf 3
  clear bf
  go_wp2_with fail
  obtain ⟨h7,g7⟩:=store4 HV4.out.res (.int .i64 nd.k) (.int .i64 nd.a) (.int .i64 nd.b) (.slice so nd.kids.length sc)
  generalize ((((w4.setCell ⟨w.heap.size+2,0,none⟩ (.int .i64 nd.k)).setCell ⟨w.heap.size+2,1,none⟩ (.int .i64 nd.a)).setCell ⟨w.heap.size+2,2,none⟩ (.int .i64 nd.b)).setCell ⟨w.heap.size+2,3,none⟩ (.slice so nd.kids.length sc))=w7 at h7 g7 ⊢
  obtain ⟨f0,f1,f2⟩:=HV4.out.fin H0.out HK4.out g7
  clear b0 b1 b2 b3 bf0 bf1 bf2 bf3
  obtain ⟨n0,n1,n2,n3,-⟩:=node_cells h7
  exact bodyPost_ret (v:=.agg #[.int .i64 nd.k,.int .i64 nd.a,.int .i64 nd.b,.slice so nd.kids.length sc]) (by simp [results,Tryz.results44,go_sem,n0,n1,n2,n3]) rfl
   (by rw [HEQ.out];rw [<-HND.out] at f0 ⊢;exact ⟨_,rfl,f0,f1,f2⟩)
 ·have n1:¬ mv=123:=fun e=>h1 (UInt8.toNat_inj.1 (by have h2:=hmv.trans e;exact_mod_cast h2))
  have t1:(mv==123)=false:=by simpa using n1
  by_cases h2:u.mark X=91
  ·have e1:mv=91:=by rw [<-hmv,h2];rfl
   have t2:(mv==91)=true:=by rw [e1];rfl
   have hlt:=mark_lt h2 (by decide)
   clear n1
   have HEQ:=Lib.hid (show valueS X (r+1) s=manyN X 5 93 (valueS X r) u from by rw [HVS.out,if_neg h1,if_pos h2])
   clear hmv HVS
   go_enter Tryz.func44,Tryz.ntmps44
   go_wp2_with fail
   refine HMk.out.mono ?_
   rintro e w2 ⟨rfl,hr2,hg2⟩
   have HV2:=Lib.hid (HV1.out.grow hRl hr2 hg2)
   clear hr2 hg2 HMk HV1
   obtain ⟨v0,v1⟩:=HV2.out.cells
   obtain ⟨c0,c1,c2,c3,c4,fz⟩:=HV2.out.rs.cells
   go_wp2_with fail
   go_quiet (fail)
   clear h1 h2 e1
   have HV3:=Lib.hid (HV2.out.drewN hRl nq)
   clear HV2 c0 c1 c2 c3 c4 fz v0 v1
   obtain ⟨v0,v1⟩:=HV3.out.cells
   have HC:=Lib.hid (many_value ⟨w.heap.size,0,none⟩ ⟨w.heap.size+1,0,none⟩ 5 93 (by decide) (by decide) _ (valueS X r) R ta tc S X (value_fine X r) (by omega) u (w2.drewN nq) HV3.out.rs hT hF hF2 hlt hb hpos.out (clos_value _ _ deep _ R ta tc S X _ HV3.out.bp HV3.out.bd (by omega) (by omega) hd0 (by omega) HIV.out))
   go_wp2_with fail
   refine HC.out.mono ?_
   rintro e w4 ⟨vs,rfl,hk4,hr4,hg4⟩
   have hs3:=HV3.out.size
   have HV4:=Lib.hid (HV3.out.grow hRl hr4 hg4)
   have HK4:=Lib.hid (hk4.weak (C:=fun b=>w.heap.size+3<=b) (fun b hb _=>by omega))
   obtain ⟨so,sc,rfl⟩:=hk4.form
   clear hr4 hg4 hk4 v0 v1 hs3 HC
   obtain ⟨nd,hnd⟩:∃ nd,(manyN X 5 93 (valueS X r) u).2=nd:=⟨_,rfl⟩
   have HND:=Lib.hid hnd
   rw [hnd] at HK4 ⊢
   clear hnd
   obtain ⟨b0,b1,b2,b3,bf⟩:=node_cells HV4.out.res
   have bf0:=bf 0
   have bf1:=bf 1
   have bf2:=bf 2
   have bf3:=bf 3
   clear bf
   go_wp2_with fail
   obtain ⟨h7,g7⟩:=store4 HV4.out.res (.int .i64 nd.k) (.int .i64 nd.a) (.int .i64 nd.b) (.slice so nd.kids.length sc)
   generalize ((((w4.setCell ⟨w.heap.size+2,0,none⟩ (.int .i64 nd.k)).setCell ⟨w.heap.size+2,1,none⟩ (.int .i64 nd.a)).setCell ⟨w.heap.size+2,2,none⟩ (.int .i64 nd.b)).setCell ⟨w.heap.size+2,3,none⟩ (.slice so nd.kids.length sc))=w7 at h7 g7 ⊢
   obtain ⟨f0,f1,f2⟩:=HV4.out.fin H0.out HK4.out g7
   clear b0 b1 b2 b3 bf0 bf1 bf2 bf3
   obtain ⟨n0,n1,n2,n3,-⟩:=node_cells h7
   exact bodyPost_ret (v:=.agg #[.int .i64 nd.k,.int .i64 nd.a,.int .i64 nd.b,.slice so nd.kids.length sc]) (by simp [results,Tryz.results44,go_sem,n0,n1,n2,n3]) rfl
    (by rw [HEQ.out];rw [<-HND.out] at f0 ⊢;exact ⟨_,rfl,f0,f1,f2⟩)
  ·have n2:¬ mv=91:=fun e=>h2 (UInt8.toNat_inj.1 (by have h3:=hmv.trans e;exact_mod_cast h3))
   have t2:(mv==91)=false:=by simpa using n2
   clear n1 n2
   by_cases hlt:u.i<X.T.length
   ·have t3:decide ((u.i:Int)<(X.T.length:Int))=true:=decide_eq_true (by omega)
    have t3n:decide (u.i<X.T.length)=true:=decide_eq_true hlt
    have hi1:(0:Int)<=(u.i:Int):=by omega
    have hi2:(u.i:Int)<(X.T.length:Int):=by omega
    have hkn:(u.i:Int).toNat=u.i:=rfl
    by_cases hk4:X.kind u.i=4
    ·have hkk:=hk4
     have HEQ:=Lib.hid (show valueS X (r+1) s=leafS X 1 u from by rw [HVS.out,if_neg h1,if_neg h2])
     clear hmv HVS hb
     go_enter Tryz.func44,Tryz.ntmps44
     go_wp2_with fail
     refine HMk.out.mono ?_
     rintro e w2 ⟨rfl,hr2,hg2⟩
     have HV2:=Lib.hid (HV1.out.grow hRl hr2 hg2)
     clear hr2 hg2 HMk HV1
     obtain ⟨v0,v1⟩:=HV2.out.cells
     obtain ⟨c0,c1,c2,c3,c4,fz⟩:=HV2.out.rs.cells
     obtain ⟨tb,rfl,d0,d1⟩:=HV2.out.rs.tok3 u.i hlt
     rw [hkk] at d0
     clear hkk d1
     go_wp2_with fail
     go_quiet (fail)
     clear h1 h2 hk4
     have HV3:=Lib.hid (HV2.out.drewN hRl nq)
     clear HV2 c0 c1 c2 c3 c4 fz v0 v1
     obtain ⟨v0,v1⟩:=HV3.out.cells
     have HC:=Lib.hid (leaf_any 1 R _ tc S X u (w2.drewN nq) HV3.out.rs hT (by omega))
     go_wp2_with fail
     refine HC.out.mono ?_
     rintro e w4 ⟨vs,rfl,hk4,hr4,hg4⟩
     have hs3:=HV3.out.size
     have HV4:=Lib.hid (HV3.out.grow hRl hr4 hg4)
     have HK4:=Lib.hid (hk4.weak (C:=fun b=>w.heap.size+3<=b) (fun b hb _=>by omega))
     obtain ⟨so,sc,rfl⟩:=hk4.form
     clear hr4 hg4 hk4 v0 v1 hs3 HC
     obtain ⟨nd,hnd⟩:∃ nd,(leafS X 1 u).2=nd:=⟨_,rfl⟩
     have HND:=Lib.hid hnd
     rw [hnd] at HK4 ⊢
     clear hnd
     obtain ⟨b0,b1,b2,b3,bf⟩:=node_cells HV4.out.res
     have bf0:=bf 0
     have bf1:=bf 1
     have bf2:=bf 2
     have bf3:=bf 3
     clear bf
     go_wp2_with fail
     obtain ⟨h7,g7⟩:=store4 HV4.out.res (.int .i64 nd.k) (.int .i64 nd.a) (.int .i64 nd.b) (.slice so nd.kids.length sc)
     generalize ((((w4.setCell ⟨w.heap.size+2,0,none⟩ (.int .i64 nd.k)).setCell ⟨w.heap.size+2,1,none⟩ (.int .i64 nd.a)).setCell ⟨w.heap.size+2,2,none⟩ (.int .i64 nd.b)).setCell ⟨w.heap.size+2,3,none⟩ (.slice so nd.kids.length sc))=w7 at h7 g7 ⊢
     obtain ⟨f0,f1,f2⟩:=HV4.out.fin H0.out HK4.out g7
     clear b0 b1 b2 b3 bf0 bf1 bf2 bf3
     obtain ⟨n0,n1,n2,n3,-⟩:=node_cells h7
     exact bodyPost_ret (v:=.agg #[.int .i64 nd.k,.int .i64 nd.a,.int .i64 nd.b,.slice so nd.kids.length sc]) (by simp [results,Tryz.results44,go_sem,n0,n1,n2,n3]) rfl
      (by rw [HEQ.out];rw [<-HND.out] at f0 ⊢;exact ⟨_,rfl,f0,f1,f2⟩)
    ·by_cases hk5:X.kind u.i=5
     ·have hkk:=hk5
      have HEQ:=Lib.hid (show valueS X (r+1) s=leafS X 1 u from by rw [HVS.out,if_neg h1,if_neg h2])
      clear hmv HVS hb
      go_enter Tryz.func44,Tryz.ntmps44
      go_wp2_with fail
      refine HMk.out.mono ?_
      rintro e w2 ⟨rfl,hr2,hg2⟩
      have HV2:=Lib.hid (HV1.out.grow hRl hr2 hg2)
      clear hr2 hg2 HMk HV1
      obtain ⟨v0,v1⟩:=HV2.out.cells
      obtain ⟨c0,c1,c2,c3,c4,fz⟩:=HV2.out.rs.cells
      obtain ⟨tb,rfl,d0,d1⟩:=HV2.out.rs.tok3 u.i hlt
      rw [hkk] at d0
      clear hkk d1
      go_wp2_with fail
      go_quiet (fail)
      clear h1 h2 hk4 hk5
      have HV3:=Lib.hid (HV2.out.drewN hRl nq)
      clear HV2 c0 c1 c2 c3 c4 fz v0 v1
      obtain ⟨v0,v1⟩:=HV3.out.cells
      have HC:=Lib.hid (leaf_any 1 R _ tc S X u (w2.drewN nq) HV3.out.rs hT (by omega))
      go_wp2_with fail
      refine HC.out.mono ?_
      rintro e w4 ⟨vs,rfl,hk4,hr4,hg4⟩
      have hs3:=HV3.out.size
      have HV4:=Lib.hid (HV3.out.grow hRl hr4 hg4)
      have HK4:=Lib.hid (hk4.weak (C:=fun b=>w.heap.size+3<=b) (fun b hb _=>by omega))
      obtain ⟨so,sc,rfl⟩:=hk4.form
      clear hr4 hg4 hk4 v0 v1 hs3 HC
      obtain ⟨nd,hnd⟩:∃ nd,(leafS X 1 u).2=nd:=⟨_,rfl⟩
      have HND:=Lib.hid hnd
      rw [hnd] at HK4 ⊢
      clear hnd
      obtain ⟨b0,b1,b2,b3,bf⟩:=node_cells HV4.out.res
      have bf0:=bf 0
      have bf1:=bf 1
      have bf2:=bf 2
      have bf3:=bf 3
      clear bf
      go_wp2_with fail
      obtain ⟨h7,g7⟩:=store4 HV4.out.res (.int .i64 nd.k) (.int .i64 nd.a) (.int .i64 nd.b) (.slice so nd.kids.length sc)
      generalize ((((w4.setCell ⟨w.heap.size+2,0,none⟩ (.int .i64 nd.k)).setCell ⟨w.heap.size+2,1,none⟩ (.int .i64 nd.a)).setCell ⟨w.heap.size+2,2,none⟩ (.int .i64 nd.b)).setCell ⟨w.heap.size+2,3,none⟩ (.slice so nd.kids.length sc))=w7 at h7 g7 ⊢
      obtain ⟨f0,f1,f2⟩:=HV4.out.fin H0.out HK4.out g7
      clear b0 b1 b2 b3 bf0 bf1 bf2 bf3
      obtain ⟨n0,n1,n2,n3,-⟩:=node_cells h7
      exact bodyPost_ret (v:=.agg #[.int .i64 nd.k,.int .i64 nd.a,.int .i64 nd.b,.slice so nd.kids.length sc]) (by simp [results,Tryz.results44,go_sem,n0,n1,n2,n3]) rfl
       (by rw [HEQ.out];rw [<-HND.out] at f0 ⊢;exact ⟨_,rfl,f0,f1,f2⟩)
     ·obtain ⟨kk,hkk⟩:∃ kk,X.kind u.i=kk:=⟨_,rfl⟩
      have t4:(kk==4)=false:=by rw [<-hkk];simpa using hk4
      have t5:(kk==5)=false:=by rw [<-hkk];simpa using hk5
      have HEQ:=Lib.hid (show valueS X (r+1) s=leafS X 1 u from by rw [HVS.out,if_neg h1,if_neg h2])
      clear hmv HVS hb
      go_enter Tryz.func44,Tryz.ntmps44
      go_wp2_with fail
      refine HMk.out.mono ?_
      rintro e w2 ⟨rfl,hr2,hg2⟩
      have HV2:=Lib.hid (HV1.out.grow hRl hr2 hg2)
      clear hr2 hg2 HMk HV1
      obtain ⟨v0,v1⟩:=HV2.out.cells
      obtain ⟨c0,c1,c2,c3,c4,fz⟩:=HV2.out.rs.cells
      obtain ⟨tb,rfl,d0,d1⟩:=HV2.out.rs.tok3 u.i hlt
      rw [hkk] at d0
      clear hkk d1
      go_wp2_with fail
      go_quiet (fail)
      clear h1 h2 hk4 hk5
      have HV3:=Lib.hid (HV2.out.drewN hRl nq)
      clear HV2 c0 c1 c2 c3 c4 fz v0 v1
      obtain ⟨v0,v1⟩:=HV3.out.cells
      have HC:=Lib.hid (leaf_any 1 R _ tc S X u (w2.drewN nq) HV3.out.rs hT (by omega))
      go_wp2_with fail
      refine HC.out.mono ?_
      rintro e w4 ⟨vs,rfl,hk4,hr4,hg4⟩
      have hs3:=HV3.out.size
      have HV4:=Lib.hid (HV3.out.grow hRl hr4 hg4)
      have HK4:=Lib.hid (hk4.weak (C:=fun b=>w.heap.size+3<=b) (fun b hb _=>by omega))
      obtain ⟨so,sc,rfl⟩:=hk4.form
      clear hr4 hg4 hk4 v0 v1 hs3 HC
      obtain ⟨nd,hnd⟩:∃ nd,(leafS X 1 u).2=nd:=⟨_,rfl⟩
      have HND:=Lib.hid hnd
      rw [hnd] at HK4 ⊢
      clear hnd
      obtain ⟨b0,b1,b2,b3,bf⟩:=node_cells HV4.out.res
      have bf0:=bf 0
      have bf1:=bf 1
      have bf2:=bf 2
      have bf3:=bf 3
      clear bf
      go_wp2_with fail
      obtain ⟨h7,g7⟩:=store4 HV4.out.res (.int .i64 nd.k) (.int .i64 nd.a) (.int .i64 nd.b) (.slice so nd.kids.length sc)
      generalize ((((w4.setCell ⟨w.heap.size+2,0,none⟩ (.int .i64 nd.k)).setCell ⟨w.heap.size+2,1,none⟩ (.int .i64 nd.a)).setCell ⟨w.heap.size+2,2,none⟩ (.int .i64 nd.b)).setCell ⟨w.heap.size+2,3,none⟩ (.slice so nd.kids.length sc))=w7 at h7 g7 ⊢
      obtain ⟨f0,f1,f2⟩:=HV4.out.fin H0.out HK4.out g7
      clear b0 b1 b2 b3 bf0 bf1 bf2 bf3
      obtain ⟨n0,n1,n2,n3,-⟩:=node_cells h7
      exact bodyPost_ret (v:=.agg #[.int .i64 nd.k,.int .i64 nd.a,.int .i64 nd.b,.slice so nd.kids.length sc]) (by simp [results,Tryz.results44,go_sem,n0,n1,n2,n3]) rfl
       (by rw [HEQ.out];rw [<-HND.out] at f0 ⊢;exact ⟨_,rfl,f0,f1,f2⟩)
   ·have t3:decide ((u.i:Int)<(X.T.length:Int))=false:=decide_eq_false (by omega)
    have t3n:decide (u.i<X.T.length)=false:=decide_eq_false hlt
    have hk0:X.kind u.i=0:=by unfold TS.kind;rw [List.getElem?_eq_none (by omega)]
    have HEQ:=Lib.hid (show valueS X (r+1) s=leafS X 1 u from by rw [HVS.out,if_neg h1,if_neg h2])
    clear hmv HVS hb
    go_enter Tryz.func44,Tryz.ntmps44
    go_wp2_with fail
    refine HMk.out.mono ?_
    rintro e w2 ⟨rfl,hr2,hg2⟩
    have HV2:=Lib.hid (HV1.out.grow hRl hr2 hg2)
    clear hr2 hg2 HMk HV1
    obtain ⟨v0,v1⟩:=HV2.out.cells
    obtain ⟨c0,c1,c2,c3,c4,fz⟩:=HV2.out.rs.cells
    go_wp2_with fail
    go_quiet (fail)
    clear h1 h2 hk0
    have HV3:=Lib.hid (HV2.out.drewN hRl nq)
    clear HV2 c0 c1 c2 c3 c4 fz v0 v1
    obtain ⟨v0,v1⟩:=HV3.out.cells
    have HC:=Lib.hid (leaf_any 1 R _ tc S X u (w2.drewN nq) HV3.out.rs hT (by omega))
    go_wp2_with fail
    refine HC.out.mono ?_
    rintro e w4 ⟨vs,rfl,hk4,hr4,hg4⟩
    have hs3:=HV3.out.size
    have HV4:=Lib.hid (HV3.out.grow hRl hr4 hg4)
    have HK4:=Lib.hid (hk4.weak (C:=fun b=>w.heap.size+3<=b) (fun b hb _=>by omega))
    obtain ⟨so,sc,rfl⟩:=hk4.form
    clear hr4 hg4 hk4 v0 v1 hs3 HC
    obtain ⟨nd,hnd⟩:∃ nd,(leafS X 1 u).2=nd:=⟨_,rfl⟩
    have HND:=Lib.hid hnd
    rw [hnd] at HK4 ⊢
    clear hnd
    obtain ⟨b0,b1,b2,b3,bf⟩:=node_cells HV4.out.res
    have bf0:=bf 0
    have bf1:=bf 1
    have bf2:=bf 2
    have bf3:=bf 3
    clear bf
    go_wp2_with fail
    obtain ⟨h7,g7⟩:=store4 HV4.out.res (.int .i64 nd.k) (.int .i64 nd.a) (.int .i64 nd.b) (.slice so nd.kids.length sc)
    generalize ((((w4.setCell ⟨w.heap.size+2,0,none⟩ (.int .i64 nd.k)).setCell ⟨w.heap.size+2,1,none⟩ (.int .i64 nd.a)).setCell ⟨w.heap.size+2,2,none⟩ (.int .i64 nd.b)).setCell ⟨w.heap.size+2,3,none⟩ (.slice so nd.kids.length sc))=w7 at h7 g7 ⊢
    obtain ⟨f0,f1,f2⟩:=HV4.out.fin H0.out HK4.out g7
    clear b0 b1 b2 b3 bf0 bf1 bf2 bf3
    obtain ⟨n0,n1,n2,n3,-⟩:=node_cells h7
    exact bodyPost_ret (v:=.agg #[.int .i64 nd.k,.int .i64 nd.a,.int .i64 nd.b,.slice so nd.kids.length sc]) (by simp [results,Tryz.results44,go_sem,n0,n1,n2,n3]) rfl
     (by rw [HEQ.out];rw [<-HND.out] at f0 ⊢;exact ⟨_,rfl,f0,f1,f2⟩)
theorem value_any (R:Nat) (ta:Option Addr) (tc:Nat) (S:ByteArray) (X:TS) (hT:X.T.length<=20000) (hpos:∀ j,j<X.T.length->X.pos j<X.l.length) (hF:X.T.length+2<=X.F) (hF2:X.F<=100000):∀ (r:Nat) (deep:Int),deep+r=20->r<=20->ValOk R ta tc S X deep (valueS X r)
 | 0,deep,h,_=>value_zero 0 deep R ta tc S X hT hpos (by omega) (by omega)
 | r+1,deep,h,hr=>by
   have ih:=value_any R ta tc S X hT hpos hF hF2 r (deep+1) (by omega) (by omega)
   exact value_succ r deep R ta tc S X hT hpos (by omega) (by omega) hF hF2 ih (fun s w h hb hi=>entry_any (deep+1) _ R ta tc S X ih s w h hT hb hi hpos)
end Go.Proofs.YtldhmfkojaekfaaGreatDoor
namespace Go.Proofs.YtldhmfkojaekfaaGreatDoor
def Short (X:TS) (i j:Nat) (s:PS):Prop:=(s.bad=0/\s.i<=j)\/(s.bad≠0/\s.wh≠X.pos i)
structure BadAt (X:TS) (i j:Nat):Prop where
 row:Row X i
 lt:j<i
 bad:X.kind j=7
variable {X:TS} {i j:Nat}
def Keeps (X:TS) (i j:Nat) (f:PS->PS):Prop:=∀ s,Short X i j s->Short X i j (f s)
end Go.Proofs.YtldhmfkojaekfaaGreatDoor
namespace Go.Proofs.YtldhmfkojaekfaaGreatDoor
def treeOf (l:List UInt8) (F:Nat):TS:=⟨l,toksFrom l 0,F⟩
end Go.Proofs.YtldhmfkojaekfaaGreatDoor
namespace Go.Proofs.YtldhmfkojaekfaaGreatDoor
open Go.RowKit Gx
theorem TokAt.of_own {w:World} {g n b:Nat} {vo:Option Addr} {vc:Nat} {l:List Tok} (h:w.ownsRow b 40 3 (.slice vo n vc) n (tokCells l)) (hn:l.length=n):TokAt w vo l:=by
 by_cases h0:n=0
 ·exact .inl (List.eq_nil_of_length_eq_zero (by omega))
 ·obtain ⟨g,gc,he,hg⟩:∃ g gc,Value.slice vo n vc=.slice (some ⟨g,0,none⟩) n gc/\g<w.heap.size:=by
   rcases h.2 with ⟨h1,h2⟩|⟨g,cap,cur,h1,h2,h3,_⟩
   ·omega
   ·exact ⟨g,cap,h1,(Array.getElem?_eq_some_iff.1 h3).1⟩
  obtain ⟨rfl,rfl⟩:vo=some ⟨g,0,none⟩/\vc=gc:=by simpa using he
  refine .inr ⟨g,rfl,hg,fun k v hv=>?_⟩
  have hk:k<n * 3:=by
   have h1:=tokCells_len l
   have h2:=(List.getElem?_eq_some_iff.1 hv).1
   omega
  rw [h.cellAt k hk];exact hv
theorem tokCells_take (l:List Tok) (k j:Nat) (h:j<k * 3):(tokCells (l.take k))[j]?=(tokCells l)[j]?\/l.length * 3<=j:=by
 by_cases hj:l.length * 3<=j
 ·exact .inr hj
 ·refine .inl ?_
  have h1:tokCells l=tokCells (l.take k)++tokCells (l.drop k):=by
   conv=>lhs;rw [<-List.take_append_drop k l]
   simp only [tokCells,List.flatMap_append]
  rw [h1,List.getElem?_append_left]
  rw [tokCells_len,List.length_take];omega
theorem TokAt.take {w:World} {ad:Option Addr} {l:List Tok} (h:TokAt w ad l) (k:Nat):TokAt w ad (l.take k):=by
 rcases h with rfl|⟨b,h1,h2,h3⟩
 ·exact .inl (by simp)
 ·refine .inr ⟨b,h1,h2,fun j v hv=>h3 j v ?_⟩
  have h4:=(List.getElem?_eq_some_iff.1 hv).1
  rw [tokCells_len,List.length_take] at h4
  rcases tokCells_take l k j (by omega) with h5|h5
  ·rw [<-h5];exact hv
  ·omega
end Go.Proofs.YtldhmfkojaekfaaGreatDoor
