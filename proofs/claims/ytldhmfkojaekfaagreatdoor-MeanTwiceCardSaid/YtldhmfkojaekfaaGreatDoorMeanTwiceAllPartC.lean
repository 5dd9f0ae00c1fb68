/-
  Lemmas for the statement: plain laws, and what functions answer; the conditions stand in each.
-/
import Derived.Deep.RegionLaw
import Derived.Deep.DeepCutAuto
import Derived.Test.YtldhmfkojaekfaaGreatDoorMeanTwiceAllPartB
set_option linter.unusedVariables false
set_option linter.unusedSimpArgs false
namespace Go.Proofs.YtldhmfkojaekfaaGreatDoor
open Go.RowKit Gx
set_option maxRecDepth 100000
def Nd.k:Nd->Int|.mk k _ _ _=>k
def Nd.kids:Nd->List Nd|.mk _ _ _ ks=>ks
inductive KidsAt (w:World) (B:Nat->Prop):List Nd->Value->Prop
 | nil:KidsAt w B [] (.slice none 0 0)
 | row (kids:List Nd) (sl:Nat->Value) (blk cap:Nat) (hne:kids≠[]) (hB:B blk) (hlt:blk<w.heap.size)
    (hc:∀ i n,kids[i]?=some n->w.cell? ⟨blk,i * 4,none⟩=some (.int .i64 n.k)/\w.cell? ⟨blk,i * 4+1,none⟩=some (.int .i64 n.a)/\w.cell? ⟨blk,i * 4+2,none⟩=some (.int .i64 n.b)/\w.cell? ⟨blk,i * 4+3,none⟩=some (sl i))
    (hk:∀ i n,kids[i]?=some n->KidsAt w B n.kids (sl i)):KidsAt w B kids (.slice (some ⟨blk,0,none⟩) kids.length cap)
theorem KidsAt.weak {w:World} {B C:Nat->Prop} {kids:List Nd} {v:Value} (h:KidsAt w B kids v) (hBC:∀ b,B b->b<w.heap.size->C b):KidsAt w C kids v:=by
 induction h with
 | nil=>exact .nil
 | row kids sl blk cap hne hB hlt hc hk ih=>exact .row kids sl blk cap hne (hBC _ hB hlt) hlt hc ih
theorem KidsAt.grow {w w':World} {B:Nat->Prop} {kids:List Nd} {v:Value} {row:Option Nat} (h:KidsAt w B kids v) (hg:w.grownBy w' row) (hr:∀ b,row=some b->¬ B b):KidsAt w' B kids v:=by
 induction h with
 | nil=>exact .nil
 | row kids sl blk cap hne hB hlt hc hk ih =>
   have hne2:some blk≠row:=fun e=>hr blk e.symm hB
   refine .row kids sl blk cap hne hB (Nat.lt_of_lt_of_le hlt hg.size) (fun i n hi=>?_) ih
   obtain ⟨h1,h2,h3,h4⟩:=hc i n hi
   exact ⟨hg.cell h1 hne2,hg.cell h2 hne2,hg.cell h3 hne2,hg.cell h4 hne2⟩
def NP (R:Nat) (ta:Option Addr) (tc:Nat) (S:ByteArray) (X:TS) (r:PS×Nd) (w:World) (e:Ending) (w':World):Prop :=
 ∃ sl,e=.returned (.agg #[.int .i64 r.2.k,.int .i64 r.2.a,.int .i64 r.2.b,sl])/\KidsAt w' (fun b=>w.heap.size<=b) r.2.kids sl/\RS w' R ta tc S X r.1/\w.grownBy w' (some R)
theorem grown_alloc (w:World) (o:Obj) (r:Option Nat):w.grownBy (w.alloc o) r:=⟨rfl,rfl,rfl,by simp,fun k hk _=>alloc_old_gx w o hk⟩
theorem RS.alloc {w:World} {R:Nat} {ta:Option Addr} {tc:Nat} {S:ByteArray} {X:TS} {s:PS} (h:RS w R ta tc S X s) (o:Obj):RS (w.alloc o) R ta tc S X s :=
 ⟨(alloc_old_gx w o h.lt).trans h.obj,h.tok.grow (grown_alloc w o (some R)) h.far,h.str,h.far⟩
theorem node_cells {w:World} {b:Nat} {x y z u:Value} {ty:TypeId} (h:w.heap[b]?=some (.cells #[x,y,z,u] ty)) :
 w.cell? ⟨b,0,none⟩=some x/\w.cell? ⟨b,1,none⟩=some y/\w.cell? ⟨b,2,none⟩=some z/\w.cell? ⟨b,3,none⟩=some u/\∀ j,w.frozen? ⟨b,j,none⟩=false :=
 ⟨by simp [World.cell?,h],by simp [World.cell?,h],by simp [World.cell?,h],by simp [World.cell?,h],fun j=>by simp [World.frozen?,h]⟩
theorem store4 {w:World} {b:Nat} {x y z u:Value} {ty:TypeId} (h:w.heap[b]?=some (.cells #[x,y,z,u] ty)) (x' y' z' u':Value) :
 ((((w.setCell ⟨b,0,none⟩ x').setCell ⟨b,1,none⟩ y').setCell ⟨b,2,none⟩ z').setCell ⟨b,3,none⟩ u').heap[b]?=some (.cells #[x',y',z',u'] ty) /\
 w.grownBy ((((w.setCell ⟨b,0,none⟩ x').setCell ⟨b,1,none⟩ y').setCell ⟨b,2,none⟩ z').setCell ⟨b,3,none⟩ u') (some b):=by
 refine ⟨?_,(((grown_set w b 0 x').trans (grown_set _ b 1 y')).trans (grown_set _ b 2 z')).trans (grown_set _ b 3 u')⟩
 have hs:∀ (v:World) (j:Nat) (q:Value) (A:Array Value),v.heap[b]?=some (.cells A ty)->(v.setCell ⟨b,j,none⟩ q).heap[b]?=some (.cells (A.setIfInBounds j q) ty):=fun v j q A hv=>by
  simp [World.setCell,Array.getElem?_modify,hv]
 rw [hs _ 3 u' _ (hs _ 2 z' _ (hs _ 1 y' _ (hs _ 0 x' _ h)))]
 simp
theorem grown_fresh {w w1 w2:World} {r:Option Nat} {N:Nat} (h1:w.grownBy w1 r) (h2:w1.grownBy w2 (some N)) (hN:w.heap.size<=N):w.grownBy w2 r :=
 ⟨h2.os.trans h1.os,h2.tape.trans h1.tape,h2.output.trans h1.output,Nat.le_trans h1.size h2.size,fun k hk hne =>
   (h2.block k (Nat.lt_of_lt_of_le hk h1.size) (fun e=>by have:=Option.some.inj e;omega)).trans (h1.block k hk hne)⟩
theorem RS.other {w0 w w':World} {R:Nat} {ta:Option Addr} {tc:Nat} {S:ByteArray} {X:TS} {s0 s:PS} {N:Nat} (h0:RS w0 R ta tc S X s0) (h:RS w R ta tc S X s) (hg:w.grownBy w' (some N)) (hN:w0.heap.size<=N):RS w' R ta tc S X s:=by
 have hRN:R≠N:=by have:=h0.lt;omega
 refine ⟨(hg.block R h.lt (fun e=>hRN (Option.some.inj e))).trans h.obj,?_,h.str,h.far⟩
 rcases h.tok with ht|⟨b,h1,h2,h3⟩
 ·exact .inl ht
 ·rcases h0.tok with ht|⟨b',h1',h2',-⟩
  ·exact .inl ht
  ·rw [h1] at h1'
   have e:b=b':=by simpa using h1'
   subst e
   exact .inr ⟨b,h1,Nat.lt_of_lt_of_le h2 hg.size,fun k v hv=>hg.cell (h3 k v hv) (fun e=>by have:b=N:=Option.some.inj e;omega)⟩
set_option maxHeartbeats 8000000 in
theorem leaf_any (kd:Int) (R:Nat) (ta:Option Addr) (tc:Nat) (S:ByteArray) (X:TS) (s:PS) (w:World) (h:RS w R ta tc S X s) (hT:X.T.length<=20000) (hi:s.i<=100000) :
 Calls Tryz.prog 73 #[.pointer (some ⟨R,0,none⟩),.int .i64 kd] w (NP R ta tc S X (leafS X kd s) w):=by
 have hne:R≠w.heap.size:=by have:=h.lt;omega
 have H:=Lib.hid (skip_any R ta tc S X s _ (h.alloc (.cells #[.int .i64 0,.int .i64 0,.int .i64 0,.slice none 0 0] 53)) hT hi)
 unfold RP at H
 have hsk:=skip_i X s
 have H0:=Lib.hid h
 clear h
 have hlf:leafS X kd s=if isLeaf (X.kind (s.skip X).i) then ((s.skip X).inc,.mk kd (s.skip X).i ((s.skip X).i+1) []) else ((s.skip X).fail X 4,.none):=rfl
 have HLF:=Lib.hid hlf
 clear hlf
 generalize s.skip X=u at H hsk HLF
 by_cases hlt:u.i<X.T.length
 ·have t1:decide ((X.T.length:Int)<=(u.i:Int))=false:=decide_eq_false (by omega)
  have t1n:decide (X.T.length<=u.i)=false:=decide_eq_false (by omega)
  have hi1:(0:Int)<=(u.i:Int):=by omega
  have hi2:(u.i:Int)<(X.T.length:Int):=by omega
  have hkn:(u.i:Int).toNat=u.i:=rfl
  go_enter Tryz.func73,Tryz.ntmps73
  go_wp2_with fail
  refine H.out.mono ?_
  rintro e w2 ⟨rfl,hr,hg⟩
  obtain ⟨b,rfl,d0,d1⟩:=hr.tok3 u.i hlt
  obtain ⟨c0,c1,c2,c3,c4,fz⟩:=hr.cells
  have hh4:w2.heap[w.heap.size]?=some (.cells #[.int .i64 0,.int .i64 0,.int .i64 0,.slice none 0 0] 53) :=
   (hg.block _ (by simp) (fun e=>hne (Option.some.inj e).symm)).trans (heap_alloc_last w _)
  have HR:=Lib.hid hr
  have HG:=Lib.hid ((grown_alloc w _ (some R)).trans hg)
  have HH4:=Lib.hid hh4
  clear hr hg hh4
  obtain ⟨kk,hkk⟩:∃ kk,kk=X.kind u.i:=⟨_,rfl⟩
  rw [<-hkk] at d0 HLF
  by_cases hlk:isLeaf kk=true
  ·have hkd:kk=4\/kk=5:=by unfold isLeaf at hlk;simpa using hlk
   rw [if_pos hlk] at HLF
   clear hkk hlk
   rcases hkd with rfl|rfl
   ·go_wp2_with fail
    clear c0 c3 c4 d1 hsk
    go_quiet (fail)
    go_wp2_with fail
    have hr5:=(HR.out.drewN nq).set2 (u.i+1)
    have hg5:=(HG.out.trans (grown_drew w2 nq (some R))).trans (grown_set (w2.drewN nq) R 2 (.int .i64 (u.i+1:Nat)))
    have hh5:((w2.drewN nq).setCell ⟨R,2,none⟩ (.int .i64 (u.i+1:Nat))).heap[w.heap.size]?=some (.cells #[.int .i64 0,.int .i64 0,.int .i64 0,.slice none 0 0] 53) :=
     ((grown_set (w2.drewN nq) R 2 (.int .i64 (u.i+1:Nat))).block _ (Array.getElem?_eq_some_iff.1 HH4.out).1 (fun e=>hne (Option.some.inj e).symm)).trans HH4.out
    rw [show ((u.i+1:Nat):Int)=(u.i:Int)+1 by omega] at hr5 hg5 hh5
    generalize (w2.drewN nq).setCell ⟨R,2,none⟩ (.int .i64 ((u.i:Int)+1))=w5 at hr5 hg5 hh5 ⊢
    obtain ⟨n0,n1,n2,n3,nf⟩:=node_cells hh5
    obtain ⟨-,-,i2,-,-,-⟩:=hr5.cells
    have i2':w5.cell? ⟨R,2,none⟩=some (.int .i64 ((u.i:Int)+1)):=by rw [show ((u.i:Int)+1)=((u.i+1:Nat):Int) by omega];exact i2
    clear i2 c1 c2 d0 fz
    have HR5:=Lib.hid hr5
    have HG5:=Lib.hid hg5
    clear hr5 hg5
    go_still_tail 11,(by kernel_rfl)
    change wpList _ _ _ _ _ w5.drew
    have hh6:w5.drew.heap[w.heap.size]?=some (.cells #[.int .i64 0,.int .i64 0,.int .i64 0,.slice none 0 0] 53):=hh5
    clear n0 n1 n2 n3 nf hh5 i2'
    generalize hw6:w5.drew=w6 at hh6 ⊢
    have HW6:=Lib.hid hw6
    clear hw6
    obtain ⟨n0,n1,n2,n3,nf⟩:=node_cells hh6
    have f0:=nf 0
    have f1:=nf 1
    have f2:=nf 2
    have f3:=nf 3
    clear nf
    have HH6:=Lib.hid hh6
    clear hh6
    go_wp2_with fail
    obtain ⟨h7,g7⟩:=store4 HH6.out (.int .i64 kd) (.int .i64 (u.i:Int)) (.int .i64 ((u.i:Int)+1)) (.slice none 0 0)
    generalize (((w6.setCell ⟨w.heap.size,0,none⟩ (.int .i64 kd)).setCell ⟨w.heap.size,1,none⟩ (.int .i64 (u.i:Int))).setCell ⟨w.heap.size,2,none⟩ (.int .i64 ((u.i:Int)+1))).setCell ⟨w.heap.size,3,none⟩ (.slice none 0 0)=w7 at h7 g7 ⊢
    clear n0 n1 n2 n3 f0 f1 f2 f3
    obtain ⟨n0,n1,n2,n3,nf⟩:=node_cells h7
    have g67:w5.grownBy w7 (some w.heap.size):=(grown_drew w5 1 _).trans (by rw [show w5.drewN 1=w6 from HW6.out];exact g7)
    exact bodyPost_ret (v:=.agg #[.int .i64 kd,.int .i64 (u.i:Int),.int .i64 ((u.i:Int)+1),.slice none 0 0]) (by simp [results,Tryz.results73,go_sem,n0,n1,n2,n3]) rfl
     (by rw [HLF.out];exact ⟨.slice none 0 0,rfl,.nil,RS.other H0.out HR5.out g67 (Nat.le_refl _),grown_fresh HG5.out g67 (Nat.le_refl _)⟩)
   ·go_wp2_with fail
    clear c0 c3 c4 d1 hsk
    go_quiet (fail)
    go_wp2_with fail
    have hr5:=(HR.out.drewN nq).set2 (u.i+1)
    have hg5:=(HG.out.trans (grown_drew w2 nq (some R))).trans (grown_set (w2.drewN nq) R 2 (.int .i64 (u.i+1:Nat)))
    have hh5:((w2.drewN nq).setCell ⟨R,2,none⟩ (.int .i64 (u.i+1:Nat))).heap[w.heap.size]?=some (.cells #[.int .i64 0,.int .i64 0,.int .i64 0,.slice none 0 0] 53) :=
     ((grown_set (w2.drewN nq) R 2 (.int .i64 (u.i+1:Nat))).block _ (Array.getElem?_eq_some_iff.1 HH4.out).1 (fun e=>hne (Option.some.inj e).symm)).trans HH4.out
    rw [show ((u.i+1:Nat):Int)=(u.i:Int)+1 by omega] at hr5 hg5 hh5
    generalize (w2.drewN nq).setCell ⟨R,2,none⟩ (.int .i64 ((u.i:Int)+1))=w5 at hr5 hg5 hh5 ⊢
    obtain ⟨n0,n1,n2,n3,nf⟩:=node_cells hh5
    obtain ⟨-,-,i2,-,-,-⟩:=hr5.cells
    have i2':w5.cell? ⟨R,2,none⟩=some (.int .i64 ((u.i:Int)+1)):=by rw [show ((u.i:Int)+1)=((u.i+1:Nat):Int) by omega];exact i2
    clear i2 c1 c2 d0 fz
    have HR5:=Lib.hid hr5
    have HG5:=Lib.hid hg5
    clear hr5 hg5
    go_still_tail 11,(by kernel_rfl)
    change wpList _ _ _ _ _ w5.drew
    have hh6:w5.drew.heap[w.heap.size]?=some (.cells #[.int .i64 0,.int .i64 0,.int .i64 0,.slice none 0 0] 53):=hh5
    clear n0 n1 n2 n3 nf hh5 i2'
    generalize hw6:w5.drew=w6 at hh6 ⊢
    have HW6:=Lib.hid hw6
    clear hw6
    obtain ⟨n0,n1,n2,n3,nf⟩:=node_cells hh6
    have f0:=nf 0
    have f1:=nf 1
    have f2:=nf 2
    have f3:=nf 3
    clear nf
    have HH6:=Lib.hid hh6
    clear hh6
    go_wp2_with fail
    obtain ⟨h7,g7⟩:=store4 HH6.out (.int .i64 kd) (.int .i64 (u.i:Int)) (.int .i64 ((u.i:Int)+1)) (.slice none 0 0)
    generalize (((w6.setCell ⟨w.heap.size,0,none⟩ (.int .i64 kd)).setCell ⟨w.heap.size,1,none⟩ (.int .i64 (u.i:Int))).setCell ⟨w.heap.size,2,none⟩ (.int .i64 ((u.i:Int)+1))).setCell ⟨w.heap.size,3,none⟩ (.slice none 0 0)=w7 at h7 g7 ⊢
    clear n0 n1 n2 n3 f0 f1 f2 f3
    obtain ⟨n0,n1,n2,n3,nf⟩:=node_cells h7
    have g67:w5.grownBy w7 (some w.heap.size):=(grown_drew w5 1 _).trans (by rw [show w5.drewN 1=w6 from HW6.out];exact g7)
    exact bodyPost_ret (v:=.agg #[.int .i64 kd,.int .i64 (u.i:Int),.int .i64 ((u.i:Int)+1),.slice none 0 0]) (by simp [results,Tryz.results73,go_sem,n0,n1,n2,n3]) rfl
     (by rw [HLF.out];exact ⟨.slice none 0 0,rfl,.nil,RS.other H0.out HR5.out g67 (Nat.le_refl _),grown_fresh HG5.out g67 (Nat.le_refl _)⟩)
  ·have t4:(kk != 4)=true:=by
    unfold isLeaf at hlk
    simp only [Bool.or_eq_true,decide_eq_true_eq,not_or] at hlk
    simpa using hlk.1
   have t5:(kk != 5)=true:=by
    unfold isLeaf at hlk
    simp only [Bool.or_eq_true,decide_eq_true_eq,not_or] at hlk
    simpa using hlk.2
   rw [if_neg hlk] at HLF
   clear hkk hlk
   go_wp2_with fail
   clear c0 c3 c4 d1
   go_quiet (fail)
   go_wp2_with fail
   have HR':=Lib.hid (HR.out.drewN nq)
   have HG':=Lib.hid (HG.out.trans (grown_drew w2 nq (some R)))
   have HH4':Hid ((w2.drewN nq).heap[w.heap.size]?=some (.cells #[.int .i64 0,.int .i64 0,.int .i64 0,.slice none 0 0] 53)):=Lib.hid (show (w2.drewN nq).heap[w.heap.size]?=_ from HH4.out)
   clear c1 c2 d0 fz
   refine (fail_any 4 R _ tc S X u _ HR'.out hT (by omega)).mono ?_
   rintro e w3 ⟨rfl,hr3,hg3⟩
   have hh3:w3.heap[w.heap.size]?=some (.cells #[.int .i64 0,.int .i64 0,.int .i64 0,.slice none 0 0] 53) :=
    (hg3.block _ (Array.getElem?_eq_some_iff.1 HH4'.out).1 (fun e=>hne (Option.some.inj e).symm)).trans HH4'.out
   obtain ⟨n0,n1,n2,n3,nf⟩:=node_cells hh3
   have f0:=nf 0
   have f1:=nf 1
   have f2:=nf 2
   have f3:=nf 3
   clear nf
   have HH3:=Lib.hid hh3
   have HR3:=Lib.hid hr3
   have HG3:=Lib.hid (HG'.out.trans hg3)
   clear hh3 hr3 hg3
   go_wp2_with fail
   obtain ⟨h7,g7⟩:=store4 HH3.out (.int .i64 0) (.int .i64 0) (.int .i64 0) (.slice none 0 0)
   generalize (((w3.setCell ⟨w.heap.size,0,none⟩ (.int .i64 0)).setCell ⟨w.heap.size,1,none⟩ (.int .i64 0)).setCell ⟨w.heap.size,2,none⟩ (.int .i64 0)).setCell ⟨w.heap.size,3,none⟩ (.slice none 0 0)=w7 at h7 g7 ⊢
   clear n0 n1 n2 n3 f0 f1 f2 f3
   obtain ⟨n0,n1,n2,n3,nf⟩:=node_cells h7
   exact bodyPost_ret (v:=.agg #[.int .i64 0,.int .i64 0,.int .i64 0,.slice none 0 0]) (by simp [results,Tryz.results73,go_sem,n0,n1,n2,n3]) rfl
    (by rw [HLF.out];exact ⟨.slice none 0 0,rfl,.nil,RS.other H0.out HR3.out g7 (Nat.le_refl _),grown_fresh HG3.out g7 (Nat.le_refl _)⟩)
 ·have t1:decide ((X.T.length:Int)<=(u.i:Int))=true:=decide_eq_true (by omega)
  have t1n:decide (X.T.length<=u.i)=true:=decide_eq_true (by omega)
  have hk0:X.kind u.i=0:=by unfold TS.kind;rw [List.getElem?_eq_none (by omega)]
  rw [hk0,if_neg (by decide)] at HLF
  clear hk0
  go_enter Tryz.func73,Tryz.ntmps73
  go_wp2_with fail
  refine H.out.mono ?_
  rintro e w2 ⟨rfl,hr,hg⟩
  obtain ⟨c0,c1,c2,c3,c4,fz⟩:=hr.cells
  have hh4:w2.heap[w.heap.size]?=some (.cells #[.int .i64 0,.int .i64 0,.int .i64 0,.slice none 0 0] 53) :=
   (hg.block _ (by simp) (fun e=>hne (Option.some.inj e).symm)).trans (heap_alloc_last w _)
  have HR:=Lib.hid hr
  have HG:=Lib.hid ((grown_alloc w _ (some R)).trans hg)
  have HH4:=Lib.hid hh4
  clear hr hg hh4
  go_wp2_with fail
  clear c0 c3 c4
  go_quiet (fail)
  go_wp2_with fail
  have HR':=Lib.hid (HR.out.drewN nq)
  have HG':=Lib.hid (HG.out.trans (grown_drew w2 nq (some R)))
  have HH4':Hid ((w2.drewN nq).heap[w.heap.size]?=some (.cells #[.int .i64 0,.int .i64 0,.int .i64 0,.slice none 0 0] 53)):=Lib.hid (show (w2.drewN nq).heap[w.heap.size]?=_ from HH4.out)
  clear c1 c2 fz
  refine (fail_any 4 R _ tc S X u _ HR'.out hT (by omega)).mono ?_
  rintro e w3 ⟨rfl,hr3,hg3⟩
  have hh3:w3.heap[w.heap.size]?=some (.cells #[.int .i64 0,.int .i64 0,.int .i64 0,.slice none 0 0] 53) :=
   (hg3.block _ (Array.getElem?_eq_some_iff.1 HH4'.out).1 (fun e=>hne (Option.some.inj e).symm)).trans HH4'.out
  obtain ⟨n0,n1,n2,n3,nf⟩:=node_cells hh3
  have f0:=nf 0
  have f1:=nf 1
  have f2:=nf 2
  have f3:=nf 3
  clear nf
  have HH3:=Lib.hid hh3
  have HR3:=Lib.hid hr3
  have HG3:=Lib.hid (HG'.out.trans hg3)
  clear hh3 hr3 hg3
  go_wp2_with fail
  obtain ⟨h7,g7⟩:=store4 HH3.out (.int .i64 0) (.int .i64 0) (.int .i64 0) (.slice none 0 0)
  generalize (((w3.setCell ⟨w.heap.size,0,none⟩ (.int .i64 0)).setCell ⟨w.heap.size,1,none⟩ (.int .i64 0)).setCell ⟨w.heap.size,2,none⟩ (.int .i64 0)).setCell ⟨w.heap.size,3,none⟩ (.slice none 0 0)=w7 at h7 g7 ⊢
  clear n0 n1 n2 n3 f0 f1 f2 f3
  obtain ⟨n0,n1,n2,n3,nf⟩:=node_cells h7
  exact bodyPost_ret (v:=.agg #[.int .i64 0,.int .i64 0,.int .i64 0,.slice none 0 0]) (by simp [results,Tryz.results73,go_sem,n0,n1,n2,n3]) rfl
   (by rw [HLF.out];exact ⟨.slice none 0 0,rfl,.nil,RS.other H0.out HR3.out g7 (Nat.le_refl _),grown_fresh HG3.out g7 (Nat.le_refl _)⟩)
theorem skipN_len:∀ L:List (Int×Nat×Nat),skipN L<=L.length
 | []=>Nat.le_refl _
 | t::L=>by have:=skipN_len L;unfold skipN;split<;>simp<;>omega
theorem skip_fine (X:TS) (s:PS):s.i<=(s.skip X).i/\(s.i<=X.T.length->(s.skip X).i<=X.T.length)/\(X.T.length<=s.i->(s.skip X).i=s.i):=by
 have h:=skipN_len (X.T.drop s.i)
 rw [List.length_drop] at h
 refine ⟨Nat.le_add_right _ _,fun h1=>?_,fun h1=>?_⟩
 ·show s.i+skipN (X.T.drop s.i)<=_
  omega
 ·show s.i+skipN (X.T.drop s.i)=_
  omega
theorem mark_lt {X:TS} {s:PS} {e:UInt8} (h:s.mark X=e) (he:e≠0):s.i<X.T.length:=by
 rcases Nat.lt_or_ge s.i X.T.length with h1|h1
 ·exact h1
 ·exfalso
  unfold PS.mark TS.kind at h
  rw [List.getElem?_eq_none h1,if_neg (by decide)] at h
  exact he h.symm
theorem fail_i (X:TS) (e:Int) (s:PS):(s.fail X e).i=s.i:=by unfold PS.fail;split<;>rfl
theorem fail_bad (X:TS) (e:Int) (he:e≠0) (s:PS):(s.fail X e).bad≠0:=by unfold PS.fail;split<;>assumption
def Fine (X:TS) (c:Nat) (f:PS->PS):Prop:=∀ s:PS,s.bad=0->s.i<=X.T.length->s.i<=(f s).i/\(f s).i<=X.T.length+c/\((f s).bad=0->(f s).i<=X.T.length)
theorem Fine.up {X:TS} {c d:Nat} {f:PS->PS} (h:Fine X c f) (hd:c<=d):Fine X d f:=fun s h1 h2=>by
 obtain ⟨a,b,e⟩:=h s h1 h2
 exact ⟨a,by omega,e⟩
theorem leaf_fine (X:TS) (k:Int) (c:Nat):Fine X c fun s=>(leafS X k s).1:=fun s h1 h2=>by
 obtain ⟨a,b,-⟩:=skip_fine X s
 have b:=b h2
 dsimp only
 unfold leafS
 split
 ·rename_i h3
  have h4:(s.skip X).i<X.T.length:=by
   rcases Nat.lt_or_ge (s.skip X).i X.T.length with h4|h4
   ·exact h4
   ·exfalso
    unfold TS.kind at h3
    rw [List.getElem?_eq_none h4] at h3
    exact absurd h3 (by decide)
  exact ⟨by show s.i<=(s.skip X).i+1;omega,by show (s.skip X).i+1<=_;omega,fun _=>by show (s.skip X).i+1<=_;omega⟩
 ·dsimp only
  rw [fail_i]
  exact ⟨a,by omega,fun _=>b⟩
theorem colon_i (X:TS) (s:PS):(colonS X s).i=s.i:=by unfold colonS;split;exact fail_i _ _ _;rfl
theorem colon_bad {X:TS} {s:PS} (h:(colonS X s).bad=0):s.bad=0/\s.i<X.T.length:=by
 unfold colonS at h
 split at h
 ·exact absurd h (fail_bad X 4 (by decide) s)
 ·rename_i h2
  refine ⟨h,?_⟩
  by_cases h58:s.mark X=58
  ·exact mark_lt h58 (by decide)
  ·by_cases h61:s.mark X=61
   ·exact mark_lt h61 (by decide)
   ·exact absurd ⟨h,h58,h61⟩ h2
theorem entry_fine {X:TS} {c:Nat} {val:PS->PS×Nd} (hv:Fine X c fun s=>(val s).1):Fine X c fun s=>(entryS X val s).1:=fun s h1 h2=>by
 obtain ⟨a,b,d⟩:=leaf_fine X 2 0 s h1 h2
 obtain ⟨e,f,g⟩:=skip_fine X (leafS X 2 s).1
 have f:=f b
 dsimp only at a b d ⊢
 rw [entry_eq]
 unfold entryT
 split
 ·rw [colon_i]
  exact ⟨by omega,by omega,fun _=>f⟩
 ·rename_i h3
  have h3:(colonS X ((leafS X 2 s).1.skip X)).bad=0:=by
   by_cases h:(colonS X ((leafS X 2 s).1.skip X)).bad=0
   ·exact h
   ·exact absurd h h3
  have h4:=(colon_bad h3).2
  obtain ⟨p,q,r⟩:=hv (colonS X ((leafS X 2 s).1.skip X)).inc h3 (by show (colonS X _).i+1<=_;rw [colon_i];omega)
  have h5:(colonS X ((leafS X 2 s).1.skip X)).inc.i=((leafS X 2 s).1.skip X).i+1:=by show (colonS X _).i+1=_;rw [colon_i]
  dsimp only at p q r
  rw [h5] at p
  exact ⟨by omega,q,r⟩
theorem many_fine {X:TS} {c:Nat} {kid:PS->PS×Nd} (hk:Fine X c fun s=>(kid s).1) (e:UInt8) (he:e≠0):∀ (f:Nat) (s:PS) (ks:List Nd),(s.bad=0->s.i<=X.T.length)->s.i<=X.T.length+c ->
 s.i<=(manyS X kid e f s ks).1.i/\(manyS X kid e f s ks).1.i<=X.T.length+c/\((manyS X kid e f s ks).1.bad=0->(manyS X kid e f s ks).1.i<X.T.length)
 | 0,s,ks,h1,h2=>by
   unfold manyS
   dsimp only
   rw [fail_i]
   exact ⟨Nat.le_refl _,h2,fun h=>absurd h (fail_bad X 4 (by decide) s)⟩
 | f+1,s,ks,h1,h2=>by
   obtain ⟨a,b,d⟩:=skip_fine X s
   have hs:(s.skip X).i<=X.T.length+c:=by
    rcases Nat.lt_or_ge X.T.length s.i with h|h
    ·rw [d (by omega)];exact h2
    ·have:=b h;omega
   unfold manyS
   split
   ·rename_i h3
    refine ⟨a,hs,fun h4=>?_⟩
    rcases h3 with h3|h3
    ·exact mark_lt h3 he
    ·exact absurd h4 h3
   ·rename_i h3
    have hb0:s.bad=0:=by
     by_cases h:s.bad=0
     ·exact h
     ·exact absurd (.inr h) h3
    have hsi:=b (h1 hb0)
    obtain ⟨p,q,r⟩:=hk (s.skip X) hb0 hsi
    dsimp only at p q r
    obtain ⟨a2,b2,d2⟩:=skip_fine X (kid (s.skip X)).1
    have hs2:((kid (s.skip X)).1.skip X).i<=X.T.length+c:=by
     rcases Nat.lt_or_ge X.T.length (kid (s.skip X)).1.i with h|h
     ·rw [d2 (by omega)];exact q
     ·have:=b2 h;omega
    have hs3:((kid (s.skip X)).1.skip X).bad=0->((kid (s.skip X)).1.skip X).i<=X.T.length:=fun h=>b2 (r h)
    split
    ·rename_i h4
     have h5:=mark_lt h4 (by decide)
     obtain ⟨x,y,z⟩:=many_fine hk e he f ((kid (s.skip X)).1.skip X).inc (ks++[(kid (s.skip X)).2]) (fun _=>by show _+1<=_;omega) (by show _+1<=_;omega)
     exact ⟨by have:((kid (s.skip X)).1.skip X).inc.i=((kid (s.skip X)).1.skip X).i+1:=rfl;omega,y,z⟩
    ·split
     ·obtain ⟨x,y,z⟩:=many_fine hk e he f ((kid (s.skip X)).1.skip X) (ks++[(kid (s.skip X)).2]) hs3 hs2
      exact ⟨by omega,y,z⟩
     ·obtain ⟨x,y,z⟩:=many_fine hk e he f (((kid (s.skip X)).1.skip X).fail X 4) (ks++[(kid (s.skip X)).2]) (fun h=>absurd h (fail_bad X 4 (by decide) _)) (by rw [fail_i];exact hs2)
      rw [fail_i] at x
      exact ⟨by omega,y,z⟩
theorem manyN_fine {X:TS} {c:Nat} {kid:PS->PS×Nd} (hk:Fine X c fun s=>(kid s).1) (k:Int) (e:UInt8) (he:e≠0) (s:PS) (h:s.i<X.T.length) :
 s.i<=(manyN X k e kid s).1.i/\(manyN X k e kid s).1.i<=X.T.length+(c+1)/\((manyN X k e kid s).1.bad=0->(manyN X k e kid s).1.i<=X.T.length):=by
 obtain ⟨x,y,z⟩:=many_fine hk e he X.F s.inc [] (fun _=>by show s.i+1<=_;omega) (by show s.i+1<=_;omega)
 have hs:s.inc.i=s.i+1:=rfl
 unfold manyN
 dsimp only
 have hi:∀ u:PS,u.inc.i=u.i+1:=fun _=>rfl
 rw [hi]
 exact ⟨by omega,by omega,fun h2=>by have:=z h2;omega⟩
theorem value_fine (X:TS):∀ r,Fine X r fun s=>(valueS X r s).1
 | 0=>fun s h1 h2=>by
   obtain ⟨a,b,d⟩:=skip_fine X s
   have b:=b h2
   dsimp only
   unfold valueS
   split
   ·dsimp only
    rw [fail_i]
    exact ⟨a,by omega,fun _=>b⟩
   ·obtain ⟨p,q,r⟩:=leaf_fine X 1 0 (s.skip X) h1 b
    dsimp only at p q r
    exact ⟨by omega,q,r⟩
 | r+1=>fun s h1 h2=>by
   have ih:=value_fine X r
   obtain ⟨a,b,d⟩:=skip_fine X s
   have b:=b h2
   dsimp only
   unfold valueS
   split
   ·rename_i h3
    obtain ⟨x,y,z⟩:=manyN_fine (entry_fine ih) 3 125 (by decide) (s.skip X) (mark_lt h3 (by decide))
    exact ⟨by omega,y,z⟩
   ·split
    ·rename_i h3
     obtain ⟨x,y,z⟩:=manyN_fine ih 5 93 (by decide) (s.skip X) (mark_lt h3 (by decide))
     exact ⟨by omega,y,z⟩
    ·obtain ⟨p,q,r⟩:=leaf_fine X 1 (r+1) (s.skip X) h1 b
     dsimp only at p q r
     exact ⟨by omega,q,r⟩
def kidCells:List (Nd×Value)->List Value
 | []=>[]
 | p::r=>.int .i64 p.1.k::.int .i64 p.1.a::.int .i64 p.1.b::p.2::kidCells r
theorem kidCells_append:∀ l m:List (Nd×Value),kidCells (l++m)=kidCells l++kidCells m
 | [],_=>rfl
 | p::l,m=>by simp [kidCells,kidCells_append l m]
theorem kidCells_get:∀ (l:List (Nd×Value)) (i:Nat) (p:Nd×Value),l[i]?=some p->(kidCells l)[i * 4]?=some (.int .i64 p.1.k)/\(kidCells l)[i * 4+1]?=some (.int .i64 p.1.a)/\(kidCells l)[i * 4+2]?=some (.int .i64 p.1.b)/\(kidCells l)[i * 4+3]?=some p.2
 | [],i,p,h=>by simp at h
 | q::l,0,p,h=>by
   have h:q=p:=by simpa using h
   subst h
   exact ⟨rfl,rfl,rfl,rfl⟩
 | q::l,i+1,p,h=>by
   obtain ⟨a,b,c,d⟩:=kidCells_get l i p (by simpa using h)
   rw [show (i+1) * 4=i * 4+4 by omega]
   exact ⟨a,b,c,d⟩
structure KR (w:World) (base:Nat) (rows:List (Nd×Value)) (v:Value):Prop where
 own:w.ownsRow base 53 4 v rows.length (kidCells rows)
 kids:∀ p∈rows,KidsAt w (fun b=>base<=b/\v.ownBlock≠some b) p.1.kids p.2
 nn:rows=[]->v=.slice none 0 0
theorem KR.nil (w:World) (base:Nat):KR w base [] (.slice none 0 0):=⟨World.ownsRow_nil _ _ _ _,fun p h=>absurd h (by simp),fun _=>rfl⟩
theorem KR.grow {w w':World} {base:Nat} {rows:List (Nd×Value)} {v:Value} {r:Option Nat} (h:KR w base rows v) (hg:w.grownBy w' r) (hr:∀ b,r=some b->b<base):KR w' base rows v:=by
 refine ⟨h.own.kept hg ?_,fun p hp=>(h.kids p hp).grow hg (fun b hb hb2=>by have:=hr b hb;omega),h.nn⟩
 cases hv:v.ownBlock with
 | none=>exact .inl rfl
 | some b =>
   have:=(h.own.lt b hv).1
   exact .inr (fun e=>by have:=hr b e.symm;omega)
theorem KR.form {w:World} {base:Nat} {rows:List (Nd×Value)} {v:Value} (h:KR w base rows v):∃ vo vc,v=.slice vo rows.length vc:=own_form h.own
theorem KidsAt.form {w:World} {B:Nat->Prop} {kids:List Nd} {v:Value} (h:KidsAt w B kids v):∃ vo vc,v=.slice vo kids.length vc:=by
 cases h with
 | nil=>exact ⟨_,_,rfl⟩
 | row _ sl blk cap=>exact ⟨_,_,rfl⟩
theorem KR.done {w:World} {base:Nat} {rows:List (Nd×Value)} {v:Value} (h:KR w base rows v):KidsAt w (fun b=>base<=b) (rows.map Prod.fst) v:=by
 by_cases h0:rows=[]
 ·rw [h.nn h0,h0];exact .nil
 ·have hpos:0<rows.length:=List.length_pos_iff.2 h0
  have hcell:=fun g=>h.own.cells (g:=g)
  have hlt:=h.own.lt
  rcases h.own.2 with ⟨rfl,h1⟩|⟨g,cap,cur,rfl,hb,hg,hnc,-⟩
  ·omega
  ·have hx:∀ j u,(kidCells rows)[j]?=some u->w.cell? ⟨g,j,none⟩=some u:=fun j u hj=>by
    have:=hcell g rfl j u hj
    rwa [Addr.add_lit,Nat.zero_add] at this
   have hl:rows.length=(rows.map Prod.fst).length:=by simp
   rw [hl]
   have hget:∀ i n,(rows.map Prod.fst)[i]?=some n->∃ p:Nd×Value,rows[i]?=some p/\p.1=n:=fun i n hi=>by
    rw [List.getElem?_map] at hi
    cases hr:rows[i]? with
    | none=>rw [hr] at hi;simp at hi
    | some p=>rw [hr] at hi;exact ⟨p,hr,by simpa using hi⟩
   refine .row _ (fun i=>(rows.getD i (Nd.none,.slice none 0 0)).2) g cap (by simpa using h0) hb (hlt g rfl).2 (fun i n hi=>?_) (fun i n hi=>?_)
   ·obtain ⟨p,hp,rfl⟩:=hget i n hi
    obtain ⟨a,b,c,d⟩:=kidCells_get rows i p hp
    rw [List.getD,hp]
    exact ⟨hx _ _ a,hx _ _ b,hx _ _ c,hx _ _ d⟩
   ·obtain ⟨p,hp,rfl⟩:=hget i n hi
    rw [List.getD,hp]
    exact (h.kids p (List.mem_of_getElem? hp)).weak fun b hb _=>hb.1
theorem KR.push {w w':World} {base:Nat} {rows:List (Nd×Value)} {v v':Value} (h:KR w base rows v) (nd:Nd) (sl:Value) (hn:KidsAt w (fun b=>base<=b/\v.ownBlock≠some b) nd.kids sl)
 (hown:w'.ownsRow base 53 4 v' (rows.length+1) (kidCells rows++[.int .i64 nd.k,.int .i64 nd.a,.int .i64 nd.b,sl])) (hg:w.grownBy w' v.ownBlock) (hm:Moved v v' w.heap.size):KR w' base (rows++[(nd,sl)]) v':=by
 have hne:∀ b,v.ownBlock≠some b->b<w.heap.size->v'.ownBlock≠some b:=fun b hb hlt=>hm.ne hlt hb
 have hkeep:∀ kids s2,KidsAt w (fun b=>base<=b/\v.ownBlock≠some b) kids s2->KidsAt w' (fun b=>base<=b/\v'.ownBlock≠some b) kids s2:=fun kids s2 hk =>
  KidsAt.grow (KidsAt.weak hk (C:=fun b=>(base<=b/\v.ownBlock≠some b)/\v'.ownBlock≠some b) (fun b hb hlt=>⟨hb,hne b hb.2 hlt⟩)) hg (fun b hb hb2=>hb2.1.2 hb) |>.weak (fun b hb _=>⟨hb.1.1,hb.2⟩)
 refine ⟨?_,fun p hp=>?_,fun h=>absurd h (by simp)⟩
 ·rw [List.length_append,kidCells_append]
  exact hown
 ·rcases List.mem_append.1 hp with hp|hp
  ·exact hkeep _ _ (h.kids p hp)
  ·have:p=(nd,sl):=by simpa using hp
   subst this
   exact hkeep _ _ hn
theorem KR.alloc_in {w:World} {base:Nat} {rows:List (Nd×Value)} {v:Value} (h:KR w base rows v) (o:Obj):KR (w.alloc o) base rows v:=h.grow (grown_alloc w o none) (fun b hb=>by simp at hb)
theorem Tryz.info_node:(Tryz.prog.info? 53).map (fun i=>(i.zero,i.size,i.bytes))=some (some (.agg #[.int .i64 0,.int .i64 0,.int .i64 0,.slice none 0 0]),4,48):=by kernel_rfl
theorem step_kid {w:World} {base:Nat} {rows:List (Nd×Value)} {v:Value} {ops:Array Oper} {o:Oper} {a:Act} {K:Act->World->Prop} {Q:Exit->Act->World->Prop} {E:Prop} (hgd:o.guard=none) (s x:Operand)
 (ho:o.op=.call { callee:=.builtin .append,args:=#[s,x],argTypes:=#[51,51] })
 (h:KR w base rows v) (hb:base<=w.heap.size) (nd:Nd) (so:Option Addr) (sn sc:Nat) (hn:KidsAt w (fun b=>base<=b/\v.ownBlock≠some b) nd.kids (.slice so sn sc))
 (o':Obj) (ho':o'=.cells #[.int .i64 nd.k,.int .i64 nd.a,.int .i64 nd.b,.slice so sn sc] 53) (hs:a.eval s=v) (hx:a.eval x=.slice (some ⟨w.heap.size,0,none⟩) 1 1) (hl:rows.length<=200000)
 (hK:∀ g cap w1,KR w1 base (rows++[(nd,.slice so sn sc)]) (.slice (some ⟨g,0,none⟩) (rows.length+1) cap)->w.grownBy w1 v.ownBlock->K (a.put o.dst (.slice (some ⟨g,0,none⟩) (rows.length+1) cap)) w1) :
 if Region.wanted o (yielded ops a.tmps)=true then Oper.wp Tryz.prog o a (w.alloc o') K Q else E:=by
 obtain ⟨i0,hi,hz0,hz1,hz2⟩:=info_parts Tryz.info_node
 subst ho'
 have hw:Region.wanted o (yielded ops a.tmps)=true:=by simp [Region.wanted,hgd]
 rw [if_pos hw]
 obtain ⟨v',w',hr,ho2,hg,hm,hnn⟩:=run_append_moved (P:=Tryz.prog) (w.alloc (.cells #[.int .i64 nd.k,.int .i64 nd.a,.int .i64 nd.b,.slice so sn sc] 53)) base 51 o.type 53 i0 (.agg #[.int .i64 0,.int .i64 0,.int .i64 0,.slice none 0 0]) 4 48 Tryz.underlying51 hi hz0 hz1 hz2 rfl (by decide) v rows.length (kidCells rows)
  (h.own.alloc _) ⟨w.heap.size,0,none⟩ 1 1 [.int .i64 nd.k,.int .i64 nd.a,.int .i64 nd.b,.slice so sn sc] rfl
  (fun j u hj=>by
    rw [Addr.add_lit]
    exact (World.cell?_alloc_mark w _ _ (0,0) (0+j)).trans (by simpa using hj))
  (fun u hu=>by
    simp only [List.mem_cons,List.not_mem_nil,or_false] at hu
    rcases hu with rfl|rfl|rfl|rfl<;>rfl) (by omega) (by unfold maxLen;omega) (by simp;omega)
 have hkr:=(h.alloc_in (.cells #[.int .i64 nd.k,.int .i64 nd.a,.int .i64 nd.b,.slice so sn sc] 53)).push nd (.slice so sn sc) (hn.grow (grown_alloc w _ none) (fun b hb=>by simp at hb)) ho2 hg hm
 have hne:v'≠.slice none 0 0:=fun e=>by have:=(hnn.1 e).2;omega
 have hg2:w.grownBy w' v.ownBlock:=⟨hg.os,hg.tape,hg.output,Nat.le_trans (by simp) hg.size,fun k hk hne=>by
  rw [hg.block k (by simp;omega) hne]
  exact alloc_old_gx w _ hk⟩
 rcases ho2.2 with ⟨rfl,-⟩|⟨g,cap,cur,rfl,-⟩
 ·exact absurd rfl hne
 ·unfold Oper.wp execOp
  simp only [ho,resolve,invoke,builtin,Sem.run_bind,Sem.run_pure,Result.andThen_ok,List.map_toArray,List.map_cons,List.map_nil,hs,hx,hr]
  exact hK g cap w' hkr hg2
structure MR (w:World) (R:Nat) (ta:Option Addr) (tc:Nat) (S:ByteArray) (X:TS) (k:Int) (a:Nat) (u:PS) (rows:List (Nd×Value)) (v:Value) (wx:World):Prop where
 rs:RS wx R ta tc S X u
 kr:KR wx (w.heap.size+2) rows v
 res:wx.heap[w.heap.size]?=some (.cells #[.int .i64 0,.int .i64 0,.int .i64 0,.slice none 0 0] 53)
 nod:wx.heap[w.heap.size+1]?=some (.cells #[.int .i64 k,.int .i64 a,.int .i64 0,v] 53)
 gr:w.grownBy wx (some R)
theorem MR.size {w:World} {R:Nat} {ta:Option Addr} {tc:Nat} {S:ByteArray} {X:TS} {k:Int} {a:Nat} {u:PS} {rows:List (Nd×Value)} {v:Value} {wx:World} (h:MR w R ta tc S X k a u rows v wx):w.heap.size+2<=wx.heap.size:=by
 have:=(Array.getElem?_eq_some_iff.1 h.nod).1
 omega
theorem MR.grow {w:World} {R:Nat} {ta:Option Addr} {tc:Nat} {S:ByteArray} {X:TS} {k:Int} {a:Nat} {u u2:PS} {rows:List (Nd×Value)} {v:Value} {wx w2:World} (hR:R<w.heap.size) (h:MR w R ta tc S X k a u rows v wx) (hr:RS w2 R ta tc S X u2) (hg:wx.grownBy w2 (some R)):MR w R ta tc S X k a u2 rows v w2:=by
 have hs:=h.size
 exact ⟨hr,h.kr.grow hg (fun b e=>by have:=Option.some.inj e;omega),(hg.block _ (by omega) (fun e=>by have:=Option.some.inj e;omega)).trans h.res,(hg.block _ (by omega) (fun e=>by have:=Option.some.inj e;omega)).trans h.nod,h.gr.trans hg⟩
theorem MR.drewN {w:World} {R:Nat} {ta:Option Addr} {tc:Nat} {S:ByteArray} {X:TS} {k:Int} {a:Nat} {u:PS} {rows:List (Nd×Value)} {v:Value} {wx:World} (hR:R<w.heap.size) (h:MR w R ta tc S X k a u rows v wx) (n:Nat):MR w R ta tc S X k a u rows v (wx.drewN n) :=
 h.grow hR (h.rs.drewN n) (grown_drew _ _ _)
theorem MR.inc {w:World} {R:Nat} {ta:Option Addr} {tc:Nat} {S:ByteArray} {X:TS} {k:Int} {a:Nat} {u:PS} {rows:List (Nd×Value)} {v:Value} {wx:World} (hR:R<w.heap.size) (h:MR w R ta tc S X k a u rows v wx):MR w R ta tc S X k a u.inc rows v (wx.setCell ⟨R,2,none⟩ (.int .i64 ((u.i:Int)+1))):=by
 have h1:=h.rs.set2 (u.i+1)
 rw [show ((u.i+1:Nat):Int)=(u.i:Int)+1 by omega] at h1
 exact h.grow hR h1 (grown_set _ R 2 _)
theorem grown_row {w w1 w2:World} {r r2:Option Nat} (h1:w.grownBy w1 r) (h2:w1.grownBy w2 r2) (hN:∀ b,r2=some b->w.heap.size<=b):w.grownBy w2 r :=
 ⟨h2.os.trans h1.os,h2.tape.trans h1.tape,h2.output.trans h1.output,Nat.le_trans h1.size h2.size,fun k hk hne =>
   (h2.block k (Nat.lt_of_lt_of_le hk h1.size) (fun e=>by have:=hN k e.symm;omega)).trans (h1.block k hk hne)⟩
theorem RS.row {w0 w w':World} {R:Nat} {ta:Option Addr} {tc:Nat} {S:ByteArray} {X:TS} {s0 s:PS} {r:Option Nat} (h0:RS w0 R ta tc S X s0) (h:RS w R ta tc S X s) (hg:w.grownBy w' r) (hN:∀ b,r=some b->w0.heap.size<=b):RS w' R ta tc S X s:=by
 cases r with
 | none=>exact RS.other (N:=w.heap.size+R+w0.heap.size) h0 h ⟨hg.os,hg.tape,hg.output,hg.size,fun k hk _=>hg.block k hk (by simp)⟩ (by omega)
 | some N=>exact RS.other h0 h hg (hN N rfl)
theorem MR.put {w:World} {R:Nat} {ta:Option Addr} {tc:Nat} {S:ByteArray} {X:TS} {k:Int} {a:Nat} {u s0:PS} {rows rows2:List (Nd×Value)} {v v2:Value} {w3 w4:World} (h0:RS w R ta tc S X s0) (h:MR w R ta tc S X k a u rows v w3) (hk:KR w4 (w.heap.size+2) rows2 v2) (hg:w3.grownBy w4 v.ownBlock) :
 MR w R ta tc S X k a u rows2 v2 (w4.setCell ⟨w.heap.size+1,3,none⟩ v2):=by
 have hv:=h.kr.own.lt
 have hs:=h.size
 have hR:=h0.lt
 have hb:∀ b,v.ownBlock=some b->w.heap.size<=b:=fun b e=>by have:=hv b e;omega
 have h1:=RS.row h0 h.rs hg hb
 have hres:w4.heap[w.heap.size]?=_:=(hg.block _ (by omega) (fun e=>by have:=hv _ e.symm;omega)).trans h.res
 have hnod:w4.heap[w.heap.size+1]?=_:=(hg.block _ (by omega) (fun e=>by have:=hv _ e.symm;omega)).trans h.nod
 have hg5:=grown_set w4 (w.heap.size+1) 3 v2
 have hs4:=hg.size
 refine ⟨RS.other h0 h1 hg5 (by omega),hk.grow hg5 (fun b e=>by have:=Option.some.inj e;omega),(hg5.block _ (by omega) (fun e=>by have:=Option.some.inj e;omega)).trans hres,?_,grown_fresh (grown_row h.gr hg hb) hg5 (by omega)⟩
 simp [World.setCell,Array.getElem?_modify,hnod]
theorem MR.cell {w:World} {R:Nat} {ta:Option Addr} {tc:Nat} {S:ByteArray} {X:TS} {k:Int} {a:Nat} {u:PS} {rows:List (Nd×Value)} {v:Value} {w3 w4:World} (h:MR w R ta tc S X k a u rows v w3) (hg:w3.grownBy w4 v.ownBlock) :
 w4.cell? ⟨w.heap.size+1,3,none⟩=some v/\w4.frozen? ⟨w.heap.size+1,3,none⟩=false:=by
 have hv:=h.kr.own.lt
 have hs:=h.size
 have hnod:w4.heap[w.heap.size+1]?=_:=(hg.block _ (by omega) (fun e=>by have:=hv _ e.symm;omega)).trans h.nod
 obtain ⟨-,-,-,n3,nf⟩:=node_cells hnod
 exact ⟨n3,nf 3⟩
theorem MR.endAt {w:World} {R:Nat} {ta:Option Addr} {tc:Nat} {S:ByteArray} {X:TS} {k:Int} {a:Nat} {u:PS} {rows:List (Nd×Value)} {v:Value} {w5:World} (h:MR w R ta tc S X k a u rows v w5) (E:Value) :
 (w5.setCell ⟨w.heap.size+1,2,none⟩ E).heap[w.heap.size]?=some (.cells #[.int .i64 0,.int .i64 0,.int .i64 0,.slice none 0 0] 53)/\(w5.setCell ⟨w.heap.size+1,2,none⟩ E).heap[w.heap.size+1]?=some (.cells #[.int .i64 k,.int .i64 a,E,v] 53):=by
 refine ⟨((grown_set w5 (w.heap.size+1) 2 E).block _ (by have:=h.size;omega) (fun e=>by have:=Option.some.inj e;omega)).trans h.res,?_⟩
 simp [World.setCell,Array.getElem?_modify,h.nod]
theorem MR.fin {w:World} {R:Nat} {ta:Option Addr} {tc:Nat} {S:ByteArray} {X:TS} {k:Int} {a:Nat} {u s0:PS} {rows:List (Nd×Value)} {v:Value} {w5 w7:World} (h0:RS w R ta tc S X s0) (h:MR w R ta tc S X k a u rows v w5) (E:Value)
 (hg:(w5.setCell ⟨w.heap.size+1,2,none⟩ E).grownBy w7 (some w.heap.size)):KidsAt w7 (fun b=>w.heap.size<=b) (rows.map Prod.fst) v/\RS w7 R ta tc S X u/\w.grownBy w7 (some R):=by
 have g1:=grown_set w5 (w.heap.size+1) 2 E
 refine ⟨(((h.kr.done.grow g1 (fun b e=>by have:=Option.some.inj e;omega)).grow hg (fun b e=>by have:=Option.some.inj e;omega)).weak (fun b hb _=>by omega)),RS.other h0 (RS.other h0 h.rs g1 (by omega)) hg (Nat.le_refl _),grown_fresh (grown_fresh h.gr g1 (by omega)) hg (Nat.le_refl _)⟩
theorem skip_skip (X:TS) (s:PS):(s.skip X).skip X=s.skip X:=by
 have h:∀ L:List (Int×Nat×Nat),skipN (L.drop (skipN L))=0:=by
  intro L
  induction L with
  | nil=>rfl
  | cons t L ih =>
    by_cases ht:solidK t.1=true
    ·have e:skipN (t::L)=0:=by unfold skipN;rw [if_pos ht]
     rw [e,List.drop_zero,e]
    ·have e:skipN (t::L)=skipN L+1:=by rw [skipN,if_neg ht]
     rw [e,List.drop_succ_cons,ih]
 have h1:=h (X.T.drop s.i)
 rw [List.drop_drop] at h1
 show PS.mk (s.i+skipN (X.T.drop s.i)+skipN (X.T.drop (s.i+skipN (X.T.drop s.i)))) _ _=PS.mk _ _ _
 rw [h1]
 rfl
def Fuel (X:TS) (e:UInt8) (f:Nat) (s:PS):Prop:=(s.bad=0/\X.T.length+2<=f+s.i)\/(1<=f/\((s.skip X).mark X=e\/s.bad≠0))
theorem Fuel.pos {X:TS} {e:UInt8} {f:Nat} {s:PS} (h:Fuel X e f s) (hi:s.bad=0->s.i<=X.T.length):1<=f:=by
 rcases h with ⟨h1,h2⟩|⟨h1,-⟩
 ·have:=hi h1;omega
 ·exact h1
theorem manyS_end {X:TS} {kid:PS->PS×Nd} {e:UInt8} {f:Nat} {s:PS} {ks:List Nd} (hf:1<=f) (h:(s.skip X).mark X=e\/s.bad≠0):manyS X kid e f s ks=(s.skip X,ks):=by
 obtain ⟨g,rfl⟩:∃ g,f=g+1:=⟨f - 1,by omega⟩
 rw [manyS,if_pos h]
def roundS (X:TS) (e:UInt8) (t:PS):PS:=if t.mark X=44 then t.inc else if t.mark X=e then t else t.fail X 4
theorem manyS_go {X:TS} {kid:PS->PS×Nd} {e:UInt8} {f:Nat} {s:PS} {ks:List Nd} (hf:1<=f) (h:¬ ((s.skip X).mark X=e\/s.bad≠0)) :
 manyS X kid e f s ks=manyS X kid e (f - 1) (roundS X e ((kid (s.skip X)).1.skip X)) (ks++[(kid (s.skip X)).2]):=by
 obtain ⟨g,rfl⟩:∃ g,f=g+1:=⟨f - 1,by omega⟩
 rw [manyS,if_neg h]
 unfold roundS
 show _=manyS X kid e g _ _
 split
 ·rfl
 ·split<;>rfl
theorem round_keeps {X:TS} {c:Nat} {kid:PS->PS×Nd} (hk:Fine X c fun s=>(kid s).1) {e:UInt8} {f:Nat} {s:PS} (hF:Fuel X e f s) (hi:s.bad=0->s.i<=X.T.length) (h:¬ ((s.skip X).mark X=e\/s.bad≠0)) :
 Fuel X e (f - 1) (roundS X e ((kid (s.skip X)).1.skip X))/\((roundS X e ((kid (s.skip X)).1.skip X)).bad=0->(roundS X e ((kid (s.skip X)).1.skip X)).i<=X.T.length)/\(roundS X e ((kid (s.skip X)).1.skip X)).i<=X.T.length+c /\
  s.bad=0/\(s.skip X).i<=X.T.length/\(kid (s.skip X)).1.i<=X.T.length+c/\((kid (s.skip X)).1.skip X).i<=X.T.length+c:=by
 have hb:s.bad=0:=by
  by_cases hb:s.bad=0
  ·exact hb
  ·exact absurd (.inr hb) h
 have hfu:X.T.length+2<=f+s.i:=by
  rcases hF with ⟨-,h1⟩|⟨-,h1⟩
  ·exact h1
  ·exact absurd h1 h
 have hi:=hi hb
 obtain ⟨a,b,d⟩:=skip_fine X s
 have b:=b hi
 obtain ⟨p,q,r⟩:=hk (s.skip X) hb b
 dsimp only at p q r
 obtain ⟨a2,b2,d2⟩:=skip_fine X (kid (s.skip X)).1
 have hs2:((kid (s.skip X)).1.skip X).i<=X.T.length+c:=by
  rcases Nat.lt_or_ge X.T.length (kid (s.skip X)).1.i with h|h
  ·rw [d2 (by omega)];exact q
  ·have:=b2 h;omega
 have hs3:((kid (s.skip X)).1.skip X).bad=0->((kid (s.skip X)).1.skip X).i<=X.T.length:=fun h=>b2 (r h)
 have hss:=skip_skip X (kid (s.skip X)).1
 refine (fun hh=>⟨hh.1,hh.2.1,hh.2.2,hb,b,q,hs2⟩:_/\_/\_->_) ?_
 generalize PS.skip X (kid (s.skip X)).1=t at *
 unfold roundS
 split
 ·rename_i h4
  have h5:=mark_lt h4 (by decide)
  have hti:t.inc.i=t.i+1:=rfl
  refine ⟨?_,fun _=>by omega,by omega⟩
  by_cases ht:t.bad=0
  ·exact .inl ⟨ht,by omega⟩
  ·exact .inr ⟨by omega,.inr ht⟩
 ·split
  ·rename_i h4
   exact ⟨.inr ⟨by omega,.inl (by rw [hss];exact h4)⟩,hs3,hs2⟩
  ·exact ⟨.inr ⟨by omega,.inr (fail_bad X 4 (by decide) t)⟩,fun h=>absurd h (fail_bad X 4 (by decide) t),by rw [fail_i];exact hs2⟩
theorem mark_of (u2:PS) (mv:Int) (R:Nat) (ta:Option Addr) (tc:Nat) (S:ByteArray) (X:TS) (s:PS) (w:World) (h:RS w R ta tc S X s) (hT:X.T.length<=20000) (hi:s.i<=100000) (hpos:∀ j,j<X.T.length->X.pos j<X.l.length) (hu:s.skip X=u2) (hm:((u2.mark X).toNat:Int)=mv) :
 Calls Tryz.prog 68 #[.pointer (some ⟨R,0,none⟩)] w fun e w'=>e=.returned (.int .u8 mv)/\RS w' R ta tc S X u2/\w.grownBy w' (some R):=by
 subst hu
 subst hm
 exact mark_any R ta tc S X s w h hT hi hpos
set_option maxRecDepth 100000
def KidOk (R:Nat) (ta:Option Addr) (tc:Nat) (S:ByteArray) (X:TS) (w0:World) (kf:Nat) (cap:Array Value) (kid:PS->PS×Nd):Prop :=
 ∀ (s:PS) (w:World),w0.grownBy w (some R)->RS w R ta tc S X s->s.bad=0->s.i<=X.T.length->Calls Tryz.prog kf cap w (NP R ta tc S X (kid s) w)
def KidsMore (w:World) (R:Nat) (ta:Option Addr) (tc:Nat) (S:ByteArray) (X:TS) (k:Int) (a:Nat) (u:PS) (rows:List (Nd×Value)) (nd:Nd) (wx:World):Prop:=∃ sl v2,MR w R ta tc S X k a u (rows++[(nd,sl)]) v2 wx
def KidCame (w:World) (R:Nat) (ta:Option Addr) (tc:Nat) (S:ByteArray) (X:TS) (k:Int) (a:Nat) (u:PS) (rows:List (Nd×Value)) (v:Value) (nd:Nd) (sl:Value) (w3:World):Prop :=
 MR w R ta tc S X k a u rows v w3/\KidsAt w3 (fun b=>w.heap.size+2<=b/\v.ownBlock≠some b) nd.kids sl
theorem kid_came {w:World} {R:Nat} {ta:Option Addr} {tc:Nat} {S:ByteArray} {X:TS} {k:Int} {a:Nat} {u s3:PS} {rows:List (Nd×Value)} {v:Value} {kid:PS->PS×Nd} {nd:Nd} {kf:Nat} {cap:Array Value} {w2:World} (hR:R<w.heap.size) (h:MR w R ta tc S X k a u rows v w2)
 (hk:Calls Tryz.prog kf cap w2 (NP R ta tc S X (kid u) w2)) (h1:(kid u).1=s3) (h2:(kid u).2=nd) :
 Calls Tryz.prog kf cap w2 fun e w3=>∃ so sn sc,e=.returned (.agg #[.int .i64 nd.k,.int .i64 nd.a,.int .i64 nd.b,.slice so sn sc])/\Hid (KidCame w R ta tc S X k a s3 rows v nd (.slice so sn sc) w3)/\w3.cell? ⟨w.heap.size+1,3,none⟩=some v/\w3.frozen? ⟨w.heap.size+1,3,none⟩=false/\w.heap.size+1<w3.heap.size:=by
 subst h1
 subst h2
 refine hk.mono ?_
 rintro e w3 ⟨sl,rfl,hk3,hr3,hg3⟩
 obtain ⟨so,sc,rfl⟩:=hk3.form
 have hm:=h.grow hR hr3 hg3
 obtain ⟨-,-,-,n3,nf⟩:=node_cells hm.nod
 have hv:=h.kr.own.lt
 have hs:=h.size
 exact ⟨so,_,sc,rfl,Lib.hid ⟨hm,hk3.weak fun b hb _=>⟨by omega,fun e=>by have:=hv b e;omega⟩⟩,n3,nf 3,by have:=hm.size;omega⟩
set_option maxHeartbeats 8000000 in
theorem many_entry (p2 p3:Addr) (k:Int) (en:UInt8) (hen:en≠0) (hen2:en≠44) (c:Nat) (kid:PS->PS×Nd) (R:Nat) (ta:Option Addr) (tc:Nat) (S:ByteArray) (X:TS) (hkf:Fine X c fun s=>(kid s).1) (hc:c<=30) (s:PS) (w:World) (h:RS w R ta tc S X s) (hT:X.T.length<=20000) (hF:X.T.length+2<=X.F) (hF2:X.F<=100000)
 (hi:s.i<X.T.length) (hb0:s.bad=0) (hpos:∀ j,j<X.T.length->X.pos j<X.l.length) (hk:KidOk R ta tc S X w 70 #[.pointer (some p2),.pointer (some p3)] kid) :
 Calls Tryz.prog 69 #[.pointer (some ⟨R,0,none⟩),.int .i64 k,.int .u8 (en.toNat:Int),.func (.func 70) #[] #[.pointer (some p2),.pointer (some p3)]] w (NP R ta tc S X (manyN X k en kid s) w):=by
 have hRl:=h.lt
 obtain ⟨ev,hev⟩:∃ ev:Int,ev=(en.toNat:Int):=⟨_,rfl⟩
 rw [<-hev]
 have HEV:=Lib.hid hev
 have H0:=Lib.hid h
 have h1:=h.set2 (s.i+1)
 rw [show ((s.i+1:Nat):Int)=(s.i:Int)+1 by omega] at h1
 have hsz:(w.setCell ⟨R,2,none⟩ (.int .i64 ((s.i:Int)+1))).heap.size=w.heap.size:=by simp [World.setCell]
 have M0:MR w R ta tc S X k s.i s.inc [] (.slice none 0 0) (((w.setCell ⟨R,2,none⟩ (.int .i64 ((s.i:Int)+1))).alloc (.cells #[.int .i64 0,.int .i64 0,.int .i64 0,.slice none 0 0] 53)).alloc (.cells #[.int .i64 k,.int .i64 s.i,.int .i64 0,.slice none 0 0] 53)):=by
  refine ⟨(h1.alloc _).alloc _,KR.nil _ _,?_,?_,((grown_set w R 2 _).trans (grown_alloc _ _ _)).trans (grown_alloc _ _ _)⟩
  ·exact (alloc_old_gx _ _ (by simp [hsz])).trans (by have:=heap_alloc_last (w.setCell ⟨R,2,none⟩ (.int .i64 ((s.i:Int)+1))) (.cells #[.int .i64 0,.int .i64 0,.int .i64 0,.slice none 0 0] 53);rwa [hsz] at this)
  ·have:=heap_alloc_last ((w.setCell ⟨R,2,none⟩ (.int .i64 ((s.i:Int)+1))).alloc (.cells #[.int .i64 0,.int .i64 0,.int .i64 0,.slice none 0 0] 53)) (.cells #[.int .i64 k,.int .i64 s.i,.int .i64 0,.slice none 0 0] 53)
   rwa [World.size_alloc,hsz] at this
 have HM0:=Lib.hid M0
 obtain ⟨c0,c1,c2,c3,c4,fz⟩:=h.cells
 have hRn:¬ R=w.heap.size:=by omega
 have hRn2:¬ w.heap.size=R:=by omega
 have hRn3:¬ R=w.heap.size+1:=by omega
 have hRn4:¬ w.heap.size+1=R:=by omega
 have HK:=Lib.hid hk
 have HKF:=Lib.hid hkf
 have HPOS:=Lib.hid hpos
 have HEN:=Lib.hid hen
 have HEN2:=Lib.hid hen2
 have HB0:=Lib.hid hb0
 clear h hk hev M0 h1 hsz hkf hpos hen hen2 hb0
 go_enter Tryz.func69,Tryz.ntmps69
 go_wp2_with fail
 clear c0 c1 c2 c3 c4 fz
 go_loopg [] (X.F) (fun g wx=>∃ (u:PS) (rows:List (Nd×Value)) (v:Value),Hid (MR w R ta tc S X k s.i u rows v wx)/\Hid (Fuel X en g u)/\Hid (u.bad=0->u.i<=X.T.length)/\u.i<=X.T.length+c/\rows.length+g<=X.F/\Hid (manyS X kid en X.F s.inc []=manyS X kid en g u (rows.map Prod.fst)))
 case atStart =>
  have hsi:s.inc.i=s.i+1:=rfl
  exact ⟨s.inc,[],.slice none 0 0,HM0,Lib.hid (.inl ⟨HB0.out,by omega⟩),Lib.hid (fun _=>by omega),by omega,by simp,Lib.hid rfl⟩
 case round =>
  obtain ⟨u,rows,v,HM,HFU,HUB,hui,hlen,HEQ⟩:=hrel
  clear HM0
  obtain ⟨u1,hu1⟩:∃ u1,u.skip X=u1:=⟨_,rfl⟩
  obtain ⟨mv,hmv⟩:∃ mv:Int,((u1.mark X).toNat:Int)=mv:=⟨_,rfl⟩
  have HMk:∀ wz,RS wz R ta tc S X u->_:=fun wz hz=>mark_of u1 mv R ta tc S X u wz hz hT (by omega) HPOS.out hu1 hmv
  replace HMk:=Lib.hid (HMk wr HM.out.rs)
  have hpos1:=HFU.out.pos HUB.out
  have hui1:u1.i<=100000:=by
   have:=skip_fine X u
   rw [hu1] at this
   rcases Nat.lt_or_ge X.T.length u.i with h|h
   ·rw [this.2.2 (by omega)];omega
   ·have:=this.2.1 h;omega
  have hub1:u1.bad=u.bad:=by rw [<-hu1];rfl
  by_cases hme:u1.mark X=en
  ·have t1:(mv != ev)=false:=by
    have:mv=ev:=by rw [<-hmv,hme,HEV.out]
    simpa using this
   have hend:(manyS X kid en X.F s.inc [])=(u1,rows.map Prod.fst):=by rw [HEQ.out,manyS_end hpos1 (.inl (by rw [hu1];exact hme)),hu1]
   have HMV:=Lib.hid hmv
   clear hmv hme hu1 hub1 hpos1 HEQ HFU HUB
   go_wp2_with fail
   refine HMk.out.mono ?_
   rintro e w2 ⟨rfl,hr2,hg2⟩
   have hm2:=HM.out.grow hRl hr2 hg2
   obtain ⟨c0,c1,c2,c3,c4,fz⟩:=hm2.rs.cells
   obtain ⟨m0,m1,m2,m3,mf⟩:=node_cells hm2.nod
   have mf1:=mf 3
   have HM3:=Lib.hid hm2
   clear hm2 hr2 hg2 mf
   obtain ⟨vo,vc,hvf⟩:=HM3.out.kr.form
   subst hvf
   have mf2:=(node_cells HM3.out.nod).2.2.2.2 2
   obtain ⟨b0,b1,b2,b3,bf⟩:=node_cells HM3.out.res
   have bf0:=bf 0
   have bf1:=bf 1
   have bf2:=bf 2
   have bf3:=bf 3
   have HEND:=Lib.hid hend
   clear bf hend HMk
   go_wp2_with fail
   have HM5:=Lib.hid (HM3.out.inc hRl)
   generalize w2.setCell ⟨R,2,none⟩ (.int .i64 ((u1.i:Int)+1))=w5 at HM5 ⊢
   clear c0 c1 c2 c3 c4 fz m0 m1 m2 m3 mf1 mf2 b0 b1 b2 b3 bf0 bf1 bf2 bf3
   have R6:=Lib.hid (HM5.out.endAt (.int .i64 ((u1.i:Int)+1))).1
   obtain ⟨h7,g7⟩:=store4 R6.out (.int .i64 k) (.int .i64 (s.i:Int)) (.int .i64 ((u1.i:Int)+1)) (.slice vo rows.length vc)
   generalize (((((w5.setCell ⟨w.heap.size+1,2,none⟩ (.int .i64 ((u1.i:Int)+1))).setCell ⟨w.heap.size,0,none⟩ (.int .i64 k)).setCell ⟨w.heap.size,1,none⟩ (.int .i64 (s.i:Int))).setCell ⟨w.heap.size,2,none⟩ (.int .i64 ((u1.i:Int)+1))).setCell ⟨w.heap.size,3,none⟩ (.slice vo rows.length vc))=w7 at h7 g7 ⊢
   obtain ⟨f1,f2,f3⟩:=MR.fin H0.out HM5.out _ g7
   obtain ⟨n0,n1,n2,n3,-⟩:=node_cells h7
   exact bodyPost_ret (v:=.agg #[.int .i64 k,.int .i64 (s.i:Int),.int .i64 ((u1.i:Int)+1),.slice vo rows.length vc]) (by simp [results,Tryz.results69,go_sem,n0,n1,n2,n3]) rfl
    (by unfold manyN;rw [HEND.out];exact ⟨_,rfl,f1,f2,f3⟩)
  ·have hne:¬ mv=ev:=by
    intro e
    apply hme
    have h1:(u1.mark X).toNat=en.toNat:=by have h2:=hmv.trans e;rw [HEV.out] at h2;exact_mod_cast h2
    exact UInt8.toNat_inj.1 h1
   have t1:(mv != ev)=true:=by simpa using hne
   by_cases hbd:u.bad=0
   ·have t2:(u1.bad==0)=true:=by rw [hub1];simpa using hbd
    have hex:¬ ((u.skip X).mark X=en\/u.bad≠0):=by rw [hu1];exact fun h=>h.elim hme (fun h=>h hbd)
    have hgo:=manyS_go (kid:=kid) (ks:=rows.map Prod.fst) hpos1 hex
    obtain ⟨k1,k2,k3,k4,k5,k6,k7⟩:=round_keeps HKF.out HFU.out HUB.out hex
    rw [hu1] at k1 k2 k3 k5 k6 k7 hgo
    obtain ⟨s3,hs3⟩:∃ s3,(kid u1).1=s3:=⟨_,rfl⟩
    obtain ⟨nd,hnd⟩:∃ nd,(kid u1).2=nd:=⟨_,rfl⟩
    obtain ⟨s4,hs4⟩:∃ s4,s3.skip X=s4:=⟨_,rfl⟩
    obtain ⟨m2v,hm2v⟩:∃ m2v:Int,((s4.mark X).toNat:Int)=m2v:=⟨_,rfl⟩
    rw [hs3,hs4] at k1 k2 k3 k7 hgo
    rw [hs3] at k6
    rw [hnd] at hgo
    obtain ⟨s5,hs5⟩:∃ s5,roundS X en s4=s5:=⟨_,rfl⟩
    rw [hs5] at k1 k2 k3 hgo
    have hb1:u1.bad=0:=by rw [hub1];exact hbd
    have HS3:=Lib.hid hs3
    have HND:=Lib.hid hnd
    have HS4:=Lib.hid hs4
    have HM2V:=Lib.hid hm2v
    have HS5:=Lib.hid hs5
    have HGO:=Lib.hid (HEQ.out.trans hgo)
    have K1:=Lib.hid k1
    have K2:=Lib.hid k2
    have HB1:=Lib.hid hb1
    clear hs3 hnd hs4 hm2v hs5 hgo k1 k2 k4 hb1 hex hbd hne hme hub1 hu1 hmv HEQ HFU HUB
    go_wp2_with fail
    refine HMk.out.mono ?_
    rintro e w2 ⟨rfl,hr2,hg2⟩
    have hm2:=HM.out.grow hRl hr2 hg2
    obtain ⟨c0,c1,c2,c3,c4,fz⟩:=hm2.rs.cells
    obtain ⟨m0,m1,m2,m3,mf⟩:=node_cells hm2.nod
    have mf1:=mf 3
    have HM3:=Lib.hid hm2
    clear hm2 hr2 hg2 mf
    go_upto_region 4 with fail
    go_cut [] (fun wx=>Hid (KidsMore w R ta tc S X k s.i s3 rows nd wx))
    case first =>
     have HKC:=Lib.hid (kid_came (kid:=kid) hRl (HM3.out.drewN hRl 1) (HK.out u1 _ (HM3.out.drewN hRl 1).gr (HM3.out.drewN hRl 1).rs HB1.out k5) HS3.out HND.out)
     clear c0 c1 c2 c3 c4 fz m0 m1 m2 HMk
     go_region_law (first
      | (refine step_kid rfl (.tmp 36) (.tmp 39) rfl HA.out.1.kr HA.out.1.size nd so sn sc HA.out.2 _ rfl rfl rfl (by omega) ?_;intro g4 cap4 w4 hkr4 hg4;have hcc:=HA.out.1.cell hg4;have hca:=hcc.1;have hcb:=hcc.2;have HKR4:=Lib.hid hkr4;have HG4:=Lib.hid hg4;clear hcc hkr4 hg4)
      | (go_simp;refine HKC.out.mono ?_;rintro e w3 ⟨so,sn,sc,rfl,HA,hc3,hf3,hz3⟩))
     all_goals
      go_wp2_with fail
      go_meet
      exact Lib.hid ⟨_,_,HA.out.1.put H0.out HKR4.out HG4.out⟩
    case rest =>
     obtain ⟨sl,v2,hmr⟩:=hcut.out
     clear HM3 HM HMk c0 c1 c2 c3 c4 fz m0 m1 m2 m3 mf1 hcut
     have HM:=Lib.hid hmr
     clear hmr
     have HMk:=Lib.hid (mark_of s4 m2v R ta tc S X s3 wc HM.out.rs hT (by omega) HPOS.out HS4.out HM2V.out)
     have hlen2:(rows++[(nd,sl)]).length+(gk - 1)<=X.F:=by rw [List.length_append];simp only [List.length_cons,List.length_nil];omega
     have HGO2:Hid (manyS X kid en X.F s.inc []=manyS X kid en (gk - 1) s5 ((rows++[(nd,sl)]).map Prod.fst)):=Lib.hid (by rw [List.map_append];exact HGO.out)
     have hi4:s4.i<=200000:=by omega
     by_cases h44:s4.mark X=44
     ·have t5:(m2v != 44)=false:=by
       have:m2v=44:=by rw [<-HM2V.out,h44];rfl
       simpa using this
      have t6:(m2v==44)=true:=by
       have:m2v=44:=by rw [<-HM2V.out,h44];rfl
       simpa using this
      have e5:s5=s4.inc:=by rw [<-HS5.out];unfold roundS;rw [if_pos h44]
      have HE5:=Lib.hid e5
      clear h44 e5
      go_wp2_with fail
      refine HMk.out.mono ?_
      rintro e w6 ⟨rfl,hr2,hg2⟩
      have hm2:=HM.out.grow hRl hr2 hg2
      obtain ⟨c0,c1,c2,c3,c4,fz⟩:=hm2.rs.cells
      obtain ⟨m0,m1,m2,m3,mf⟩:=node_cells hm2.nod
      have mf1:=mf 3
      have HM3:=Lib.hid hm2
      clear hm2 hr2 hg2 mf
      go_wp2_with fail
      go_roundg (gk - 1)
      case measure=>omega
      case rel=>exact ⟨s5,rows++[(nd,sl)],v2,Lib.hid (by rw [HE5.out];exact HM3.out.inc hRl),K1,K2,k3,hlen2,HGO2⟩
     ·have n44:¬ m2v=44:=by
       intro e
       apply h44
       have h1:(s4.mark X).toNat=44:=by have h2:=HM2V.out.trans e;exact_mod_cast h2
       exact UInt8.toNat_inj.1 h1
      have t5:(m2v != 44)=true:=by simpa using n44
      have t6:(m2v==44)=false:=by simpa using n44
      by_cases h5e:s4.mark X=en
      ·have t7:(m2v != ev)=false:=by
        have:m2v=ev:=by rw [<-HM2V.out,h5e,HEV.out]
        simpa using this
       have e5:s5=s4:=by rw [<-HS5.out];unfold roundS;rw [if_neg h44,if_pos h5e]
       have HE5:=Lib.hid e5
       clear h44 e5 h5e n44
       go_wp2_with fail
       refine HMk.out.mono ?_
       rintro e w6 ⟨rfl,hr2,hg2⟩
       have hm2:=HM.out.grow hRl hr2 hg2
       obtain ⟨c0,c1,c2,c3,c4,fz⟩:=hm2.rs.cells
       obtain ⟨m0,m1,m2,m3,mf⟩:=node_cells hm2.nod
       have mf1:=mf 3
       have HM3:=Lib.hid hm2
       clear hm2 hr2 hg2 mf
       go_wp2_with fail
       go_roundg (gk - 1)
       case measure=>omega
       case rel=>exact ⟨s5,rows++[(nd,sl)],v2,Lib.hid (by rw [HE5.out];exact HM3.out),K1,K2,k3,hlen2,HGO2⟩
      ·have n5:¬ m2v=ev:=by
        intro e
        apply h5e
        have h1:(s4.mark X).toNat=en.toNat:=by have h2:=HM2V.out.trans e;rw [HEV.out] at h2;exact_mod_cast h2
        exact UInt8.toNat_inj.1 h1
       have t7:(m2v != ev)=true:=by simpa using n5
       have e5:s5=s4.fail X 4:=by rw [<-HS5.out];unfold roundS;rw [if_neg h44,if_neg h5e]
       have HE5:=Lib.hid e5
       clear h44 e5 h5e n44 n5
       go_wp2_with fail
       refine HMk.out.mono ?_
       rintro e w6 ⟨rfl,hr2,hg2⟩
       have hm2:=HM.out.grow hRl hr2 hg2
       obtain ⟨c0,c1,c2,c3,c4,fz⟩:=hm2.rs.cells
       obtain ⟨m0,m1,m2,m3,mf⟩:=node_cells hm2.nod
       have mf1:=mf 3
       have HM3:=Lib.hid hm2
       clear hm2 hr2 hg2 mf
       go_wp2_with fail
       refine (fail_any 4 R ta tc S X s4 _ HM3.out.rs hT hi4).mono ?_
       rintro e w7 ⟨rfl,hr7,hg7⟩
       have HM7:=Lib.hid (HM3.out.grow hRl hr7 hg7)
       clear hr7 hg7
       go_wp2_with fail
       go_roundg (gk - 1)
       case measure=>omega
       case rel=>exact ⟨s5,rows++[(nd,sl)],v2,Lib.hid (by rw [HE5.out];exact HM7.out),K1,K2,k3,hlen2,HGO2⟩
   ·have t2:(u1.bad==0)=false:=by rw [hub1];simpa using hbd
    have hend:(manyS X kid en X.F s.inc [])=(u1,rows.map Prod.fst):=by rw [HEQ.out,manyS_end hpos1 (.inr hbd),hu1]
    have HMV:=Lib.hid hmv
    clear hmv hme hu1 hub1 hpos1 HEQ HFU HUB hbd hne
    go_wp2_with fail
    refine HMk.out.mono ?_
    rintro e w2 ⟨rfl,hr2,hg2⟩
    have hm2:=HM.out.grow hRl hr2 hg2
    obtain ⟨c0,c1,c2,c3,c4,fz⟩:=hm2.rs.cells
    obtain ⟨m0,m1,m2,m3,mf⟩:=node_cells hm2.nod
    have mf1:=mf 3
    have HM3:=Lib.hid hm2
    clear hm2 hr2 hg2 mf
    obtain ⟨vo,vc,hvf⟩:=HM3.out.kr.form
    subst hvf
    have mf2:=(node_cells HM3.out.nod).2.2.2.2 2
    obtain ⟨b0,b1,b2,b3,bf⟩:=node_cells HM3.out.res
    have bf0:=bf 0
    have bf1:=bf 1
    have bf2:=bf 2
    have bf3:=bf 3
    have HEND:=Lib.hid hend
    clear bf hend HMk
    go_wp2_with fail
    have HM5:=Lib.hid (HM3.out.inc hRl)
    generalize w2.setCell ⟨R,2,none⟩ (.int .i64 ((u1.i:Int)+1))=w5 at HM5 ⊢
    clear c0 c1 c2 c3 c4 fz m0 m1 m2 m3 mf1 mf2 b0 b1 b2 b3 bf0 bf1 bf2 bf3
    have R6:=Lib.hid (HM5.out.endAt (.int .i64 ((u1.i:Int)+1))).1
    obtain ⟨h7,g7⟩:=store4 R6.out (.int .i64 k) (.int .i64 (s.i:Int)) (.int .i64 ((u1.i:Int)+1)) (.slice vo rows.length vc)
    generalize (((((w5.setCell ⟨w.heap.size+1,2,none⟩ (.int .i64 ((u1.i:Int)+1))).setCell ⟨w.heap.size,0,none⟩ (.int .i64 k)).setCell ⟨w.heap.size,1,none⟩ (.int .i64 (s.i:Int))).setCell ⟨w.heap.size,2,none⟩ (.int .i64 ((u1.i:Int)+1))).setCell ⟨w.heap.size,3,none⟩ (.slice vo rows.length vc))=w7 at h7 g7 ⊢
    obtain ⟨f1,f2,f3⟩:=MR.fin H0.out HM5.out _ g7
    obtain ⟨n0,n1,n2,n3,-⟩:=node_cells h7
    exact bodyPost_ret (v:=.agg #[.int .i64 k,.int .i64 (s.i:Int),.int .i64 ((u1.i:Int)+1),.slice vo rows.length vc]) (by simp [results,Tryz.results69,go_sem,n0,n1,n2,n3]) rfl
     (by unfold manyN;rw [HEND.out];exact ⟨_,rfl,f1,f2,f3⟩)
set_option maxHeartbeats 8000000 in
theorem many_value (p2 p3:Addr) (k:Int) (en:UInt8) (hen:en≠0) (hen2:en≠44) (c:Nat) (kid:PS->PS×Nd) (R:Nat) (ta:Option Addr) (tc:Nat) (S:ByteArray) (X:TS) (hkf:Fine X c fun s=>(kid s).1) (hc:c<=30) (s:PS) (w:World) (h:RS w R ta tc S X s) (hT:X.T.length<=20000) (hF:X.T.length+2<=X.F) (hF2:X.F<=100000)
 (hi:s.i<X.T.length) (hb0:s.bad=0) (hpos:∀ j,j<X.T.length->X.pos j<X.l.length) (hk:KidOk R ta tc S X w 72 #[.pointer (some p2),.pointer (some p3)] kid) :
 Calls Tryz.prog 69 #[.pointer (some ⟨R,0,none⟩),.int .i64 k,.int .u8 (en.toNat:Int),.func (.func 72) #[] #[.pointer (some p2),.pointer (some p3)]] w (NP R ta tc S X (manyN X k en kid s) w):=by
 have hRl:=h.lt
 obtain ⟨ev,hev⟩:∃ ev:Int,ev=(en.toNat:Int):=⟨_,rfl⟩
 rw [<-hev]
 have HEV:=Lib.hid hev
 have H0:=Lib.hid h
 have h1:=h.set2 (s.i+1)
 rw [show ((s.i+1:Nat):Int)=(s.i:Int)+1 by omega] at h1
 have hsz:(w.setCell ⟨R,2,none⟩ (.int .i64 ((s.i:Int)+1))).heap.size=w.heap.size:=by simp [World.setCell]
 have M0:MR w R ta tc S X k s.i s.inc [] (.slice none 0 0) (((w.setCell ⟨R,2,none⟩ (.int .i64 ((s.i:Int)+1))).alloc (.cells #[.int .i64 0,.int .i64 0,.int .i64 0,.slice none 0 0] 53)).alloc (.cells #[.int .i64 k,.int .i64 s.i,.int .i64 0,.slice none 0 0] 53)):=by
  refine ⟨(h1.alloc _).alloc _,KR.nil _ _,?_,?_,((grown_set w R 2 _).trans (grown_alloc _ _ _)).trans (grown_alloc _ _ _)⟩
  ·exact (alloc_old_gx _ _ (by simp [hsz])).trans (by have:=heap_alloc_last (w.setCell ⟨R,2,none⟩ (.int .i64 ((s.i:Int)+1))) (.cells #[.int .i64 0,.int .i64 0,.int .i64 0,.slice none 0 0] 53);rwa [hsz] at this)
  ·have:=heap_alloc_last ((w.setCell ⟨R,2,none⟩ (.int .i64 ((s.i:Int)+1))).alloc (.cells #[.int .i64 0,.int .i64 0,.int .i64 0,.slice none 0 0] 53)) (.cells #[.int .i64 k,.int .i64 s.i,.int .i64 0,.slice none 0 0] 53)
   rwa [World.size_alloc,hsz] at this
 have HM0:=Lib.hid M0
 obtain ⟨c0,c1,c2,c3,c4,fz⟩:=h.cells
 have hRn:¬ R=w.heap.size:=by omega
 have hRn2:¬ w.heap.size=R:=by omega
 have hRn3:¬ R=w.heap.size+1:=by omega
 have hRn4:¬ w.heap.size+1=R:=by omega
 have HK:=Lib.hid hk
 have HKF:=Lib.hid hkf
 have HPOS:=Lib.hid hpos
 have HEN:=Lib.hid hen
 have HEN2:=Lib.hid hen2
 have HB0:=Lib.hid hb0
 clear h hk hev M0 h1 hsz hkf hpos hen hen2 hb0
 go_enter Tryz.func69,Tryz.ntmps69
 go_wp2_with fail
 clear c0 c1 c2 c3 c4 fz
 go_loopg [] (X.F) (fun g wx=>∃ (u:PS) (rows:List (Nd×Value)) (v:Value),Hid (MR w R ta tc S X k s.i u rows v wx)/\Hid (Fuel X en g u)/\Hid (u.bad=0->u.i<=X.T.length)/\u.i<=X.T.length+c/\rows.length+g<=X.F/\Hid (manyS X kid en X.F s.inc []=manyS X kid en g u (rows.map Prod.fst)))
 case atStart =>
  have hsi:s.inc.i=s.i+1:=rfl
  exact ⟨s.inc,[],.slice none 0 0,HM0,Lib.hid (.inl ⟨HB0.out,by omega⟩),Lib.hid (fun _=>by omega),by omega,by simp,Lib.hid rfl⟩
 case round =>
  obtain ⟨u,rows,v,HM,HFU,HUB,hui,hlen,HEQ⟩:=hrel
  clear HM0
  obtain ⟨u1,hu1⟩:∃ u1,u.skip X=u1:=⟨_,rfl⟩
  obtain ⟨mv,hmv⟩:∃ mv:Int,((u1.mark X).toNat:Int)=mv:=⟨_,rfl⟩
  have HMk:∀ wz,RS wz R ta tc S X u->_:=fun wz hz=>mark_of u1 mv R ta tc S X u wz hz hT (by omega) HPOS.out hu1 hmv
  replace HMk:=Lib.hid (HMk wr HM.out.rs)
  have hpos1:=HFU.out.pos HUB.out
  have hui1:u1.i<=100000:=by
   have:=skip_fine X u
   rw [hu1] at this
   rcases Nat.lt_or_ge X.T.length u.i with h|h
   ·rw [this.2.2 (by omega)];omega
   ·have:=this.2.1 h;omega
  have hub1:u1.bad=u.bad:=by rw [<-hu1];rfl
  by_cases hme:u1.mark X=en
  ·have t1:(mv != ev)=false:=by
    have:mv=ev:=by rw [<-hmv,hme,HEV.out]
    simpa using this
   have hend:(manyS X kid en X.F s.inc [])=(u1,rows.map Prod.fst):=by rw [HEQ.out,manyS_end hpos1 (.inl (by rw [hu1];exact hme)),hu1]
   have HMV:=Lib.hid hmv
   clear hmv hme hu1 hub1 hpos1 HEQ HFU HUB
   go_wp2_with fail
   refine HMk.out.mono ?_
   rintro e w2 ⟨rfl,hr2,hg2⟩
   have hm2:=HM.out.grow hRl hr2 hg2
   obtain ⟨c0,c1,c2,c3,c4,fz⟩:=hm2.rs.cells
   obtain ⟨m0,m1,m2,m3,mf⟩:=node_cells hm2.nod
   have mf1:=mf 3
   have HM3:=Lib.hid hm2
   clear hm2 hr2 hg2 mf
   obtain ⟨vo,vc,hvf⟩:=HM3.out.kr.form
   subst hvf
   have mf2:=(node_cells HM3.out.nod).2.2.2.2 2
   obtain ⟨b0,b1,b2,b3,bf⟩:=node_cells HM3.out.res
   have bf0:=bf 0
   have bf1:=bf 1
   have bf2:=bf 2
   have bf3:=bf 3
   have HEND:=Lib.hid hend
   clear bf hend HMk
   go_wp2_with fail
   have HM5:=Lib.hid (HM3.out.inc hRl)
   generalize w2.setCell ⟨R,2,none⟩ (.int .i64 ((u1.i:Int)+1))=w5 at HM5 ⊢
   clear c0 c1 c2 c3 c4 fz m0 m1 m2 m3 mf1 mf2 b0 b1 b2 b3 bf0 bf1 bf2 bf3
   have R6:=Lib.hid (HM5.out.endAt (.int .i64 ((u1.i:Int)+1))).1
   obtain ⟨h7,g7⟩:=store4 R6.out (.int .i64 k) (.int .i64 (s.i:Int)) (.int .i64 ((u1.i:Int)+1)) (.slice vo rows.length vc)
   generalize (((((w5.setCell ⟨w.heap.size+1,2,none⟩ (.int .i64 ((u1.i:Int)+1))).setCell ⟨w.heap.size,0,none⟩ (.int .i64 k)).setCell ⟨w.heap.size,1,none⟩ (.int .i64 (s.i:Int))).setCell ⟨w.heap.size,2,none⟩ (.int .i64 ((u1.i:Int)+1))).setCell ⟨w.heap.size,3,none⟩ (.slice vo rows.length vc))=w7 at h7 g7 ⊢
   obtain ⟨f1,f2,f3⟩:=MR.fin H0.out HM5.out _ g7
   obtain ⟨n0,n1,n2,n3,-⟩:=node_cells h7
   exact bodyPost_ret (v:=.agg #[.int .i64 k,.int .i64 (s.i:Int),.int .i64 ((u1.i:Int)+1),.slice vo rows.length vc]) (by simp [results,Tryz.results69,go_sem,n0,n1,n2,n3]) rfl
    (by unfold manyN;rw [HEND.out];exact ⟨_,rfl,f1,f2,f3⟩)
  ·have hne:¬ mv=ev:=by
    intro e
    apply hme
    have h1:(u1.mark X).toNat=en.toNat:=by have h2:=hmv.trans e;rw [HEV.out] at h2;exact_mod_cast h2
    exact UInt8.toNat_inj.1 h1
   have t1:(mv != ev)=true:=by simpa using hne
   by_cases hbd:u.bad=0
   ·have t2:(u1.bad==0)=true:=by rw [hub1];simpa using hbd
    have hex:¬ ((u.skip X).mark X=en\/u.bad≠0):=by rw [hu1];exact fun h=>h.elim hme (fun h=>h hbd)
    have hgo:=manyS_go (kid:=kid) (ks:=rows.map Prod.fst) hpos1 hex
    obtain ⟨k1,k2,k3,k4,k5,k6,k7⟩:=round_keeps HKF.out HFU.out HUB.out hex
    rw [hu1] at k1 k2 k3 k5 k6 k7 hgo
    obtain ⟨s3,hs3⟩:∃ s3,(kid u1).1=s3:=⟨_,rfl⟩
    obtain ⟨nd,hnd⟩:∃ nd,(kid u1).2=nd:=⟨_,rfl⟩
    obtain ⟨s4,hs4⟩:∃ s4,s3.skip X=s4:=⟨_,rfl⟩
    obtain ⟨m2v,hm2v⟩:∃ m2v:Int,((s4.mark X).toNat:Int)=m2v:=⟨_,rfl⟩
    rw [hs3,hs4] at k1 k2 k3 k7 hgo
    rw [hs3] at k6
    rw [hnd] at hgo
    obtain ⟨s5,hs5⟩:∃ s5,roundS X en s4=s5:=⟨_,rfl⟩
    rw [hs5] at k1 k2 k3 hgo
    have hb1:u1.bad=0:=by rw [hub1];exact hbd
    have HS3:=Lib.hid hs3
    have HND:=Lib.hid hnd
    have HS4:=Lib.hid hs4
    have HM2V:=Lib.hid hm2v
    have HS5:=Lib.hid hs5
    have HGO:=Lib.hid (HEQ.out.trans hgo)
    have K1:=Lib.hid k1
    have K2:=Lib.hid k2
    have HB1:=Lib.hid hb1
    clear hs3 hnd hs4 hm2v hs5 hgo k1 k2 k4 hb1 hex hbd hne hme hub1 hu1 hmv HEQ HFU HUB
    go_wp2_with fail
    refine HMk.out.mono ?_
    rintro e w2 ⟨rfl,hr2,hg2⟩
    have hm2:=HM.out.grow hRl hr2 hg2
    obtain ⟨c0,c1,c2,c3,c4,fz⟩:=hm2.rs.cells
    obtain ⟨m0,m1,m2,m3,mf⟩:=node_cells hm2.nod
    have mf1:=mf 3
    have HM3:=Lib.hid hm2
    clear hm2 hr2 hg2 mf
    go_upto_region 4 with fail
    go_cut [] (fun wx=>Hid (KidsMore w R ta tc S X k s.i s3 rows nd wx))
    case first =>
     have HKC:=Lib.hid (kid_came (kid:=kid) hRl (HM3.out.drewN hRl 1) (HK.out u1 _ (HM3.out.drewN hRl 1).gr (HM3.out.drewN hRl 1).rs HB1.out k5) HS3.out HND.out)
     clear c0 c1 c2 c3 c4 fz m0 m1 m2 HMk
     go_region_law (first
      | (refine step_kid rfl (.tmp 36) (.tmp 39) rfl HA.out.1.kr HA.out.1.size nd so sn sc HA.out.2 _ rfl rfl rfl (by omega) ?_;intro g4 cap4 w4 hkr4 hg4;have hcc:=HA.out.1.cell hg4;have hca:=hcc.1;have hcb:=hcc.2;have HKR4:=Lib.hid hkr4;have HG4:=Lib.hid hg4;clear hcc hkr4 hg4)
      | (go_simp;refine HKC.out.mono ?_;rintro e w3 ⟨so,sn,sc,rfl,HA,hc3,hf3,hz3⟩))
     all_goals
      go_wp2_with fail
      go_meet
      exact Lib.hid ⟨_,_,HA.out.1.put H0.out HKR4.out HG4.out⟩
    case rest =>
     obtain ⟨sl,v2,hmr⟩:=hcut.out
     clear HM3 HM HMk c0 c1 c2 c3 c4 fz m0 m1 m2 m3 mf1 hcut
     have HM:=Lib.hid hmr
     clear hmr
     have HMk:=Lib.hid (mark_of s4 m2v R ta tc S X s3 wc HM.out.rs hT (by omega) HPOS.out HS4.out HM2V.out)
     have hlen2:(rows++[(nd,sl)]).length+(gk - 1)<=X.F:=by rw [List.length_append];simp only [List.length_cons,List.length_nil];omega
     have HGO2:Hid (manyS X kid en X.F s.inc []=manyS X kid en (gk - 1) s5 ((rows++[(nd,sl)]).map Prod.fst)):=Lib.hid (by rw [List.map_append];exact HGO.out)
     have hi4:s4.i<=200000:=by omega
     by_cases h44:s4.mark X=44
     ·have t5:(m2v != 44)=false:=by
       have:m2v=44:=by rw [<-HM2V.out,h44];rfl
       simpa using this
      have t6:(m2v==44)=true:=by
       have:m2v=44:=by rw [<-HM2V.out,h44];rfl
       simpa using this
      have e5:s5=s4.inc:=by rw [<-HS5.out];unfold roundS;rw [if_pos h44]
      have HE5:=Lib.hid e5
      clear h44 e5
      go_wp2_with fail
      refine HMk.out.mono ?_
      rintro e w6 ⟨rfl,hr2,hg2⟩
      have hm2:=HM.out.grow hRl hr2 hg2
      obtain ⟨c0,c1,c2,c3,c4,fz⟩:=hm2.rs.cells
      obtain ⟨m0,m1,m2,m3,mf⟩:=node_cells hm2.nod
      have mf1:=mf 3
      have HM3:=Lib.hid hm2
      clear hm2 hr2 hg2 mf
      go_wp2_with fail
      go_roundg (gk - 1)
      case measure=>omega
      case rel=>exact ⟨s5,rows++[(nd,sl)],v2,Lib.hid (by rw [HE5.out];exact HM3.out.inc hRl),K1,K2,k3,hlen2,HGO2⟩
     ·have n44:¬ m2v=44:=by
       intro e
       apply h44
       have h1:(s4.mark X).toNat=44:=by have h2:=HM2V.out.trans e;exact_mod_cast h2
       exact UInt8.toNat_inj.1 h1
      have t5:(m2v != 44)=true:=by simpa using n44
      have t6:(m2v==44)=false:=by simpa using n44
      by_cases h5e:s4.mark X=en
      ·have t7:(m2v != ev)=false:=by
        have:m2v=ev:=by rw [<-HM2V.out,h5e,HEV.out]
        simpa using this
       have e5:s5=s4:=by rw [<-HS5.out];unfold roundS;rw [if_neg h44,if_pos h5e]
       have HE5:=Lib.hid e5
       clear h44 e5 h5e n44
       go_wp2_with fail
       refine HMk.out.mono ?_
       rintro e w6 ⟨rfl,hr2,hg2⟩
       have hm2:=HM.out.grow hRl hr2 hg2
       obtain ⟨c0,c1,c2,c3,c4,fz⟩:=hm2.rs.cells
       obtain ⟨m0,m1,m2,m3,mf⟩:=node_cells hm2.nod
       have mf1:=mf 3
       have HM3:=Lib.hid hm2
       clear hm2 hr2 hg2 mf
       go_wp2_with fail
       go_roundg (gk - 1)
       case measure=>omega
       case rel=>exact ⟨s5,rows++[(nd,sl)],v2,Lib.hid (by rw [HE5.out];exact HM3.out),K1,K2,k3,hlen2,HGO2⟩
      ·have n5:¬ m2v=ev:=by
        intro e
        apply h5e
        have h1:(s4.mark X).toNat=en.toNat:=by have h2:=HM2V.out.trans e;rw [HEV.out] at h2;exact_mod_cast h2
        exact UInt8.toNat_inj.1 h1
       have t7:(m2v != ev)=true:=by simpa using n5
       have e5:s5=s4.fail X 4:=by rw [<-HS5.out];unfold roundS;rw [if_neg h44,if_neg h5e]
       have HE5:=Lib.hid e5
       clear h44 e5 h5e n44 n5
       go_wp2_with fail
       refine HMk.out.mono ?_
       rintro e w6 ⟨rfl,hr2,hg2⟩
       have hm2:=HM.out.grow hRl hr2 hg2
       obtain ⟨c0,c1,c2,c3,c4,fz⟩:=hm2.rs.cells
       obtain ⟨m0,m1,m2,m3,mf⟩:=node_cells hm2.nod
       have mf1:=mf 3
       have HM3:=Lib.hid hm2
       clear hm2 hr2 hg2 mf
       go_wp2_with fail
       refine (fail_any 4 R ta tc S X s4 _ HM3.out.rs hT hi4).mono ?_
       rintro e w7 ⟨rfl,hr7,hg7⟩
       have HM7:=Lib.hid (HM3.out.grow hRl hr7 hg7)
       clear hr7 hg7
       go_wp2_with fail
       go_roundg (gk - 1)
       case measure=>omega
       case rel=>exact ⟨s5,rows++[(nd,sl)],v2,Lib.hid (by rw [HE5.out];exact HM7.out),K1,K2,k3,hlen2,HGO2⟩
   ·have t2:(u1.bad==0)=false:=by rw [hub1];simpa using hbd
    have hend:(manyS X kid en X.F s.inc [])=(u1,rows.map Prod.fst):=by rw [HEQ.out,manyS_end hpos1 (.inr hbd),hu1]
    have HMV:=Lib.hid hmv
    clear hmv hme hu1 hub1 hpos1 HEQ HFU HUB hbd hne
    go_wp2_with fail
    refine HMk.out.mono ?_
    rintro e w2 ⟨rfl,hr2,hg2⟩
    have hm2:=HM.out.grow hRl hr2 hg2
    obtain ⟨c0,c1,c2,c3,c4,fz⟩:=hm2.rs.cells
    obtain ⟨m0,m1,m2,m3,mf⟩:=node_cells hm2.nod
    have mf1:=mf 3
    have HM3:=Lib.hid hm2
    clear hm2 hr2 hg2 mf
    obtain ⟨vo,vc,hvf⟩:=HM3.out.kr.form
    subst hvf
    have mf2:=(node_cells HM3.out.nod).2.2.2.2 2
    obtain ⟨b0,b1,b2,b3,bf⟩:=node_cells HM3.out.res
    have bf0:=bf 0
    have bf1:=bf 1
    have bf2:=bf 2
    have bf3:=bf 3
    have HEND:=Lib.hid hend
    clear bf hend HMk
    go_wp2_with fail
    have HM5:=Lib.hid (HM3.out.inc hRl)
    generalize w2.setCell ⟨R,2,none⟩ (.int .i64 ((u1.i:Int)+1))=w5 at HM5 ⊢
    clear c0 c1 c2 c3 c4 fz m0 m1 m2 m3 mf1 mf2 b0 b1 b2 b3 bf0 bf1 bf2 bf3
    have R6:=Lib.hid (HM5.out.endAt (.int .i64 ((u1.i:Int)+1))).1
    obtain ⟨h7,g7⟩:=store4 R6.out (.int .i64 k) (.int .i64 (s.i:Int)) (.int .i64 ((u1.i:Int)+1)) (.slice vo rows.length vc)
    generalize (((((w5.setCell ⟨w.heap.size+1,2,none⟩ (.int .i64 ((u1.i:Int)+1))).setCell ⟨w.heap.size,0,none⟩ (.int .i64 k)).setCell ⟨w.heap.size,1,none⟩ (.int .i64 (s.i:Int))).setCell ⟨w.heap.size,2,none⟩ (.int .i64 ((u1.i:Int)+1))).setCell ⟨w.heap.size,3,none⟩ (.slice vo rows.length vc))=w7 at h7 g7 ⊢
    obtain ⟨f1,f2,f3⟩:=MR.fin H0.out HM5.out _ g7
    obtain ⟨n0,n1,n2,n3,-⟩:=node_cells h7
    exact bodyPost_ret (v:=.agg #[.int .i64 k,.int .i64 (s.i:Int),.int .i64 ((u1.i:Int)+1),.slice vo rows.length vc]) (by simp [results,Tryz.results69,go_sem,n0,n1,n2,n3]) rfl
     (by unfold manyN;rw [HEND.out];exact ⟨_,rfl,f1,f2,f3⟩)
end Go.Proofs.YtldhmfkojaekfaaGreatDoor
