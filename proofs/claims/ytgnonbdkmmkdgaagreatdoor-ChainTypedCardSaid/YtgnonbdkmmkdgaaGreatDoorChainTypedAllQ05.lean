/-
  Lemmas for the statement: plain laws, and what functions answer; the conditions stand in each.
-/
import Derived.Deep.LoopGhost
import Derived.Test.YtgnonbdkmmkdgaaGreatDoorChainTypedAllQ04
set_option linter.unusedVariables false
set_option linter.unusedSimpArgs false
set_option maxHeartbeats 16000000
set_option maxRecDepth 100000
open Go.Lib (hid)
namespace Go.Proofs.YtgnonbdkmmkdgaaGreatDoor
open Go.RowKit Gx
def goes (f:Int->Option Nat) (cur:Int) (p:Int×Int):Bool:=decide (p.1=cur) && (f p.2).isSome && decide ((((f p.2).getD 0:Nat):Int)=(((f cur).getD 0:Nat):Int) - 1)
theorem planClosure_any (x y:Int) (mv:Value) (B A at_:Nat) (f:Int->Option Nat) (n:Nat) (cur:Int) (w:World) (hmv:mv.oneCell'=true) (hf:FarMap w B f n) (hx:(Lit.int .i64 x).wf=true) (hy:(Lit.int .i64 y).wf=true) (hc:(Lit.int .i64 cur).wf=true)
 (hbnd:∀ x d,f x=some d->d<=1000) (hA:w.cell? ⟨A,0,none⟩=some (.map (some B))) (hat:w.cell? ⟨at_,0,none⟩=some (.int .i64 cur)) :
 Calls Tryz.prog 23 #[.agg #[.int .i64 x,.int .i64 y,mv],.pointer (some ⟨A,0,none⟩),.pointer (some ⟨at_,0,none⟩)] w fun e w' =>
  e=.returned (.bool (goes f cur (x,y)))/\Below w.heap.size w w':=by
 have hltA:=World.block_lt_of_cell? w _ hA
 have hltat:=World.block_lt_of_cell? w _ hat
 by_cases hxc:x=cur
 ·subst hxc
  have l1:=(hf.alloc (.cells #[.int .i64 x,.int .i64 y,mv] 51)).look_ok y hy
  have l2:=((hf.alloc (.cells #[.int .i64 x,.int .i64 y,mv] 51))).look x hc
  cases hfy:f y with
  | none =>
    rw [hfy] at l1
    simp only [Option.isSome_none,Option.getD_none] at l1
    have L1:=hid l1
    go_enter Tryz.func23,Tryz.ntmps23
    go_wp2
    go_ret
    exact ⟨by simp [goes,hfy],(Below.refl _ _).alloc (Nat.le_refl _) _⟩
  | some d =>
    rw [hfy] at l1
    simp only [Option.isSome_some,Option.getD_some] at l1
    have hb1:d<=1000:=hbnd y d hfy
    have hb2:(f x).getD 0<=1000:=by
     cases h:f x with
     | none=>simp
     | some e=>exact hbnd x e h
    obtain ⟨e,he⟩:∃ e,e=(f x).getD 0:=⟨_,rfl⟩
    rw [<-he] at l2 hb2
    clear hf hbnd
    have HE:=hid he
    have HFY:=hid hfy
    clear he hfy
    go_enter Tryz.func23,Tryz.ntmps23
    go_wp2
    go_ret
    exact ⟨by simp [goes,HFY.out,<-HE.out];rfl,(Below.refl _ _).alloc (Nat.le_refl _) _⟩
 ·have l1:=(hf.alloc (.cells #[.int .i64 x,.int .i64 y,mv] 51)).look_ok y hy
  go_enter Tryz.func23,Tryz.ntmps23
  go_wp2
  go_ret
  exact ⟨by simp [goes,hxc],(Below.refl _ _).alloc (Nat.le_refl _) _⟩
theorem indexFunc_any (ad:Option Addr) (cap:Nat) (L:Links) (B A at_:Nat) (f:Int->Option Nat) (n:Nat) (cur:Int) (i:Nat) (w:World) (hL:Lk w ad cap L) (hl:L.length<=100) (hf:FarMap w B f n) (hc:(Lit.int .i64 cur).wf=true)
 (hbnd:∀ x d,f x=some d->d<=1000) (hA:w.cell? ⟨A,0,none⟩=some (.map (some B))) (hat:w.cell? ⟨at_,0,none⟩=some (.int .i64 cur)) (hi:i<L.length)
 (hgi:goes f cur (L[i])=true) (hlt:∀ j (h:j<i),goes f cur (L[j]'(by omega))=false) :
 Calls Tryz.prog 22 #[.slice ad L.length cap,.func (.func 23) #[] #[.pointer (some ⟨A,0,none⟩),.pointer (some ⟨at_,0,none⟩)]] w fun e w' =>
  e=.returned (.int .i64 (i:Int))/\Below w.heap.size w w':=by
 have hltA:=World.block_lt_of_cell? w _ hA
 have hltat:=World.block_lt_of_cell? w _ hat
 have H:=hid hL
 have HF:=hid hf
 have HG:=hid hgi
 have HLT:=hid hlt
 have HB:=hid hbnd
 have HA:=hid hA
 have HAT:=hid hat
 clear hL hf hgi hlt hbnd hA hat
 obtain ⟨N,hN⟩:∃ N,N=L.length:=⟨_,rfl⟩
 have HN:=hid hN
 rw [<-hN] at hl hi ⊢
 clear hN
 go_enter Tryz.func22,Tryz.ntmps22
 go_wp2
 go_loopw [5,8] (fun _ v wr=>∃ k:Nat,k<=i/\v=.int .i64 k/\Below w.heap.size w wr) (fun _ v _=>N - (intOf v).toNat)
 case atStart=>exact ⟨0,Nat.zero_le _,rfl,Below.refl _ _⟩
 case round =>
  obtain ⟨k,hk,rfl,hb⟩:=hrel
  have hsz:=hb.size
  have hkN:k<L.length:=by have:=HN.out;omega
  obtain ⟨b,off,rfl,hbl,hcells⟩:=(H.out.keep hb).addr (by omega)
  obtain ⟨c0,c1,m1,m2,m3,c2⟩:=hcells k L[k] (List.getElem?_eq_getElem hkN)
  have hwf:=H.out.wf L[k] (List.getElem_mem hkN)
  have hcall:=planClosure_any (L[k]).1 (L[k]).2 (.slice m1 m2 m3) B A at_ f n cur wr rfl (HF.out.keep hb) hwf.1 hwf.2 hc HB.out ((hb.cell (p:=⟨A,0,none⟩) hltA).trans HA.out) ((hb.cell (p:=⟨at_,0,none⟩) hltat).trans HAT.out)
  have hfin:k=i->goes f cur ((L[k]).1,(L[k]).2)=true:=by intro e;subst e;exact HG.out
  have hgo:k<i->goes f cur ((L[k]).1,(L[k]).2)=false:=by intro e;exact HLT.out k e
  clear hcells hbl
  obtain ⟨x,hx⟩:∃ x,x=(L[k]).1:=⟨_,rfl⟩
  obtain ⟨y,hy⟩:∃ y,y=(L[k]).2:=⟨_,rfl⟩
  rw [<-hx,<-hy] at hfin hgo hcall
  rw [<-hx] at c0
  rw [<-hy] at c1
  clear hx hy hwf hkN
  have HC:=hid hcall
  clear hcall
  have hi1:(0:Int)<=(k:Int):=by omega
  have hi2:(k:Int)<(N:Int):=by omega
  by_cases hki:k=i
  ·have hg:=hfin hki
   rw [hg] at HC
   subst hki
   clear hfin hgo hg
   go_wp2_with fail
   refine HC.out.mono ?_
   rintro e w2 ⟨rfl,hb2⟩
   go_wp2
   go_ret
   exact ⟨rfl,hb.trans (hb2.mono hsz)⟩
  ·have hg:=hgo (by omega)
   rw [hg] at HC
   clear hfin hgo hg
   go_wp2_with fail
   refine HC.out.mono ?_
   rintro e w2 ⟨rfl,hb2⟩
   go_wp2
   go_roundw
   case rel=>exact ⟨k+1,by omega,by go_num,hb.trans (hb2.mono hsz)⟩
   case measure=>simp [intOf];omega
theorem planLarge_any (ad:Option Addr) (cap:Nat) (L:Links) (a b:Int) (w:World) (hl:100<L.length) (h63:L.length<=9223372036854775807) :
 Calls Tryz.prog 9 #[.slice ad L.length cap,.int .i64 a,.int .i64 b] w fun e w'=>e=.returned (.tuple #[.slice none 0 0,.int .i64 2])/\w=w':=by
 obtain ⟨N,hN⟩:∃ N,N=L.length:=⟨_,rfl⟩
 rw [<-hN] at hl h63 ⊢
 clear hN
 have hl2:(100:Int)<(N:Int):=by omega
 go_enter Tryz.func9,Tryz.ntmps9
 go_wp2
 go_ret2
 exact ⟨rfl,rfl⟩
def PlanPost (L:Links) (a b:Int) (w:World) (e:Ending) (w':World):Prop :=
 ∃ f,Dist L b f/\Below w.heap.size w w'/\((f a=none/\e=.returned (.tuple #[.slice none 0 0,.int .i64 8])) \/
  ∃ (o:List Nat) (ad:Option Addr) (cap:Nat),Way L f o a b/\e=.returned (.tuple #[.slice ad o.length cap,.int .i64 0])/\Rd .i64 w' ad cap (o.map Int.ofNat)/\∀ z,ad=some z->w.heap.size<=z.block)
structure PlanW (w wr:World) (Bm A:Nat) (v:Value) (f:Int->Option Nat) (q:List (Int×Nat)) (p:Nat):Prop where
 own:OwnQ wr w.heap.size v (q.map fun z=>.int .i64 z.1)
 neB:v.ownBlock≠some Bm
 neA:v.ownBlock≠some A
 map:FarMap wr Bm f (p+1)
 cA:wr.cell? ⟨A,0,none⟩=some (.map (some Bm))
 below:Below w.heap.size w wr
 wfq:∀ z∈q,(Lit.int .i64 z.1).wf=true
 leA:w.heap.size<=A
 leB:w.heap.size<=Bm
 ne:A≠Bm
 len:q.length<=p+1
theorem PlanW.kept {w wr w':World} {Bm A:Nat} {v:Value} {f:Int->Option Nat} {q:List (Int×Nat)} {p:Nat} (h:PlanW w wr Bm A v f q p) (hg:wr.grownBy w' none):PlanW w w' Bm A v f q p:=by
 have hltA:A<wr.heap.size:=World.block_lt_of_cell? wr _ h.cA
 refine ⟨h.own.kept hg ?_,h.neB,h.neA,h.map.kept hg (by simp),?_,h.below.grown hg h.below.size (by simp),h.wfq,h.leA,h.leB,h.ne,h.len⟩
 ·obtain ⟨g,o,c,e,-⟩:=h.own
  subst e
  simp [Value.ownBlock]
 ·rw [hg.cell_far _ hltA (by simp)];exact h.cA
theorem grown_alloc_drew (w:World) (o:Obj) (n:Nat):w.grownBy ((w.alloc o).drewN n) none :=
 ⟨rfl,rfl,rfl,by show w.heap.size<=(w.alloc o).heap.size;simp,fun k hk _=>alloc_old_gx w o hk⟩
theorem PlanW.pop {w wr:World} {Bm A g o c:Nat} {f:Int->Option Nat} {h:Int×Nat} {r:List (Int×Nat)} {p n:Nat} (H:PlanW w wr Bm A (.slice (some ⟨g,o,none⟩) n c) f (h::r) p) :
 PlanW w wr Bm A (.slice (some ⟨g,o+1,none⟩) r.length (c - 1)) f r p:=by
 refine ⟨?_,H.neB,H.neA,H.map,H.cA,H.below,fun z hz=>H.wfq z (by simp [hz]),H.leA,H.leB,H.ne,by have:=H.len;simp at this;omega⟩
 have:=OwnQ.tail (x:=.int .i64 h.1) (xs:=r.map fun z=>.int .i64 z.1) H.own
 simpa using this
theorem PlanW.pop0 {w wr:World} {Bm A g o:Nat} {f:Int->Option Nat} {h:Int×Nat} {r:List (Int×Nat)} {p n:Nat} (H:PlanW w wr Bm A (.slice (some ⟨g,o,none⟩) n 1) f (h::r) p) :
 PlanW w wr Bm A (.slice (some ⟨g,o,none⟩) r.length 0) f r p:=by
 refine ⟨?_,H.neB,H.neA,H.map,H.cA,H.below,fun z hz=>H.wfq z (by simp [hz]),H.leA,H.leB,H.ne,by have:=H.len;simp at this;omega⟩
 obtain ⟨g',o',c',e,h1,h2,h3,h4,h5,h6⟩:=H.own
 cases e
 simp only [List.length_map,List.length_cons] at h3
 obtain rfl:r=[]:=List.eq_nil_of_length_eq_zero (by omega)
 exact ⟨g,o,0,rfl,h1,h2,by simp,by decide,fun j hj=>by omega,fun j u hu=>by simp at hu⟩
theorem plan_push {w wr wz w3 w4:World} {Bm A:Nat} {v v':Value} {f f':Int->Option Nat} {q:List (Int×Nat)} {p d:Nat} {x:Int} (hW:PlanW w wr Bm A v f q p) (hz:wr.grownBy wz none) (hg3:wz.grownBy w3 (some Bm)) (hf3:FarMap w3 Bm f' (p+1+1))
 (hown:OwnQ w4 w.heap.size v' ((q.map fun z=>.int .i64 z.1)++[.int .i64 x])) (hg4:w3.grownBy w4 v.ownBlock) (hm:Moved v v' w3.heap.size) (hx:(Lit.int .i64 x).wf=true):PlanW w w4 Bm A v' f' (q++[(x,d)]) (p+1):=by
 have hltA:A<wr.heap.size:=World.block_lt_of_cell? wr _ hW.cA
 have hltB:=hW.map.lt
 have s1:=hz.size
 have s2:=hg3.size
 have s3:=hg4.size
 have s0:=hW.below.size
 have leA:=hW.leA
 refine ⟨by rw [List.map_append];exact hown,hm.ne (by omega) hW.neB,hm.ne (by omega) hW.neA,hf3.kept hg4 (by intro e;exact hW.neB e.symm),?_,?_,fun z hz'=>?_,hW.leA,hW.leB,hW.ne,by have:=hW.len;simp;omega⟩
 ·rw [hg4.cell_far _ (by show A<_;omega) (by intro e;exact hW.neA e.symm),hg3.cell_far _ (by show A<_;omega) (by intro e;cases e;exact hW.ne rfl),hz.cell_far _ hltA (by simp)]
  exact hW.cA
 ·have b1:Below w.heap.size w wz:=hW.below.grown hz s0 (by simp)
  have b2:Below w.heap.size w w3:=b1.grown hg3 (by omega) (fun k e=>by cases e;exact hW.leB)
  exact b2.grown hg4 (by omega) (fun k e=>(hW.own.lt e).1)
 ·rcases List.mem_append.1 hz' with h|h
  ·exact hW.wfq z h
  ·simp at h;subst h;exact hx
structure WayW (w wr:World) (Bm A at_:Nat) (out:Value) (f:Int->Option Nat) (p:Nat) (o:List Nat) (cur:Int):Prop where
 own:wr.ownsRow w.heap.size 3 1 out o.length (o.map fun (i:Nat)=>.int .i64 (i:Int))
 neB:out.ownBlock≠some Bm
 neA:out.ownBlock≠some A
 neC:out.ownBlock≠some at_
 map:FarMap wr Bm f (p+1)
 cA:wr.cell? ⟨A,0,none⟩=some (.map (some Bm))
 cC:wr.cell? ⟨at_,0,none⟩=some (.int .i64 cur)
 fC:wr.frozen? ⟨at_,0,none⟩=false
 below:Below w.heap.size w wr
 leC:w.heap.size<=at_
 neCA:at_≠A
 neCB:at_≠Bm
 wfc:(Lit.int .i64 cur).wf=true
theorem info_int:(Tryz.prog.info? 3).map (fun i=>(i.zero,i.size,i.bytes))=some (some (.int .i64 0),1,8):=by kernel_rfl
theorem grownBy_of_below {w w':World} (h:Below w.heap.size w w'):w.grownBy w' none:=⟨h.os,h.tape,h.output,h.size,fun k hk _=>h.block k hk⟩
theorem way_step {w wr w2 w3:World} {Bm A at_:Nat} {out out':Value} {f:Int->Option Nat} {p:Nat} {o:List Nat} {cur y:Int} {i:Nat} (hX:WayW w wr Bm A at_ out f p o cur) (hb2:Below wr.heap.size wr w2)
 (hown3:w3.ownsRow w.heap.size 3 1 out' (o.length+1) (o.map (fun (i:Nat)=>.int .i64 (i:Int))++[.int .i64 (i:Int)])) (hg3:w2.grownBy w3 out.ownBlock) (hm:Moved out out' w2.heap.size) (hy:(Lit.int .i64 y).wf=true) :
 WayW w ((w3.setCell ⟨at_,0,none⟩ (.int .i64 y)).alloc (.cells #[.int .i64 y] 3)) Bm A w3.heap.size out' f p (o++[i]) y:=by
 have hltA:A<wr.heap.size:=World.block_lt_of_cell? wr _ hX.cA
 have hltC:at_<wr.heap.size:=World.block_lt_of_cell? wr _ hX.cC
 have hltB:=hX.map.lt
 have hs2:=hb2.size
 have hs3:=hg3.size
 have hs0:=hX.below.size
 have hgr:=grownBy_of_below hb2
 have hset:w3.grownBy (w3.setCell ⟨at_,0,none⟩ (.int .i64 y)) (some at_):=grownBy_set _ _ _ _
 have hssz:(w3.setCell ⟨at_,0,none⟩ (.int .i64 y)).heap.size=w3.heap.size:=by simp [World.setCell]
 have nC':out'.ownBlock≠some at_:=hm.ne (by omega) hX.neC
 refine ⟨?_,hm.ne (by omega) hX.neB,hm.ne (by omega) hX.neA,?_,?_,?_,?_,?_,?_,by omega,by omega,by omega,hy⟩
 ·rw [List.map_append,List.length_append]
  exact (hown3.kept hset (.inr nC')).alloc _
 ·intro e
  have:=(hown3.lt _ e).2
  omega
 ·exact ((((hX.map.kept hgr (by simp)).kept hg3 (by intro e;exact hX.neB e.symm)).kept hset (by intro e;cases e;exact hX.neCB rfl))).alloc _
 ·rw [World.cell?_alloc_lt _ _ _ (by rw [hssz];show A<_;omega),hset.cell_far _ (by show A<_;omega) (by intro e;cases e;exact hX.neCA rfl),hg3.cell_far _ (by show A<_;omega) (by intro e;exact hX.neA e.symm),hgr.cell_far _ hltA (by simp)]
  exact hX.cA
 ·have:=World.cell?_alloc_mark (w3.setCell ⟨at_,0,none⟩ (.int .i64 y)) #[.int .i64 y] 3 (0,0) 0
  rw [hssz] at this
  exact this
 ·have:=World.frozen?_alloc_new (w3.setCell ⟨at_,0,none⟩ (.int .i64 y)) #[.int .i64 y] 3 0
  rw [hssz] at this
  exact this
 ·have h1:Below w.heap.size w w2:=hX.below.trans (hb2.mono hs0)
  have h2:Below w.heap.size w w3:=h1.grown hg3 (by omega) (fun k e=>by
   cases ho:out with
   | slice a n c =>
     rw [ho] at e
     have:=(hX.own.lt k (by rw [ho];exact e)).1
     exact this
   | _=>rw [ho] at e;simp [Value.ownBlock] at e)
  exact ((h2.setCell (p:=⟨at_,0,none⟩) hX.leC _)).alloc (by rw [hssz];omega) _
theorem goes_nearer {L:Links} {f:Int->Option Nat} {cur:Int} {d i:Nat} (hd:f cur=some (d+1)) (hi:i<L.length):goes f cur (L[i])=true↔nearer L f cur i:=by
 unfold goes nearer
 rw [hd,List.getElem?_eq_getElem hi]
 simp only [Bool.and_eq_true,decide_eq_true_eq,Option.getD_some]
 constructor
 ·rintro ⟨⟨h1,h2⟩,h3⟩
  obtain ⟨e,he⟩:=Option.isSome_iff_exists.1 h2
  rw [he] at h3
  simp only [Option.getD_some] at h3
  exact ⟨(L[i]).2,e,by rw [<-h1],he,by congr 1;omega⟩
 ·rintro ⟨y,e,h1,h2,h3⟩
  cases h3
  have h4:=Option.some.inj h1
  rw [h4]
  simp [h2]
theorem plan_any (ad:Option Addr) (cap:Nat) (L:Links) (a b:Int) (w:World) (hL:Lk w ad cap L) (hl:L.length<=100) (ha:(Lit.int .i64 a).wf=true) (hb:(Lit.int .i64 b).wf=true) :
 Calls Tryz.prog 9 #[.slice ad L.length cap,.int .i64 a,.int .i64 b] w (PlanPost L a b w):=by
 have H:=hid hL
 have HA:=hid ha
 have HB:=hid hb
 have hcap:=hL.ncap
 have hc63:=hL.cap63
 clear hL ha hb
 obtain ⟨N,hN⟩:∃ N,N=L.length:=⟨_,rfl⟩
 have HN:=hid hN
 rw [<-hN] at hl hcap ⊢
 clear hN
 have hmm:=@run_makeMap Tryz.prog
 go_enter Tryz.func9,Tryz.ntmps9
 go_wp2_with (first|(refine wpList_far_put _ rfl _ _ _ (.inr rfl) w.heap.size 0 (fun _=>none) rfl (FarMap.made w) (by decide) b 0 rfl rfl HB.out (by decide) ?_))
 intro w1 hf1 hg1
 have hb1:Below w.heap.size w w1:=by
  have:=(Below.refl w.heap.size w).alloc (Nat.le_refl _) (.map #[] 0)
  exact this.grown hg1 (by simp) (fun j hj=>by cases hj;exact Nat.le_refl _)
 obtain ⟨Bm,hBm⟩:∃ Bm,Bm=w.heap.size:=⟨_,rfl⟩
 rw [<-hBm] at hf1 ⊢
 have hltB:=hf1.lt
 have hBle:w.heap.size<=Bm:=by omega
 clear hg1 hmm hBm
 have hsz1:=hb1.size
 have hS:PlanW w ((w1.alloc (.cells #[.map (some Bm)] 71)).alloc (.cells #[.int .i64 b] 3)) Bm w1.heap.size (.slice (some ⟨w1.heap.size+1,0,none⟩) 1 1) (put1 (fun _=>none) b 0) [(b,0)] 0:=by
  refine ⟨?_,?_,?_,(hf1.alloc _).alloc _,?_,(hb1.alloc (by omega) _).alloc (by simp;omega) _,fun z hz=>?_,by omega,hBle,by omega,by simp⟩
  ·have:=OwnQ.one (w1.alloc (.cells #[.map (some Bm)] 71)) w.heap.size 3 (.int .i64 b) (by simp;omega)
   simpa using this
  ·simp [Value.ownBlock];omega
  ·simp [Value.ownBlock]
  ·rw [World.cell?_alloc_lt _ _ _ (by simp)]
   have:=World.cell?_alloc_mark w1 #[.map (some Bm)] 71 (0,0) 0
   exact this
  ·simp at hz;subst hz;exact HB.out
 go_wp2
 obtain ⟨A,hAA⟩:∃ A,A=w1.heap.size:=⟨_,rfl⟩
 rw [<-hAA] at hS ⊢
 clear hAA hf1 hb1 hltB hBle hsz1
 go_loopg [9] (N+1) (fun g v wr=>∃ f q p,g=(N - p)+q.length/\PlanW w wr Bm A v f q p/\Hid (Bfs L b f q p 0))
 case atStart=>exact ⟨_,_,_,by simp,hS,bfs_start L b⟩
 case round =>
  obtain ⟨f,q,p,hg,hW,hB⟩:=hrel
  clear hS
  have hp:p<=N:=by have:=hB.out.i9;have:=HN.out;omega
  cases q with
  | nil =>
    obtain ⟨gq,oq,cq,e,-⟩:=hW.own
    simp only [List.map_nil,List.length_nil] at e
    subst e
    have hD:=bfs_end hB.out
    have hbnd:∀ x d,f x=some d->d<=1000:=fun x d h=>by have:=hD.d4 x d h;have:=HN.out;omega
    have hmap:=hW.map
    have hcA:=hW.cA
    have hbel:=hW.below
    have hsz:=hbel.size
    have leA:=hW.leA
    have leB:=hW.leB
    have hne:=hW.ne
    have hltA:A<wr.heap.size:=World.block_lt_of_cell? wr _ hcA
    have hltBr:=hmap.lt
    clear hW hB hg
    have hlk:=hmap.look_ok a HA.out
    cases hfa:f a with
    | none =>
      rw [hfa] at hlk
      simp only [Option.isSome_none,Option.getD_none] at hlk
      have HD:=hid (show Dist L b f/\f a=none from ⟨hD,hfa⟩)
      clear hD hfa hbnd hmap
      go_wp2
      go_ret2
      exact ⟨f,HD.out.1,hbel,.inl ⟨HD.out.2,rfl⟩⟩
    | some d0 =>
      rw [hfa] at hlk
      simp only [Option.isSome_some,Option.getD_some] at hlk
      have HD:=hid (show Dist L b f/\f a=some d0 from ⟨hD,hfa⟩)
      have HBND:=hid hbnd
      have HMAP:=hid hmap
      clear hD hfa hbnd
      have hS:WayW w (wr.alloc (.cells #[.int .i64 a] 3)) Bm A wr.heap.size (.slice none 0 0) f p [] a:=by
       refine ⟨World.ownsRow_nil _ _ _ _,by simp [Value.ownBlock],by simp [Value.ownBlock],by simp [Value.ownBlock],hmap.alloc _,?_,?_,World.frozen?_alloc_new _ _ _ _,hbel.alloc (by omega) _,by omega,by omega,by omega,HA.out⟩
       ·rw [World.cell?_alloc_lt _ _ _ (by simpa using hltA)];exact hcA
       ·have:=World.cell?_alloc_mark wr #[.int .i64 a] 3 (0,0) 0
        exact this
      clear hmap
      go_wp2
      go_loopg [16,17] d0 (fun g out ptr wx=>∃ o cur at_,ptr=.pointer (some ⟨at_,0,none⟩)/\f cur=some g/\WayW w wx Bm A at_ out f p o cur/\Hid (Way L f o a cur))
      case atStart=>exact ⟨[],a,wr.heap.size,rfl,HD.out.2,hS,rfl⟩
      case round =>
       obtain ⟨o,cur,at_,rfl,hfc,hX,hY⟩:=hrel
       clear hS hlk hbel
       obtain ⟨wx,hwx⟩:∃ wx,wx=wr:=⟨_,rfl⟩
       have hcC:=hX.cC
       by_cases hcb:cur=b
       ·subst hcb
        have hwl:=hY.out.len 0 HD.out.1.d1
        obtain ⟨ad',cap',he,hrd,hfr⟩:=Gx.Rd.own' (k:=.i64) (xs:=o.map Int.ofNat) (by rw [List.map_map];exact hX.own) (fun x hx=>by obtain ⟨j,hj,rfl⟩:=List.mem_map.1 hx;have:=hY.out.lt j hj;have:=HN.out;simp [Lit.wf,IntKind.min,IntKind.max,IntKind.signed,IntKind.bits];omega)
        have HR:=hid hrd
        have HFR:=hid hfr
        have hbx:=hX.below
        subst he
        clear hrd hfr hX
        go_wp2
        go_ret2
        exact ⟨f,HD.out.1,hbx,.inr ⟨o,ad',cap',hY.out,by simp,HR.out,HFR.out⟩⟩
       ·obtain ⟨i0,hi0,hn0⟩:=HD.out.1.goes hfc hcb
        obtain ⟨i,⟨hiL,hni⟩,hleast⟩:=exists_least (p:=fun i=>i<L.length/\nearer L f cur i) ⟨i0,hi0,hn0⟩
        have hni2:=hni
        obtain ⟨y,e,hLi,hfy,hfc2⟩:=hni
        have hge:gk=e+1:=by rw [hfc] at hfc2;exact Option.some.inj hfc2
        subst hge
        have hcall:=indexFunc_any ad cap L Bm A at_ f (p+1) cur i wr (H.out.keep (hX.below)) (by have:=HN.out;omega) hX.map hX.wfc HBND.out hX.cA hcC hiL ((goes_nearer hfc hiL).2 hni2)
         (fun j hj=>by
           cases hg:goes f cur (L[j]'(by omega)) with
           | false=>rfl
           | true=>have:=hleast j ⟨by omega,(goes_nearer hfc (by omega)).1 hg⟩;omega)
        rw [<-HN.out] at hcall
        have HCALL:=hid hcall
        have hiN:i<N:=by have:=HN.out;omega
        have hY2:Way L f (o++[i]) a y:=hY.out.snoc hLi hni2 (fun j hj hnj=>by have:=hleast j ⟨by omega,hnj⟩;omega)
        have HY2:=hid hY2
        have HLI:=hid hLi
        have HFY:=hid hfy
        have hwy:=(H.out.wf (cur,y) (List.mem_of_getElem? hLi)).2
        have HWY:=hid hwy
        clear hcall hi0 hn0 hleast hni2 hLi hfy hfc2 hwy hY2 hiL
        have hol:o.length<=100:=by
         have h1:=hY.out.len _ hfc
         have h2:=HD.out.1.d4 _ _ h1
         have:=HN.out
         omega
        have hcbb:(cur != b)=true:=by simpa using hcb
        go_wp2_with fail
        refine HCALL.out.mono ?_
        rintro e2 w2 ⟨rfl,hb2⟩
        have hown:=hX.own
        have hown2:=Gx.own_keep hown hb2
        have hbs:=hb2.size
        have hbx:=hX.below.size
        go_wp2_with (first
         | (at_builtin;refine Gx.wpList_push w2 rfl _ _ 46 rfl w.heap.size 3 (.int .i64 0) 1 8 Tryz.underlying46 info_int rfl (by decide) _ _ _ [.int .i64 (i:Int)] _ rfl rfl (by exact hown2) rfl rfl ?a2 ?a3 ?a4 ?a5 ?_))
        case a2=>intro u hu;simp at hu;subst hu;rfl
        case a3=>omega
        case a4=>omega
        case a5=>omega
        intro v' w3 hown3 hg3 hm3 _
        have hstep:=way_step hX hb2 hown3 hg3 hm3 HWY.out
        have hltC:at_<wr.heap.size:=World.block_lt_of_cell? wr _ hcC
        have hgr:=grownBy_of_below hb2
        have h3s:=hg3.size
        have cC3:w3.cell? ⟨at_,0,none⟩=some (.int .i64 cur):=by
         rw [hg3.cell_far _ (by show at_<_;omega) (by intro e;exact hX.neC e.symm),hgr.cell_far _ hltC (by simp)]
         exact hcC
        have fC3:w3.frozen? ⟨at_,0,none⟩=false:=by
         rw [hg3.frozen_far _ (by show at_<_;omega) (by intro e;exact hX.neC e.symm),hgr.frozen_far _ hltC (by simp)]
         exact hX.fC
        have hb3:Below w.heap.size w w3:=(hX.below.trans (hb2.mono hbx)).grown hg3 (by omega) (fun k e=>(hown.lt k e).1)
        obtain ⟨lb,lo,rfl,-,hcells⟩:=(H.out.keep hb3).addr (by have:=HN.out;omega)
        obtain ⟨-,c1,-⟩:=hcells i (cur,y) HLI.out
        simp only at c1
        clear hcells hown hown2 hown3 hg3 hm3 hb2 hX hY hgr hcC hb3
        have hi1:(0:Int)<=(i:Int):=by omega
        have hi2:(i:Int)<(N:Int):=by omega
        go_wp2
        go_roundg e
        case measure=>omega
        case rel=>exact ⟨o++[i],y,w3.heap.size,rfl,HFY.out,hstep,HY2.out⟩
  | cons h r =>
    have hW0:=hW
    obtain ⟨gq,oq,cq,e,-,-,hq1,hq2,-,-⟩:=hW.own
    simp only [List.length_map,List.length_cons] at e hq1
    subst e
    obtain ⟨wo,hwo⟩:∃ wo,wo=wr:=⟨_,rfl⟩
    rw [<-hwo] at hW hW0 ⊢
    clear hwo
    have hrl:(0:Int)<((r.length+1:Nat):Int):=by omega
    have HM:Hid (gk=N - p+(r.length+1)):=hg
    clear hg
    go_wp2
    go_loopg [9,34] N (fun g v i wx=>∃ f' r' p' k,k<=N/\g=N - k/\i=.int .i64 k/\Hid ((N - p')+r'.length=(N - p)+r.length)/\PlanW w wx Bm A v f' (h::r') p'/\Hid (Bfs L b f' (h::r') p' k))
    case atStart=>exact ⟨f,r,p,0,Nat.zero_le _,rfl,rfl,rfl,hW0,hB⟩
    case round =>
     clear hW0 hW hB hrl hq1 hq2 hp
     obtain ⟨f',r',p',k,hk,hgk,rfl,hms,hW,hB⟩:=hrel
     have hW0:=hW
     obtain ⟨gv,ov,cv,e,hv0,hv1,hv2,hv3,hv4,hv5⟩:=hW.own
     simp only [List.length_map,List.length_cons] at e hv2
     subst e
     have n0:=hv5 0 (.int .i64 h.1) rfl
     simp only [Nat.add_zero] at n0
     clear hv4 hv5
     by_cases hkN:k<N
     ·have hkL:k<L.length:=by have:=HN.out;omega
      obtain ⟨lb,lo,rfl,hlb,hcells⟩:=(H.out.keep hW.below).addr (by omega)
      obtain ⟨c0,c1,m1,m2,m3,c2⟩:=hcells k L[k] (List.getElem?_eq_getElem hkL)
      have hwf:=H.out.wf L[k] (List.getElem_mem hkL)
      have hLk:L[k]?=some ((L[k]).1,(L[k]).2):=List.getElem?_eq_getElem hkL
      obtain ⟨x,hx⟩:∃ x,x=(L[k]).1:=⟨_,rfl⟩
      obtain ⟨y,hy⟩:∃ y,y=(L[k]).2:=⟨_,rfl⟩
      rw [<-hx,<-hy] at hwf hLk
      rw [<-hx] at c0
      rw [<-hy] at c1
      clear hcells hx hy hkL
      have HLK:=hid hLk
      clear hLk
      obtain ⟨h1,h2⟩:=h
      simp only at n0
      have hi1:(0:Int)<=(k:Int):=by omega
      have hi2:(k:Int)<(N:Int):=by omega
      have hltA:A<wr.heap.size:=World.block_lt_of_cell? wr _ hW.cA
      have hcA:(wr.alloc (.cells #[.int .i64 x,.int .i64 y,.slice m1 m2 m3] 51)).cell? ⟨A,0,none⟩=some (.map (some Bm)):=by
       rw [World.cell?_alloc_lt _ _ _ hltA];exact hW.cA
      have n1:(wr.alloc (.cells #[.int .i64 x,.int .i64 y,.slice m1 m2 m3] 51)).cell? ⟨gv,ov,none⟩=some (.int .i64 h1):=by
       rw [World.cell?_alloc_lt _ _ _ hv1];exact n0
      have hlk:=(hW.map.alloc (.cells #[.int .i64 x,.int .i64 y,.slice m1 m2 m3] 51)).look_ok x hwf.1
      by_cases hyh:y=h1
      ·subst hyh
       have hyb:(y==y)=true:=by simp
       cases hfx:f' x with
       | some d =>
         rw [hfx] at hlk
         simp only [Option.isSome_some,Option.getD_some] at hlk
         have HFX:=hid hfx
         clear n0 hfx
         go_wp2
         go_quiet (fail)
         go_wp2
         have hst:=hW.kept (grown_alloc_drew wr (.cells #[.int .i64 x,.int .i64 y,.slice m1 m2 m3] 51) nq)
         go_roundg (N - (k+1))
         case measure=>omega
         case rel=>exact ⟨f',r',p',k+1,by omega,rfl,by go_num,hms,hst,bfs_skip hB.out HLK.out (.inr ⟨d,HFX.out⟩)⟩
       | none =>
         rw [hfx] at hlk
         simp only [Option.isSome_none,Option.getD_none] at hlk
         have HFX:=hid hfx
         clear n0 hfx
         go_wp2
         go_quiet (fail)
         obtain ⟨wz,hwz⟩:∃ wz,wz=(wr.alloc (.cells #[.int .i64 x,.int .i64 y,.slice m1 m2 m3] 51)).drewN nq:=⟨_,rfl⟩
         have hgz:=grown_alloc_drew wr (.cells #[.int .i64 x,.int .i64 y,.slice m1 m2 m3] 51) nq
         have x0:wz.cell? ⟨wr.heap.size,0,none⟩=some (.int .i64 x):=by
          rw [hwz,World.cell?_drewN]
          have:=World.cell?_alloc_mark wr #[.int .i64 x,.int .i64 y,.slice m1 m2 m3] 51 (0,0) 0
          exact this
         have x1:wz.cell? ⟨wr.heap.size,1,none⟩=some (.int .i64 y):=by
          rw [hwz,World.cell?_drewN]
          have:=World.cell?_alloc_mark wr #[.int .i64 x,.int .i64 y,.slice m1 m2 m3] 51 (0,0) 1
          exact this
         have cAz:wz.cell? ⟨A,0,none⟩=some (.map (some Bm)):=by rw [hwz,World.cell?_drewN];exact hcA
         rw [<-hwz] at hgz
         rw [<-hwz]
         have hzs:=hgz.size
         have hzl:wr.heap.size<wz.heap.size:=World.block_lt_of_cell? wz _ x0
         clear hwz n1 hlk hcA
         have hmz:=hW.map.kept hgz (by simp)
         have hfy:f' y=some h2:=hB.out.i3 (y,h2) (by simp)
         have hh2:h2<=100:=by have:=hB.out.i8 _ _ hfy;have:=hB.out.i9;have:=HN.out;omega
         have hp1:p'<=100:=by have:=hB.out.i9;have:=HN.out;omega
         have hp2:p'+1<=N:=by have:=(bfs_push hB.out HLK.out HFX.out).i9;have:=HN.out;omega
         have hlen:(r'.length+1)<=201:=by have:=hW.len;simp at this;omega
         have hlz:=hmz.look y hwf.2
         rw [hfy] at hlz
         simp only [Option.getD_some] at hlz
         clear hfy
         have hltB:=hW.map.lt
         go_wp2_with (first|(refine wpList_far_put _ rfl _ _ _ (.inl rfl) Bm (p'+1) f' rfl hmz (by unfold maxLen;omega) x (h2+1) rfl (by go_num) hwf.1 (by omega) ?_))
         intro w3 hf3 hg3
         have x03:w3.cell? ⟨wr.heap.size,0,none⟩=some (.int .i64 x):=by
          rw [hg3.cell_far _ (by show wr.heap.size<_;omega) (by intro e;have e2:wr.heap.size=Bm:=Option.some.inj e;omega)];exact x0
         have hown3:=(hW.own.kept hgz (by simp [Value.ownBlock])).kept hg3 hW.neB
         have h3s:=hg3.size
         have hbs:=hW.below.size
         clear x0 x1 cAz hlz hmz
         go_wp2_with (first
          | (at_builtin;refine Gx.wpList_push_q w3 rfl _ _ 46 rfl w.heap.size 3 (.int .i64 0) 8 Tryz.underlying46 info_int rfl _ _ (.int .i64 x) _ rfl rfl (by exact hown3) rfl rfl ?q1 ?q2 ?q3 ?_))
         case q1=>simp only [List.length_map,List.length_cons];omega
         case q2=>simp only [List.length_map,List.length_cons];unfold maxLen;omega
         case q3=>omega
         intro v' w4 hown4 hg4 hm4 ao ac hv'
         clear hv'
         have hst:=plan_push (d:=h2+1) hW hgz hg3 hf3 hown4 hg4 hm4 hwf.1
         have hbf:=bfs_push hB.out HLK.out HFX.out
         have HBF:=hid hbf
         clear hbf hown4 hown3 hg4 hm4 hg3 hgz hW
         go_wp2
         go_roundg (N - (k+1))
         case measure=>omega
         case rel=>exact ⟨put1 f' x (h2+1),r'++[(x,h2+1)],p'+1,k+1,by omega,rfl,by go_num,by have:=hms.out;simp [Hid];omega,hst,HBF⟩
      ·have hyb:(y==h1)=false:=by simpa using hyh
       clear n0
       go_wp2
       go_quiet (fail)
       go_wp2
       have hst:=hW.kept (grown_alloc_drew wr (.cells #[.int .i64 x,.int .i64 y,.slice m1 m2 m3] 51) nq)
       go_roundg (N - (k+1))
       case measure=>omega
       case rel=>exact ⟨f',r',p',k+1,by omega,rfl,by go_num,hms,hst,bfs_skip hB.out HLK.out (.inl hyh)⟩
     ·obtain rfl:k=N:=by omega
      have hN:k=L.length:=HN.out
      have hB2:Bfs L b f' r' p' 0:=by have:=hB.out;rw [hN] at this;exact bfs_pop this
      have HB2:=hid hB2
      have h1:=hW.pop
      by_cases hc1:cv=1
      ·subst hc1
       have h2:=hW.pop0
       have hr0:r'=[]:=List.eq_nil_of_length_eq_zero (by omega)
       subst hr0
       clear hB2 hB h1 hW n0
       go_wp2
       go_roundg (k - p')
       case measure=>have:=HM.out;have h4:=hms.out;simp only [List.length_nil] at h4;omega
       case rel=>exact ⟨f',[],p',by simp,h2,HB2⟩
      ·clear hB2 hB hW n0
       have hcv:1<cv:=by omega
       go_wp2
       go_roundg ((k - p')+r'.length)
       case measure=>have:=HM.out;have:=hms.out;omega
       case rel=>exact ⟨f',r',p',rfl,h1,HB2⟩
def PlanLen (L:Links) (a b:Int) (n:Nat) (er:Int):Prop :=
 ∃ f,Dist L b f/\((f a=none/\er=8/\n=0)\/(f a=some n/\er=0/\∃ o,o.length=n/\Leads L o a b))
theorem planLen_any (ad:Option Addr) (cap:Nat) (L:Links) (a b:Int) (w:World) (hL:Lk w ad cap L) (hl:L.length<=100) (ha:(Lit.int .i64 a).wf=true) (hb:(Lit.int .i64 b).wf=true) :
 Calls Tryz.prog 9 #[.slice ad L.length cap,.int .i64 a,.int .i64 b] w fun e w' =>
  ∃ ad' n cap' er,e=.returned (.tuple #[.slice ad' n cap',.int .i64 er])/\Hid (PlanLen L a b n er/\n<=100)/\Below w.heap.size w w':=by
 refine (plan_any ad cap L a b w hL hl ha hb).mono ?_
 rintro e w' ⟨f,hD,hb,⟨hn,rfl⟩|⟨o,ad',cap',hw,rfl,hr⟩⟩
 ·exact ⟨none,0,0,8,rfl,⟨⟨f,hD,.inl ⟨hn,rfl,rfl⟩⟩,by omega⟩,hb⟩
 ·have h1:=hw.len 0 hD.d1
  rw [Nat.zero_add] at h1
  have:=hD.d4 _ _ h1
  exact ⟨ad',o.length,cap',0,rfl,⟨⟨f,hD,.inr ⟨h1,rfl,o,rfl,hw.leads⟩⟩,by omega⟩,hb⟩
theorem lk_one (w:World):Lk (w.alloc (.cells #[.int .i64 1,.int .i64 2,.slice none 0 0] 51)) (some ⟨w.heap.size,0,none⟩) 1 [(1,2)]:=by
 refine ⟨Nat.le_refl _,by decide,fun p hp=>?_,(fun h=>by cases h),fun a ha hp=>?_⟩
 ·simp at hp;subst hp;decide
 ·cases ha
  refine ⟨rfl,by simp,fun j p hj=>?_⟩
  cases j with
  | zero =>
    simp at hj
    subst hj
    have h0:=World.cell?_alloc_mark w #[.int .i64 1,.int .i64 2,.slice none 0 0] 51 (0,0) 0
    have h1:=World.cell?_alloc_mark w #[.int .i64 1,.int .i64 2,.slice none 0 0] 51 (0,0) 1
    have h2:=World.cell?_alloc_mark w #[.int .i64 1,.int .i64 2,.slice none 0 0] 51 (0,0) 2
    exact ⟨h0,h1,none,0,0,h2⟩
  | succ j=>simp at hj
theorem chains_any (w:World):Calls Tryz.prog 4 #[] w (TruePost w):=by
 have hcall:=planLen_any (some ⟨w.heap.size,0,none⟩) 1 [(1,2)] 1 2 _ (lk_one w) (by decide) (by decide) (by decide)
 have HC:=hid hcall
 clear hcall
 go_enter Tryz.func4,Tryz.ntmps4
 go_wp2_with fail
 refine HC.out.mono ?_
 rintro e w2 ⟨ad',n,cap',er,rfl,hP,hb⟩
 have h1:er=0/\n=1:=by
  obtain ⟨⟨f,D,hc⟩,-⟩:=hP.out
  obtain ⟨d,hd,hle⟩:=D.least [0] 1 ⟨(1,2),rfl,rfl,rfl⟩
  simp at hle
  rcases hc with ⟨h,-⟩|⟨h,h2,-⟩
  ·rw [hd] at h;cases h
  ·have hdn:d=n:=by rw [hd] at h;exact Option.some.inj h
   refine ⟨h2,?_⟩
   have h0:n≠0:=by
    intro h0
    subst h0
    have:=D.zero h
    omega
   omega
 obtain ⟨rfl,rfl⟩:=h1
 have hb2:Below w.heap.size w w2:=((Below.refl w.heap.size w).alloc (Nat.le_refl _) _).trans (hb.mono (by simp))
 clear hP hb
 go_wp2
 go_ret
 exact ⟨rfl,hb2⟩
theorem eqT_zero (v:Value) (w:World):Calls Tryz.prog 15 #[.slice none 0 0,.slice none 0 0,v] w (fun e w'=>e=.returned (.bool true)/\w=w'):=by
 go_enter Tryz.func15,Tryz.ntmps15
 go_wp2_with fail
 go_loopw [17] (fun v17 wr=>v17=.int .i64 0/\wr=w) (fun _ _=>0)
 case atStart=>exact ⟨rfl,rfl⟩
 case round =>
  obtain ⟨rfl,rfl⟩:=hrel
  go_wp2_with fail
  try go_ret
  exact ⟨rfl,rfl⟩
theorem eqF_zero (v:Value) (w:World):Calls Tryz.prog 16 #[.slice none 0 0,.slice none 0 0,v] w (fun e w'=>e=.returned (.bool true)/\w=w'):=by
 go_enter Tryz.func16,Tryz.ntmps16
 go_wp2_with fail
 go_loopw [17] (fun v17 wr=>v17=.int .i64 0/\wr=w) (fun _ _=>0)
 case atStart=>exact ⟨rfl,rfl⟩
 case round =>
  obtain ⟨rfl,rfl⟩:=hrel
  go_wp2_with fail
  try go_ret
  exact ⟨rfl,rfl⟩
theorem same_zero (w:World):Calls Tryz.prog 7 #[zeroTy,zeroTy] w (BoolB true w):=by
 unfold zeroTy
 have hb:=((Below.refl w.heap.size w).alloc (Nat.le_refl _) (.cells #[.int .i64 0,.int .i64 0,.int .i64 0,.slice none 0 0,.slice none 0 0,.slice none 0 0,.string ⟨#[]⟩] 27)).alloc (by simp) (.cells #[.int .i64 0,.int .i64 0,.int .i64 0,.slice none 0 0,.slice none 0 0,.slice none 0 0,.string ⟨#[]⟩] 27)
 have hc:((w.alloc (.cells #[.int .i64 0,.int .i64 0,.int .i64 0,.slice none 0 0,.slice none 0 0,.slice none 0 0,.string ⟨#[]⟩] 27)).alloc (.cells #[.int .i64 0,.int .i64 0,.int .i64 0,.slice none 0 0,.slice none 0 0,.slice none 0 0,.string ⟨#[]⟩] 27)).heap[w.heap.size]?=_:=(Below.heap_alloc _ _ _ (by simp)).trans (heap_alloc_new w (.cells #[.int .i64 0,.int .i64 0,.int .i64 0,.slice none 0 0,.slice none 0 0,.slice none 0 0,.string ⟨#[]⟩] 27))
 have hv:=heap_alloc_new (w.alloc (.cells #[.int .i64 0,.int .i64 0,.int .i64 0,.slice none 0 0,.slice none 0 0,.slice none 0 0,.string ⟨#[]⟩] 27)) (.cells #[.int .i64 0,.int .i64 0,.int .i64 0,.slice none 0 0,.slice none 0 0,.slice none 0 0,.string ⟨#[]⟩] 27)
 rw [World.size_alloc] at hv
 have HB:=hid hb
 have HE1:=hid (fun w=>Tryz.slices_Equal_string_empty none none 0 0 0 w (by decide))
 have HE2:=hid eqT_zero
 have HE3:=hid eqF_zero
 clear hb
 go_enter Tryz.func7,Tryz.ntmps7
 go_upto_region 1 with fail
 generalize World.alloc (World.alloc w _) _=w1 at hc hv HB ⊢
 generalize hS:w.heap.size=S at hc hv ⊢
 obtain ⟨c0,c1,c2,c3,c4,c5,c6,-⟩:=ty_cells hc
 obtain ⟨d0,d1,d2,d3,d4,d5,d6,-⟩:=ty_cells hv
 clear hc hv hS
 go_wp2_with fail
 (with_reducible refine (HE1.out _).mono ?_)
 rintro e w2 ⟨rfl,rfl⟩
 go_wp2_with fail
 (with_reducible refine (HE2.out _ _).mono ?_)
 rintro e w3 ⟨rfl,rfl⟩
 go_wp2_with fail
 (with_reducible refine (HE3.out _ _).mono ?_)
 rintro e w4 ⟨rfl,rfl⟩
 go_wp2_with fail
 try go_ret
 exact ⟨rfl,HB.out⟩
end Go.Proofs.YtgnonbdkmmkdgaaGreatDoor
