/-
  Lemmas for the statement: plain laws, and what functions answer; the conditions stand in each.
-/
import Derived.RangeFuncNested
import Derived.RangeFuncBound
import Derived.RangeFuncCalls
import Derived.RangeFuncLeaves
import Derived.Shelf.Abstract
import Derived.Shelf.RegionOpen
import Derived.WalkKit
import Derived.OwnWalkIn
import Derived.TacticsInMore
import Derived.LoopNIn
import Derived.LoopIn
import Derived.Outline
import Derived.Test.YtldhmfkojaekfaaGreatDoorProg
import Derived.WalkLawsBesides
import Derived.Deep.DeepFit
import Derived.Defers
import Derived.Recover
import Derived.Test.YtldhmfkojaekfaaGreatDoorMeanTwiceAllPartQ
set_option linter.unusedVariables false
set_option linter.unusedSimpArgs false
namespace Go.Proofs.YtldhmfkojaekfaaGreatDoor
open Go.RowKit Go.Shelf Gx
attribute [local go_sem] Oper.semAt_some
set_option maxRecDepth 100000
def Bw (n₀ M:Nat) (b:Nat):Prop:=b<n₀/\b≠M
structure KeM (n₀ M:Nat) (W W':World):Prop where
 size:W.heap.size<=W'.heap.size
 block:∀ k,Bw n₀ M k->k<W.heap.size->W'.heap[k]?=W.heap[k]?
theorem KeM.refl (n₀ M:Nat) (W:World):KeM n₀ M W W:=⟨Nat.le_refl _,fun _ _ _=>rfl⟩
theorem KeM.trans {n₀ M:Nat} {A B C:World} (h:KeM n₀ M A B) (k:KeM n₀ M B C):KeM n₀ M A C :=
 ⟨Nat.le_trans h.size k.size,fun i hi hl=>(k.block i hi (Nat.lt_of_lt_of_le hl h.size)).trans (h.block i hi hl)⟩
theorem KeM.grow {n₀ M:Nat} {A B:World} {row:Option Nat} (hg:A.grownBy B row) (hr:∀ k,row=some k->¬ Bw n₀ M k):KeM n₀ M A B :=
 ⟨hg.size,fun i hi hl=>hg.block i hl (fun e=>hr i e.symm hi)⟩
theorem KeM.alloc (n₀ M:Nat) (A:World) (o:Obj):KeM n₀ M A (A.alloc o):=⟨by simp,fun _ _ hl=>Below.heap_alloc A o _ hl⟩
theorem KeM.put {n₀ M:Nat} {w:World} (hn:n₀<=w.heap.size) (W:World) (l:Nat) (o o':Obj) (hl:w.heap.size<=l) (h:W.heap[l]?=some o) (_:o.isCells=false) (_:o.isWalk=false):KeM n₀ M W (W.putObj l o') :=
 .grow (grownBy_putObj' W l o') (fun k e hb=>by cases e;have:=hb.1;omega)
theorem KeM.cell {n₀ M:Nat} {A B:World} (h:KeM n₀ M A B) {b o:Nat} (hb:Bw n₀ M b) (hl:b<A.heap.size):B.cell? ⟨b,o,none⟩=A.cell? ⟨b,o,none⟩:=World.cell?_of_block (h.block b hb hl)
abbrev LocAt (w:World) (n₀ M:Nat):={ x:Loc // VAt w (Bw n₀ M) x }
def V.parts (v:V):List V:=v.l++v.e.map Prod.snd
def LsAt (w:World) (n₀ M:Nat) (q:Loc) (ls:List (LocAt w n₀ M)):Prop:=ls.map (·.1.v)=q.v.l /\
 ∀ i x,ls[i]?=some x->∃ b off,q.ad=some ⟨b,off,none⟩/\Bw n₀ M b/\b<w.heap.size/\CellsAt w b (off+i * 6) x.1
def EsAt (w:World) (n₀ M:Nat) (q:Loc) (es:List (LocAt w n₀ M)):Prop:=es.map (·.1.v)=q.v.e.map Prod.snd /\
 ∀ i x,es[i]?=some x->∃ b off key,q.bd=some ⟨b,off,none⟩/\Bw n₀ M b/\b<w.heap.size/\w.cell? ⟨b,off+i * 7,none⟩=some (.string key)/\CellsAt w b (off+i * 7+1) x.1
theorem locs_of {w:World} {n₀ M:Nat} {q:Loc} (h:VAt w (Bw n₀ M) q):∃ ls es,LsAt w n₀ M q ls/\EsAt w n₀ M q es:=by
 have key:∀ {α:Type} (l:List α) (p:α->V) (Q:Nat->LocAt w n₀ M->Prop),(∀ i x,l[i]?=some x->∃ y:LocAt w n₀ M,y.1.v=p x/\Q i y)->∃ ys:List (LocAt w n₀ M),ys.map (·.1.v)=l.map p/\∀ i y,ys[i]?=some y->Q i y:=by
  intro α l p Q hq
  induction l generalizing Q with
  | nil=>exact ⟨[],rfl,fun i y h=>by simp at h⟩
  | cons a l ih =>
    obtain ⟨y,hy,hQ⟩:=hq 0 a rfl
    obtain ⟨ys,h1,h2⟩:=ih (fun i y=>Q (i+1) y) (fun i x h=>hq (i+1) x (by simpa using h))
    refine ⟨y::ys,by simp [hy,h1],fun i z hz=>?_⟩
    cases i with
    | zero=>simp at hz;subst hz;exact hQ
    | succ i=>exact h2 i z (by simpa using hz)
 obtain ⟨ls,hl1,hl2⟩:=key q.v.l id (fun i x=>∃ b off,q.ad=some ⟨b,off,none⟩/\Bw n₀ M b/\b<w.heap.size/\CellsAt w b (off+i * 6) x.1) (fun i x hi=>by
  obtain ⟨b,off,e1,e2,e3,e4⟩:=RowAt.elem h.l (by have:=(List.getElem?_eq_some_iff.1 hi).1;omega)
  obtain ⟨p,rfl,hv,c⟩:=e4 i x hi
  exact ⟨⟨p,hv⟩,rfl,b,off,e1,e2,e3,c⟩)
 obtain ⟨es,he1,he2⟩:=key q.v.e Prod.snd (fun i x=>∃ b off key,q.bd=some ⟨b,off,none⟩/\Bw n₀ M b/\b<w.heap.size/\w.cell? ⟨b,off+i * 7,none⟩=some (.string key)/\CellsAt w b (off+i * 7+1) x.1) (fun i x hi=>by
  obtain ⟨b,off,e1,e2,e3,e4⟩:=RowAt.entry h.e (by have:=(List.getElem?_eq_some_iff.1 hi).1;omega)
  obtain ⟨_,ck,p,hp,hv,c⟩:=e4 i x hi
  exact ⟨⟨p,hv⟩,hp,b,off,x.1,e1,e2,e3,ck,c⟩)
 exact ⟨ls,es,⟨by simpa using hl1,hl2⟩,he1,he2⟩
theorem LsAt.len {w:World} {n₀ M:Nat} {q:Loc} {ls:List (LocAt w n₀ M)} (h:LsAt w n₀ M q ls):ls.length=q.v.l.length:=by have:=congrArg List.length h.1;simpa using this
theorem EsAt.len {w:World} {n₀ M:Nat} {q:Loc} {es:List (LocAt w n₀ M)} (h:EsAt w n₀ M q es):es.length=q.v.e.length:=by have:=congrArg List.length h.1;simpa using this
def PartsPost (q:Loc) (w:World) (e:Ending) (w':World):Prop :=
 e=.returned (.func (.func 55) #[] #[.pointer (some ⟨w.heap.size,0,none⟩)])/\w'=w.alloc (.cells #[.int .i64 q.v.k,.int .i64 q.v.n,.int .u64 q.v.f,.string q.v.s,.slice q.ad q.v.l.length q.cap,.slice q.bd q.v.e.length q.dap] 26)
set_option maxHeartbeats 1000000 in
theorem parts_any (q:Loc) (w:World):Calls Tryz.prog 29 #[q.val] w (PartsPost q w):=by
 unfold Loc.val
 go_enter Tryz.func29,Tryz.ntmps29
 go_wp2_with fail
 try go_ret
 exact ⟨rfl,rfl⟩
end Go.Proofs.YtldhmfkojaekfaaGreatDoor
namespace Go.Proofs.YtldhmfkojaekfaaGreatDoor
open Go.RowKit Gx
set_option maxRecDepth 100000
def nanBad (f:Int):Bool:=(bits .and .u64 (f / 4503599627370496) 2047==2047) && (bits .and .u64 f 4503599627370495 != 0) && (f != 9221120237041090561)
def kindBad (k n f:Int) (s:ByteArray) (nl ne:Nat):Bool :=
 decide (k<0) || decide (6<k) || (!(k==1 || k==2) && n != 0) || (k==1 && n != 0 && n != 1) || (k != 3 && f != 0) || nanBad f ||
  (k != 4 && !s.toList.isEmpty) || (k != 5 && decide (0<nl)) || (k != 6 && decide (0<ne))
open Classical in
noncomputable def ownE (k n f:Int) (s:ByteArray) (nl ne:Nat):Nat :=
 if kindBad k n f s nl ne then 10 else if 4000<s.size\/200<nl\/200<ne then 2 else if okText s.data.toList then 0 else 3
def OwnPost (r:Nat) (w:World) (e:Ending) (w':World):Prop:=e=.returned (.int .i64 r)/\Below w.heap.size w w'
theorem nan0:nanBad 0=false:=by decide
theorem nan_of {f E F:Int} (hE:bits .and .u64 (f / 4503599627370496) 2047=E) (hF:bits .and .u64 f 4503599627370495=F):nanBad f=((E==2047) && (F != 0) && (f != 9221120237041090561)):=by unfold nanBad;rw [hE,hF]
theorem empty_of {s:ByteArray} (h:s.toList.isEmpty=true):s=⟨#[]⟩:=by
 have h1:s.toList=[]:=by simpa using h
 have h2:s.data.toList=[]:=by rw [<-h1];exact (ByteArray.toList_eq s).symm
 obtain ⟨a⟩:=s
 have:a=#[]:=by simpa using h2
 rw [this]
theorem empty_size:(ByteArray.mk #[]).size=0:=rfl
theorem empty_bad:(ByteArray.mk #[]).toList.isEmpty=true:=by rw [ByteArray.toList_eq];rfl
end Go.Proofs.YtldhmfkojaekfaaGreatDoor
namespace Go.Proofs.YtldhmfkojaekfaaGreatDoor
open Go.RowKit Gx
noncomputable def ownV (v:V):Nat:=ownE v.k v.n v.f v.s v.l.length v.e.length
def keyBad (prev:Option ByteArray) (x:ByteArray):Bool:=match prev with|none=>false|some p=>!(Op.bytesLess p.toList x.toList)
open Classical in
noncomputable def keyE (prev:Option ByteArray):List (ByteArray×V)->Nat
 | []=>0
 | x::xs=>if 100<x.1.size then 2 else if ¬ okText x.1.data.toList then 3 else if keyBad prev x.1=true then 14 else keyE (some x.1) xs
def chkAll (f:V->Nat->Nat×Nat):List V->Nat->Nat×Nat
 | [],m=>(0,m)
 | x::xs,m=>if (f x m).1=0 then chkAll f xs (f x m).2 else f x m
noncomputable def chk:Nat->V->Nat->Nat×Nat
 | 0,_,m=>(if 2000<m+1 then 2 else 5,m+1)
 | d+1,v,m=>if 2000<m+1 then (2,m+1) else if ownV v≠0 then (ownV v,m+1) else if keyE none v.e≠0 then (keyE none v.e,m+1) else chkAll (chk d) v.parts (m+1)
noncomputable def chkV (v:V):Nat:=(chk 20 v 0).1
theorem chkAll_snoc (f:V->Nat->Nat×Nat):∀ (xs:List V) (x:V) (m:Nat),(chkAll f xs m).1=0->chkAll f (xs++[x]) m=f x (chkAll f xs m).2
 | [],x,m,_=>by
   show (if (f x m).1=0 then (0,(f x m).2) else f x m)=f x m
   by_cases h:(f x m).1=0
   ·rw [if_pos h];exact Prod.ext h.symm rfl
   ·rw [if_neg h]
 | y::xs,x,m,h=>by
   have e:∀ zs,chkAll f (y::zs) m=if (f y m).1=0 then chkAll f zs (f y m).2 else f y m:=fun _=>rfl
   rw [e] at h
   rw [List.cons_append,e,e]
   by_cases h1:(f y m).1=0
   ·rw [if_pos h1] at h
    rw [if_pos h1,if_pos h1]
    exact chkAll_snoc f xs x _ h
   ·rw [if_neg h1] at h
    exact absurd h h1
theorem chkAll_stop (f:V->Nat->Nat×Nat):∀ (xs ys:List V) (m:Nat),(chkAll f xs m).1≠0->chkAll f (xs++ys) m=chkAll f xs m
 | [],ys,m,h=>absurd rfl h
 | x::xs,ys,m,h=>by
   simp only [chkAll,List.cons_append] at h ⊢
   by_cases h1:(f x m).1=0
   ·rw [if_pos h1] at h
    rw [if_pos h1,if_pos h1]
    exact chkAll_stop f xs ys _ h
   ·rw [if_neg h1,if_neg h1]
theorem chkAll_le (f:V->Nat->Nat×Nat) (hf:∀ x m,m<=2000->(f x m).2<=2001/\((f x m).1=0->(f x m).2<=2000)):∀ (xs:List V) (m:Nat),m<=2000->(chkAll f xs m).2<=2001/\((chkAll f xs m).1=0->(chkAll f xs m).2<=2000)
 | [],m,h=>⟨by simp [chkAll];omega,fun _=>h⟩
 | x::xs,m,h=>by
   simp only [chkAll]
   by_cases h1:(f x m).1=0
   ·rw [if_pos h1]
    exact chkAll_le f hf xs _ ((hf x m h).2 h1)
   ·rw [if_neg h1]
    exact hf x m h
theorem chk_le:∀ (d:Nat) (v:V) (m:Nat),m<=2000->(chk d v m).2<=2001/\((chk d v m).1=0->(chk d v m).2<=2000)
 | 0,v,m,h=>by
   simp only [chk]
   refine ⟨by omega,fun h2=>?_⟩
   split at h2<;>cases h2
 | d+1,v,m,h=>by
   simp only [chk]
   by_cases h1:2000<m+1
   ·rw [if_pos h1];exact ⟨by simp only;omega,fun h2=>by cases h2⟩
   rw [if_neg h1]
   by_cases h2:ownV v≠0
   ·rw [if_pos h2];exact ⟨by simp only;omega,fun h3=>absurd h3 h2⟩
   rw [if_neg h2]
   by_cases h3:keyE none v.e≠0
   ·rw [if_pos h3];exact ⟨by simp only;omega,fun h4=>absurd h4 h3⟩
   rw [if_neg h3]
   exact chkAll_le _ (chk_le d) _ _ (by omega)
def prevK (e:List (ByteArray×V)) (k:Nat):Option ByteArray:=if k=0 then none else (e[k - 1]?).map Prod.fst
theorem prevK_succ {e:List (ByteArray×V)} {k:Nat} {x:ByteArray×V} (h:e[k]?=some x):prevK e (k+1)=some x.1:=by unfold prevK;simp [h]
open Classical in
theorem keyE_drop {e:List (ByteArray×V)} {k:Nat} {x:ByteArray×V} (h:e[k]?=some x):keyE (prevK e k) (e.drop k) =
 if 100<x.1.size then 2 else if ¬ okText x.1.data.toList then 3 else if keyBad (prevK e k) x.1=true then 14 else keyE (prevK e (k+1)) (e.drop (k+1)):=by
 obtain ⟨hl,hx⟩:=List.getElem?_eq_some_iff.1 h
 rw [prevK_succ h,List.drop_eq_getElem_cons hl,hx,keyE]
theorem keyE_end (e:List (ByteArray×V)) (p:Option ByteArray):keyE p (e.drop e.length)=0:=by rw [List.drop_length];rfl
end Go.Proofs.YtldhmfkojaekfaaGreatDoor
namespace Go.Proofs.YtldhmfkojaekfaaGreatDoor
open Go.RowKit Gx
theorem next_mark {l:List UInt8} (h:(nextTok l).1=6):(nextTok l).2=1:=by
 cases l with
 | nil=>unfold nextTok at h;cases h
 | cons b r =>
   unfold nextTok at h ⊢
   simp only [] at h ⊢
   by_cases h1:classOf (b.toNat:Int)=1\/classOf (b.toNat:Int)=4
   ·rw [if_pos h1] at h
    simp only [] at h
    omega
   ·rw [if_neg h1] at h ⊢
    by_cases h3:classOf (b.toNat:Int)=3
    ·rw [if_pos h3] at h
     split at h<;>simp at h
    ·rw [if_neg h3] at h ⊢
     by_cases h5:classOf (b.toNat:Int)=5
     ·rw [if_pos h5] at h
      split at h<;>simp at h
     ·rw [if_neg h5]
theorem toks_in (l:List UInt8):∀ (f a:Nat),l.length<=a+f->∀ t∈toksFrom l a,t.2.1<=t.2.2/\t.2.2<=l.length/\t.2.1<l.length/\(t.1=6->t.2.2=t.2.1+1)
 | 0,a,h,t,ht=>by rw [toksFrom_end _ _ (by omega)] at ht;cases ht
 | f+1,a,h,t,ht=>by
   by_cases ha:l.length<=a
   ·rw [toksFrom_end _ _ ha] at ht;cases ht
   ·have hn:=nextTok_fits (l.drop a) (by rw [List.length_drop];omega)
    rw [List.length_drop] at hn
    rw [toksFrom_step _ a (by omega)] at ht
    rcases List.mem_cons.1 ht with rfl|ht
    ·refine ⟨by simp only [];omega,by simp only [];omega,by simp only [];omega,fun h6=>?_⟩
     simp only [] at h6 ⊢
     rw [next_mark h6]
    ·exact toks_in l f _ (by omega) t ht
theorem treeX_tok (l:List UInt8) (k:Nat) (hk:k<(treeX l).T.length):(treeX l).pos k<=(treeX l).end_ k/\(treeX l).end_ k<=l.length/\(treeX l).pos k<l.length/\((treeX l).kind k=6->(treeX l).end_ k=(treeX l).pos k+1):=by
 have h:=toks_in l l.length 0 (by omega) ((treeX l).T[k]) (List.getElem_mem hk)
 unfold TS.pos TS.end_ TS.kind
 rw [List.getElem?_eq_getElem hk]
 exact h
theorem treeX_in (l:List UInt8):InX (treeX l):=fun k hk=>⟨(treeX_tok l k hk).1,(treeX_tok l k hk).2.1⟩
theorem treeX_mark (l:List UInt8):MarkOk (treeX l):=fun k hk h6=>by
 obtain ⟨h1,h2,h3,h4⟩:=treeX_tok l k hk
 unfold TS.bytes
 rw [h4 h6]
 show (l.drop ((treeX l).pos k)).take _=[l.getD ((treeX l).pos k) 0]
 rw [Nat.add_sub_cancel_left,List.drop_eq_getElem_cons h3,List.getD_eq_getElem?_getD,List.getElem?_eq_getElem h3]
 rfl
def rootN (l:List UInt8):Nd:=(valueS (treeX l) 20 ⟨0,0,0⟩).2
def MeanOk (l:List UInt8) (v:V):Prop:=l.length<=20000/\(parseS (treeX l)).bad=0/\meanN (treeX l) 21 (rootN l)=.ok v/\chkV v=0
def MeanBad (l:List UInt8) (a:Nat) (c:Int):Prop :=
 (20000<l.length/\a=0/\c=2)\/(l.length<=20000/\(parseS (treeX l)).bad≠0/\a=(parseS (treeX l)).wh/\c=(parseS (treeX l)).bad) \/
 (l.length<=20000/\(parseS (treeX l)).bad=0/\((∃ f:Flt,meanN (treeX l) 21 (rootN l)=.error f/\a=f.1/\c≠0/\(f.2=true->c=6))\/(∃ v,meanN (treeX l) 21 (rootN l)=.ok v/\chkV v≠0/\a=0/\c=(chkV v:Int))))
theorem parse_bad {X:TS} (h:(parseS X).bad=0):(valueS X 20 ⟨0,0,0⟩).1.bad=0:=by
 unfold parseS endS at h
 split at h
 ·exact (fail_not (by decide) h).elim
 ·exact h
theorem root_wn {l:List UInt8} (h:(parseS (treeX l)).bad=0):Wn (treeX l) 21 (rootN l):=value_wn (treeX l) 20 ⟨0,0,0⟩ (Nat.zero_le _) (parse_bad h)
set_option maxRecDepth 100000
set_option maxHeartbeats 4000000 in
theorem catch_idle (p q r:Addr) (w:World) :
 CallsD Tryz.prog 25 #[.pointer (some p),.pointer (some q),.pointer (some r)] .returning w fun e u' w'=>e=.returned (.tuple #[])/\u'=.returning/\w'=w:=by
 refine callsD_of_wpS Tryz.func25 rfl fun c₀ cs hu=>?_
 apply wpS_seq
 apply wpS_region
 simp [wpOpsS,go_sem,recoverD,hu,Tryz.ntmps25,Exit.thenS]
 refine wpS_of_wp ?_
 change Code.wp _ _ _ { tmps:=#[.pointer (some p),.pointer (some q),.pointer (some r),.nilIface,undef,undef,.nilIface,undef,undef,undef,undef,undef,undef,undef,undef,undef,undef,undef,undef,undef],defers:=[] } w
 refine (fun (h:∀ POST:Exit->Act->World->Prop,(∀ tmps,POST .normal { tmps:=tmps,defers:=[] } w)->Code.wp Tryz.prog _ POST _ w)=>h _ ?_) ?_
 ·intro tmps
  cases c₀
  simp_all [bodyPostS,results,Tryz.results25,go_sem]
 ·clear hu
  intro POST hPOST
  have HP:=Lib.hid hPOST
  clear hPOST
  have q1:(binOp BinOp.neq 20 .nilIface .nilIface).run Tryz.prog w=.ok (.bool false) w:=by kernel_rfl
  go_wp2_with fail
  exact HP.out _
set_option maxHeartbeats 4000000 in
theorem catch_fault (b0 b1 b2:Nat) (a c:Int) (u0 u1 u2 u3 u4 u5 x y:Value) (w:World) (h0:w.heap[b0]?=some (.cells #[u0,u1,u2,u3,u4,u5] 26)) (h1:w.heap[b1]?=some (.cells #[x] 28)) (h2:w.heap[b2]?=some (.cells #[y] 3)) (n01:b0≠b1) (n02:b0≠b2) (n12:b1≠b2) :
 CallsD Tryz.prog 25 #[.pointer (some ⟨b0,0,none⟩),.pointer (some ⟨b1,0,none⟩),.pointer (some ⟨b2,0,none⟩)] (.panicking [{ v:=.iface 57 (.agg #[.int .i64 a,.int .i64 c]),recovered:=false }]) w fun e u' w' =>
  e=.returned (.tuple #[])/\u'=.panicking [{ v:=.iface 57 (.agg #[.int .i64 a,.int .i64 c]),recovered:=true }] /\
  w'.heap[b0]?=some (.cells #[.int .i64 0,.int .i64 0,.int .u64 0,.string ⟨#[]⟩,.slice none 0 0,.slice none 0 0] 26)/\w'.heap[b1]?=some (.cells #[.int .i64 c] 28)/\w'.heap[b2]?=some (.cells #[.int .i64 a] 3) /\
  ∀ B w0,Below B w0 w->B<=b0->B<=b1->B<=b2->Below B w0 w':=by
 refine callsD_of_wpS Tryz.func25 rfl fun c₀ cs hu=>?_
 apply wpS_seq
 apply wpS_region
 simp [wpOpsS,go_sem,recoverD,hu,Tryz.ntmps25,Exit.thenS]
 refine wpS_of_wp ?_
 change Code.wp _ _ _ { tmps:=#[.pointer (some ⟨b0,0,none⟩),.pointer (some ⟨b1,0,none⟩),.pointer (some ⟨b2,0,none⟩),.iface 57 (.agg #[.int .i64 a,.int .i64 c]),undef,undef,.iface 57 (.agg #[.int .i64 a,.int .i64 c]),undef,undef,undef,undef,undef,undef,undef,undef,undef,undef,undef,undef,undef],defers:=[] } w
 refine (fun (h:∀ POST:Exit->Act->World->Prop,(∀ tmps w',(w'.heap[b0]?=some (.cells #[.int .i64 0,.int .i64 0,.int .u64 0,.string ⟨#[]⟩,.slice none 0 0,.slice none 0 0] 26)/\w'.heap[b1]?=some (.cells #[.int .i64 c] 28)/\w'.heap[b2]?=some (.cells #[.int .i64 a] 3) /\
  ∀ B w0,Below B w0 w->B<=b0->B<=b1->B<=b2->Below B w0 w')->POST .normal { tmps:=tmps,defers:=[] } w')->Code.wp Tryz.prog _ POST _ w)=>h _ ?_) ?_
 ·rintro tmps w' ⟨h0,h1,h2,h3⟩
  cases c₀
  simp_all [bodyPostS,results,Tryz.results25,go_sem]
 ·clear hu
  intro POST hPOST
  have HP:=Lib.hid hPOST
  clear hPOST
  obtain ⟨W9,hW9,hr9,hot,-,hbw9,-⟩:=six_all h0 (.int .i64 0) (.int .i64 0) (.int .u64 0) (.string ⟨#[]⟩) (.slice none 0 0) (.slice none 0 0)
  obtain ⟨g0,g1,g2,g3,g4,g5,gf⟩:=six_cells h0
  have gf0:=gf 0
  have gf1:=gf 1
  have gf2:=gf 2
  have gf3:=gf 3
  have gf4:=gf 4
  have gf5:=gf 5
  have HW9:=Lib.hid hW9
  have hta:∀ (v:Value) (w:World),(Instr.typeAssert (.iface 57 v) 20 57 true).run Tryz.prog w=.ok (.tuple #[v,.bool true]) w:=fun v w=>by kernel_rfl
  have k1:W9.heap[b1]?=some (.cells #[x] 28):=(hot b1 (Ne.symm n01)).trans h1
  have k2:W9.heap[b2]?=some (.cells #[y] 3):=(hot b2 (Ne.symm n02)).trans h2
  have l1:w.cell? ⟨b1,0,none⟩=some x:=by simp [World.cell?,h1]
  have l2:w.frozen? ⟨b1,0,none⟩=false:=by simp [World.frozen?,h1]
  go_upto_region 3 with fail
  rw [<-HW9.out]
  have m1:(W9.setCell ⟨b1,0,none⟩ (.int .i64 4)).heap[b1]?=some (.cells #[.int .i64 4] 28):=by simp [World.setCell,Array.getElem?_modify,k1]
  have m0:(W9.setCell ⟨b1,0,none⟩ (.int .i64 4)).heap[b0]?=some (.cells #[.int .i64 0,.int .i64 0,.int .u64 0,.string ⟨#[]⟩,.slice none 0 0,.slice none 0 0] 26):=((grown_cell W9 b1 0 _).block b0 (Array.getElem?_eq_some_iff.1 hr9).1 (fun e=>n01 (Option.some.inj e))).trans hr9
  have m2:(W9.setCell ⟨b1,0,none⟩ (.int .i64 4)).heap[b2]?=some (.cells #[y] 3):=((grown_cell W9 b1 0 _).block b2 (Array.getElem?_eq_some_iff.1 k2).1 (fun e=>n12 (Option.some.inj e).symm)).trans k2
  have HB:Hid (∀ B w0,Below B w0 w->B<=b0->B<=b1->B<=b2->Below B w0 (W9.setCell ⟨b1,0,none⟩ (.int .i64 4))):=Lib.hid (fun B w0 hb h0' h1' h2'=>(hbw9 B w0 hb h0').grown (grown_cell W9 b1 0 _) (by have:=(Array.getElem?_eq_some_iff.1 k1).1;omega) (fun k e=>by have:=Option.some.inj e;omega))
  generalize W9.setCell ⟨b1,0,none⟩ (.int .i64 4)=W10 at m0 m1 m2 HB ⊢
  have f0:=heap_alloc_new W10 (.cells #[.int .i64 a,.int .i64 c] 57)
  have o0:=(alloc_old_gx W10 (.cells #[.int .i64 a,.int .i64 c] 57) (Array.getElem?_eq_some_iff.1 m0).1).trans m0
  have o1:=(alloc_old_gx W10 (.cells #[.int .i64 a,.int .i64 c] 57) (Array.getElem?_eq_some_iff.1 m1).1).trans m1
  have o2:=(alloc_old_gx W10 (.cells #[.int .i64 a,.int .i64 c] 57) (Array.getElem?_eq_some_iff.1 m2).1).trans m2
  have HB2:Hid (∀ B w0,Below B w0 w->B<=b0->B<=b1->B<=b2->Below B w0 (W10.alloc (.cells #[.int .i64 a,.int .i64 c] 57))):=Lib.hid (fun B w0 hb h0' h1' h2'=>(HB.out B w0 hb h0' h1' h2').alloc (by have:=(Array.getElem?_eq_some_iff.1 m0).1;omega) _)
  have nf1:W10.heap.size≠b1:=by have:=(Array.getElem?_eq_some_iff.1 m1).1;omega
  have nf2:W10.heap.size≠b2:=by have:=(Array.getElem?_eq_some_iff.1 m2).1;omega
  clear HB hW9 hr9 hot hbw9 g0 g1 g2 g3 g4 g5 gf gf0 gf1 gf2 gf3 gf4 gf5 HW9 k1 k2 l1 l2 m0 m1 m2 h0 h1 h2
  go_upto_region 5 with fail
  generalize hwx:World.alloc W10 _=W11 at f0 o0 o1 o2 HB2 ⊢
  generalize hfb:W10.heap.size=F at f0 nf1 nf2 ⊢
  clear hwx hfb
  have e0:W11.cell? ⟨F,0,none⟩=some (.int .i64 a):=by simp [World.cell?,f0]
  have e1:W11.cell? ⟨F,1,none⟩=some (.int .i64 c):=by simp [World.cell?,f0]
  have d1:W11.cell? ⟨b1,0,none⟩=some (.int .i64 4):=by simp [World.cell?,o1]
  have d2:W11.cell? ⟨b2,0,none⟩=some y:=by simp [World.cell?,o2]
  have z1:W11.frozen? ⟨b1,0,none⟩=false:=by simp [World.frozen?,o1]
  have z2:W11.frozen? ⟨b2,0,none⟩=false:=by simp [World.frozen?,o2]
  have nf3:¬ b1=F:=fun e=>nf1 e.symm
  have nf4:¬ b2=F:=fun e=>nf2 e.symm
  go_region_held3 (fun w'=>w'.cell? ⟨F,0,none⟩=some (.int .i64 a)/\w'.cell? ⟨F,1,none⟩=some (.int .i64 c)) (first|exact ⟨e0,e1⟩|go_keep) (fail)
  refine HP.out _ _ ⟨?_,?_,?_,fun B w0 hb h0' h1' h2'=>?_⟩
  ·show ((W11.setCell ⟨b2,0,none⟩ (.int .i64 a)).setCell ⟨b1,0,none⟩ (.int .i64 c)).heap[b0]?=_
   simp [World.setCell,Array.getElem?_modify,n01.symm,n02.symm,o0]
  ·show ((W11.setCell ⟨b2,0,none⟩ (.int .i64 a)).setCell ⟨b1,0,none⟩ (.int .i64 c)).heap[b1]?=_
   simp [World.setCell,Array.getElem?_modify,n12.symm,o1]
  ·show ((W11.setCell ⟨b2,0,none⟩ (.int .i64 a)).setCell ⟨b1,0,none⟩ (.int .i64 c)).heap[b2]?=_
   simp [World.setCell,Array.getElem?_modify,n12,o2]
  ·have l1:=(Array.getElem?_eq_some_iff.1 o1).1
   refine Below.trans (Below.grown (Below.grown (HB2.out B w0 hb h0' h1' h2') (grown_cell W11 b2 0 _) (by omega) (fun k e=>by have:=Option.some.inj e;omega)) (grown_cell _ b1 0 _) ?_ (fun k e=>by have:=Option.some.inj e;omega)) (Gx.drewN_below _ 1 _)
   simp [World.setCell];omega
set_option maxRecDepth 100000
set_option maxHeartbeats 8000000 in
theorem own_0 (n f:Int) (s:ByteArray) (ad bd:Option Addr) (nl ne cl ce:Nat) (w:World) (a:Int) (h0:0<=a) (h1:a<20) (hf0:0<=f) (hf1:f<=18446744073709551615) (hl:nl<=1000000000000000) (he:ne<=1000000000000000) (hs:s.size<=1000000000000000) (hT:Tabs w) :
 Calls Tryz.prog 50 #[.agg #[.int .i64 0,.int .i64 n,.int .u64 f,.string s,.slice ad nl cl,.slice bd ne ce],.int .i64 a] w (OwnPost (ownE 0 n f s nl ne) w):=by
 have t20:decide (20<=a)=false:=decide_eq_false (by omega)
 by_cases hn:n=0
 rotate_left
 ·have u0:(n != 0)=true:=by simpa using hn
  clear hn
  have e:ownE 0 n f s nl ne=10:=by simp [ownE,kindBad,u0]
  go_enter Tryz.func50,Tryz.ntmps50
  go_wp2_with fail
  go_quiet (fail)
  go_wp2_with fail
  try go_ret
  exact ⟨by rw [e];rfl,((Below.refl _ w).alloc (Nat.le_refl _) _).trans (Gx.drewN_below _ _ _)⟩
 subst hn
 by_cases hf:f=0
 rotate_left
 ·have u2:(f != 0)=true:=by simpa using hf
  clear hf
  have e:ownE 0 0 f s nl ne=10:=by simp [ownE,kindBad,u2]
  go_enter Tryz.func50,Tryz.ntmps50
  go_wp2_with fail
  go_quiet (fail)
  go_wp2_with fail
  try go_ret
  exact ⟨by rw [e];rfl,((Below.refl _ w).alloc (Nat.le_refl _) _).trans (Gx.drewN_below _ _ _)⟩
 subst hf
 clear hf0 hf1
 by_cases hse:s.toList.isEmpty=true
 rotate_left
 ·have v0:s.toList.isEmpty=false:=by simpa using hse
  have v1:(!s.toList.isEmpty)=true:=by rw [v0];rfl
  clear hse
  have e:ownE 0 0 0 s nl ne=10:=by simp [ownE,kindBad,nan0,v0]
  go_enter Tryz.func50,Tryz.ntmps50
  go_wp2_with fail
  go_quiet (fail)
  go_wp2_with fail
  try go_ret
  exact ⟨by rw [e];rfl,((Below.refl _ w).alloc (Nat.le_refl _) _).trans (Gx.drewN_below _ _ _)⟩
 obtain rfl:=empty_of hse
 clear hse hs
 by_cases hnl:nl=0
 rotate_left
 ·have v2:0<nl:=by omega
  clear hnl
  have e:ownE 0 0 0 ⟨#[]⟩ nl ne=10:=by simp [ownE,kindBad,nan0,empty_bad,empty_size,v2]
  go_enter Tryz.func50,Tryz.ntmps50
  go_wp2_with fail
  go_quiet (fail)
  go_wp2_with fail
  try go_ret
  exact ⟨by rw [e];rfl,((Below.refl _ w).alloc (Nat.le_refl _) _).trans (Gx.drewN_below _ _ _)⟩
 subst hnl
 clear hl
 by_cases hne:ne=0
 rotate_left
 ·have v3:0<ne:=by omega
  clear hne
  have e:ownE 0 0 0 ⟨#[]⟩ 0 ne=10:=by simp [ownE,kindBad,nan0,empty_bad,empty_size,v3]
  go_enter Tryz.func50,Tryz.ntmps50
  go_wp2_with fail
  go_quiet (fail)
  go_wp2_with fail
  try go_ret
  exact ⟨by rw [e];rfl,((Below.refl _ w).alloc (Nat.le_refl _) _).trans (Gx.drewN_below _ _ _)⟩
 subst hne
 clear he
 have hTT:∀ nq,Tabs ((w.alloc (.cells #[.int .i64 0,.int .i64 0,.int .u64 0,.string ⟨#[]⟩,.slice ad 0 cl,.slice bd 0 ce] 26)).drewN nq):=fun nq=>hT.keep (((Below.refl _ w).alloc (Nat.le_refl _) _).trans (Gx.drewN_below _ nq _))
 have HTT:=Lib.hid hTT
 clear hTT hT
 go_enter Tryz.func50,Tryz.ntmps50
 go_wp2_with fail
 go_quiet (fail)
 go_wp2_with fail
 refine (bad_any ⟨#[]⟩ _ (HTT.out nq) (by first|omega|decide)).mono ?_
 rintro e w2 ⟨b,rfl,hb,hbw⟩
 have HBW:=Lib.hid (Below.trans (((Below.refl w.heap.size w).alloc (Nat.le_refl _) _).trans (Gx.drewN_below _ nq _)) (hbw.mono (by simp)))
 clear hbw
 by_cases hok:okText (ByteArray.mk #[]).data.toList
 ·have hlt:=hb.2 hok
  have e:ownE 0 0 0 ⟨#[]⟩ 0 0=0:=by simp [ownE,kindBad,hok,nan0,empty_bad,empty_size]
  have t1:decide (0<=b)=false:=decide_eq_false (by omega)
  clear hb hok
  go_wp2_with fail
  try go_ret
  exact ⟨by rw [e];rfl,HBW.out⟩
 ·have hlt:0<=b:=Int.not_lt.1 (fun h=>hok (hb.1 h))
  have e:ownE 0 0 0 ⟨#[]⟩ 0 0=3:=by simp [ownE,kindBad,hok,nan0,empty_bad,empty_size]
  have t1:decide (0<=b)=true:=decide_eq_true hlt
  clear hb hok
  go_wp2_with fail
  try go_ret
  exact ⟨by rw [e];rfl,HBW.out⟩
set_option maxHeartbeats 8000000 in
theorem own_1 (n f:Int) (s:ByteArray) (ad bd:Option Addr) (nl ne cl ce:Nat) (w:World) (a:Int) (h0:0<=a) (h1:a<20) (hf0:0<=f) (hf1:f<=18446744073709551615) (hl:nl<=1000000000000000) (he:ne<=1000000000000000) (hs:s.size<=1000000000000000) (hT:Tabs w) :
 Calls Tryz.prog 50 #[.agg #[.int .i64 1,.int .i64 n,.int .u64 f,.string s,.slice ad nl cl,.slice bd ne ce],.int .i64 a] w (OwnPost (ownE 1 n f s nl ne) w):=by
 have t20:decide (20<=a)=false:=decide_eq_false (by omega)
 by_cases hn1:n=0\/n=1
 rotate_left
 ·have u0:(n != 0)=true:=by simp;omega
  have u1:(n != 1)=true:=by simp;omega
  clear hn1
  have e:ownE 1 n f s nl ne=10:=by simp [ownE,kindBad,u0,u1]
  go_enter Tryz.func50,Tryz.ntmps50
  go_wp2_with fail
  go_quiet (fail)
  go_wp2_with fail
  try go_ret
  exact ⟨by rw [e];rfl,((Below.refl _ w).alloc (Nat.le_refl _) _).trans (Gx.drewN_below _ _ _)⟩
 have hnn:((n != 0)=true/\(n != 1)=false)\/(n != 0)=false:=by rcases hn1 with rfl|rfl<;>simp
 clear hn1
 by_cases hf:f=0
 rotate_left
 ·rcases hnn with ⟨u0,u1⟩|u0
  ·have u2:(f != 0)=true:=by simpa using hf
   clear hf
   have e:ownE 1 n f s nl ne=10:=by simp [ownE,kindBad,u0,u2,u1]
   go_enter Tryz.func50,Tryz.ntmps50
   go_wp2_with fail
   go_quiet (fail)
   go_wp2_with fail
   try go_ret
   exact ⟨by rw [e];rfl,((Below.refl _ w).alloc (Nat.le_refl _) _).trans (Gx.drewN_below _ _ _)⟩
  ·have u2:(f != 0)=true:=by simpa using hf
   clear hf
   have e:ownE 1 n f s nl ne=10:=by simp [ownE,kindBad,u0,u2]
   go_enter Tryz.func50,Tryz.ntmps50
   go_wp2_with fail
   go_quiet (fail)
   go_wp2_with fail
   try go_ret
   exact ⟨by rw [e];rfl,((Below.refl _ w).alloc (Nat.le_refl _) _).trans (Gx.drewN_below _ _ _)⟩
 subst hf
 clear hf0 hf1
 by_cases hse:s.toList.isEmpty=true
 rotate_left
 ·have v0:s.toList.isEmpty=false:=by simpa using hse
  have v1:(!s.toList.isEmpty)=true:=by rw [v0];rfl
  clear hse
  rcases hnn with ⟨u0,u1⟩|u0
  ·skip
   have e:ownE 1 n 0 s nl ne=10:=by simp [ownE,kindBad,nan0,v0,u0,u1]
   go_enter Tryz.func50,Tryz.ntmps50
   go_wp2_with fail
   go_quiet (fail)
   go_wp2_with fail
   try go_ret
   exact ⟨by rw [e];rfl,((Below.refl _ w).alloc (Nat.le_refl _) _).trans (Gx.drewN_below _ _ _)⟩
  ·skip
   have e:ownE 1 n 0 s nl ne=10:=by simp [ownE,kindBad,nan0,v0,u0]
   go_enter Tryz.func50,Tryz.ntmps50
   go_wp2_with fail
   go_quiet (fail)
   go_wp2_with fail
   try go_ret
   exact ⟨by rw [e];rfl,((Below.refl _ w).alloc (Nat.le_refl _) _).trans (Gx.drewN_below _ _ _)⟩
 obtain rfl:=empty_of hse
 clear hse hs
 by_cases hnl:nl=0
 rotate_left
 ·have v2:0<nl:=by omega
  clear hnl
  rcases hnn with ⟨u0,u1⟩|u0
  ·skip
   have e:ownE 1 n 0 ⟨#[]⟩ nl ne=10:=by simp [ownE,kindBad,nan0,empty_bad,empty_size,v2,u0,u1]
   go_enter Tryz.func50,Tryz.ntmps50
   go_wp2_with fail
   go_quiet (fail)
   go_wp2_with fail
   try go_ret
   exact ⟨by rw [e];rfl,((Below.refl _ w).alloc (Nat.le_refl _) _).trans (Gx.drewN_below _ _ _)⟩
  ·skip
   have e:ownE 1 n 0 ⟨#[]⟩ nl ne=10:=by simp [ownE,kindBad,nan0,empty_bad,empty_size,v2,u0]
   go_enter Tryz.func50,Tryz.ntmps50
   go_wp2_with fail
   go_quiet (fail)
   go_wp2_with fail
   try go_ret
   exact ⟨by rw [e];rfl,((Below.refl _ w).alloc (Nat.le_refl _) _).trans (Gx.drewN_below _ _ _)⟩
 subst hnl
 clear hl
 by_cases hne:ne=0
 rotate_left
 ·have v3:0<ne:=by omega
  clear hne
  rcases hnn with ⟨u0,u1⟩|u0
  ·skip
   have e:ownE 1 n 0 ⟨#[]⟩ 0 ne=10:=by simp [ownE,kindBad,nan0,empty_bad,empty_size,v3,u0,u1]
   go_enter Tryz.func50,Tryz.ntmps50
   go_wp2_with fail
   go_quiet (fail)
   go_wp2_with fail
   try go_ret
   exact ⟨by rw [e];rfl,((Below.refl _ w).alloc (Nat.le_refl _) _).trans (Gx.drewN_below _ _ _)⟩
  ·skip
   have e:ownE 1 n 0 ⟨#[]⟩ 0 ne=10:=by simp [ownE,kindBad,nan0,empty_bad,empty_size,v3,u0]
   go_enter Tryz.func50,Tryz.ntmps50
   go_wp2_with fail
   go_quiet (fail)
   go_wp2_with fail
   try go_ret
   exact ⟨by rw [e];rfl,((Below.refl _ w).alloc (Nat.le_refl _) _).trans (Gx.drewN_below _ _ _)⟩
 subst hne
 clear he
 rcases hnn with ⟨u0,u1⟩|u0
 ·skip
  have hTT:∀ nq,Tabs ((w.alloc (.cells #[.int .i64 1,.int .i64 n,.int .u64 0,.string ⟨#[]⟩,.slice ad 0 cl,.slice bd 0 ce] 26)).drewN nq):=fun nq=>hT.keep (((Below.refl _ w).alloc (Nat.le_refl _) _).trans (Gx.drewN_below _ nq _))
  have HTT:=Lib.hid hTT
  clear hTT hT
  go_enter Tryz.func50,Tryz.ntmps50
  go_wp2_with fail
  go_quiet (fail)
  go_wp2_with fail
  refine (bad_any ⟨#[]⟩ _ (HTT.out nq) (by first|omega|decide)).mono ?_
  rintro e w2 ⟨b,rfl,hb,hbw⟩
  have HBW:=Lib.hid (Below.trans (((Below.refl w.heap.size w).alloc (Nat.le_refl _) _).trans (Gx.drewN_below _ nq _)) (hbw.mono (by simp)))
  clear hbw
  by_cases hok:okText (ByteArray.mk #[]).data.toList
  ·have hlt:=hb.2 hok
   have e:ownE 1 n 0 ⟨#[]⟩ 0 0=0:=by simp [ownE,kindBad,hok,nan0,empty_bad,empty_size,u0,u1]
   have t1:decide (0<=b)=false:=decide_eq_false (by omega)
   clear hb hok
   go_wp2_with fail
   try go_ret
   exact ⟨by rw [e];rfl,HBW.out⟩
  ·have hlt:0<=b:=Int.not_lt.1 (fun h=>hok (hb.1 h))
   have e:ownE 1 n 0 ⟨#[]⟩ 0 0=3:=by simp [ownE,kindBad,hok,nan0,empty_bad,empty_size,u0,u1]
   have t1:decide (0<=b)=true:=decide_eq_true hlt
   clear hb hok
   go_wp2_with fail
   try go_ret
   exact ⟨by rw [e];rfl,HBW.out⟩
 ·skip
  have hTT:∀ nq,Tabs ((w.alloc (.cells #[.int .i64 1,.int .i64 n,.int .u64 0,.string ⟨#[]⟩,.slice ad 0 cl,.slice bd 0 ce] 26)).drewN nq):=fun nq=>hT.keep (((Below.refl _ w).alloc (Nat.le_refl _) _).trans (Gx.drewN_below _ nq _))
  have HTT:=Lib.hid hTT
  clear hTT hT
  go_enter Tryz.func50,Tryz.ntmps50
  go_wp2_with fail
  go_quiet (fail)
  go_wp2_with fail
  refine (bad_any ⟨#[]⟩ _ (HTT.out nq) (by first|omega|decide)).mono ?_
  rintro e w2 ⟨b,rfl,hb,hbw⟩
  have HBW:=Lib.hid (Below.trans (((Below.refl w.heap.size w).alloc (Nat.le_refl _) _).trans (Gx.drewN_below _ nq _)) (hbw.mono (by simp)))
  clear hbw
  by_cases hok:okText (ByteArray.mk #[]).data.toList
  ·have hlt:=hb.2 hok
   have e:ownE 1 n 0 ⟨#[]⟩ 0 0=0:=by simp [ownE,kindBad,hok,nan0,empty_bad,empty_size,u0]
   have t1:decide (0<=b)=false:=decide_eq_false (by omega)
   clear hb hok
   go_wp2_with fail
   try go_ret
   exact ⟨by rw [e];rfl,HBW.out⟩
  ·have hlt:0<=b:=Int.not_lt.1 (fun h=>hok (hb.1 h))
   have e:ownE 1 n 0 ⟨#[]⟩ 0 0=3:=by simp [ownE,kindBad,hok,nan0,empty_bad,empty_size,u0]
   have t1:decide (0<=b)=true:=decide_eq_true hlt
   clear hb hok
   go_wp2_with fail
   try go_ret
   exact ⟨by rw [e];rfl,HBW.out⟩
set_option maxHeartbeats 8000000 in
theorem own_4 (n f:Int) (s:ByteArray) (ad bd:Option Addr) (nl ne cl ce:Nat) (w:World) (a:Int) (h0:0<=a) (h1:a<20) (hf0:0<=f) (hf1:f<=18446744073709551615) (hl:nl<=1000000000000000) (he:ne<=1000000000000000) (hs:s.size<=1000000000000000) (hT:Tabs w) :
 Calls Tryz.prog 50 #[.agg #[.int .i64 4,.int .i64 n,.int .u64 f,.string s,.slice ad nl cl,.slice bd ne ce],.int .i64 a] w (OwnPost (ownE 4 n f s nl ne) w):=by
 have t20:decide (20<=a)=false:=decide_eq_false (by omega)
 by_cases hn:n=0
 rotate_left
 ·have u0:(n != 0)=true:=by simpa using hn
  clear hn
  have e:ownE 4 n f s nl ne=10:=by simp [ownE,kindBad,u0]
  go_enter Tryz.func50,Tryz.ntmps50
  go_wp2_with fail
  go_quiet (fail)
  go_wp2_with fail
  try go_ret
  exact ⟨by rw [e];rfl,((Below.refl _ w).alloc (Nat.le_refl _) _).trans (Gx.drewN_below _ _ _)⟩
 subst hn
 by_cases hf:f=0
 rotate_left
 ·have u2:(f != 0)=true:=by simpa using hf
  clear hf
  have e:ownE 4 0 f s nl ne=10:=by simp [ownE,kindBad,u2]
  go_enter Tryz.func50,Tryz.ntmps50
  go_wp2_with fail
  go_quiet (fail)
  go_wp2_with fail
  try go_ret
  exact ⟨by rw [e];rfl,((Below.refl _ w).alloc (Nat.le_refl _) _).trans (Gx.drewN_below _ _ _)⟩
 subst hf
 clear hf0 hf1
 by_cases hnl:nl=0
 rotate_left
 ·have v2:0<nl:=by omega
  clear hnl
  have e:ownE 4 0 0 s nl ne=10:=by simp [ownE,kindBad,nan0,v2]
  go_enter Tryz.func50,Tryz.ntmps50
  go_wp2_with fail
  go_quiet (fail)
  go_wp2_with fail
  try go_ret
  exact ⟨by rw [e];rfl,((Below.refl _ w).alloc (Nat.le_refl _) _).trans (Gx.drewN_below _ _ _)⟩
 subst hnl
 clear hl
 by_cases hne:ne=0
 rotate_left
 ·have v3:0<ne:=by omega
  clear hne
  have e:ownE 4 0 0 s 0 ne=10:=by simp [ownE,kindBad,nan0,v3]
  go_enter Tryz.func50,Tryz.ntmps50
  go_wp2_with fail
  go_quiet (fail)
  go_wp2_with fail
  try go_ret
  exact ⟨by rw [e];rfl,((Below.refl _ w).alloc (Nat.le_refl _) _).trans (Gx.drewN_below _ _ _)⟩
 subst hne
 clear he
 by_cases hbig:4000<s.size
 ·have v4:decide ((4000:Int)<(s.size:Int))=true:=decide_eq_true (by omega)
  have e:ownE 4 0 0 s 0 0=2:=by simp [ownE,kindBad,nan0,hbig]
  go_enter Tryz.func50,Tryz.ntmps50
  go_wp2_with fail
  go_quiet (fail)
  go_wp2_with fail
  try go_ret
  exact ⟨by rw [e];rfl,((Below.refl _ w).alloc (Nat.le_refl _) _).trans (Gx.drewN_below _ _ _)⟩
 have v4:decide ((4000:Int)<(s.size:Int))=false:=decide_eq_false (by omega)
 have hTT:∀ nq,Tabs ((w.alloc (.cells #[.int .i64 4,.int .i64 0,.int .u64 0,.string s,.slice ad 0 cl,.slice bd 0 ce] 26)).drewN nq):=fun nq=>hT.keep (((Below.refl _ w).alloc (Nat.le_refl _) _).trans (Gx.drewN_below _ nq _))
 have HTT:=Lib.hid hTT
 clear hTT hT
 go_enter Tryz.func50,Tryz.ntmps50
 go_wp2_with fail
 go_quiet (fail)
 go_wp2_with fail
 refine (bad_any s _ (HTT.out nq) (by first|omega|decide)).mono ?_
 rintro e w2 ⟨b,rfl,hb,hbw⟩
 have HBW:=Lib.hid (Below.trans (((Below.refl w.heap.size w).alloc (Nat.le_refl _) _).trans (Gx.drewN_below _ nq _)) (hbw.mono (by simp)))
 clear hbw
 by_cases hok:okText s.data.toList
 ·have hlt:=hb.2 hok
  have e:ownE 4 0 0 s 0 0=0:=by simp [ownE,kindBad,hok,nan0,hbig]
  have t1:decide (0<=b)=false:=decide_eq_false (by omega)
  clear hb hok
  go_wp2_with fail
  try go_ret
  exact ⟨by rw [e];rfl,HBW.out⟩
 ·have hlt:0<=b:=Int.not_lt.1 (fun h=>hok (hb.1 h))
  have e:ownE 4 0 0 s 0 0=3:=by simp [ownE,kindBad,hok,nan0,hbig]
  have t1:decide (0<=b)=true:=decide_eq_true hlt
  clear hb hok
  go_wp2_with fail
  try go_ret
  exact ⟨by rw [e];rfl,HBW.out⟩
set_option maxRecDepth 100000
set_option maxHeartbeats 8000000 in
theorem own_3 (n f:Int) (s:ByteArray) (ad bd:Option Addr) (nl ne cl ce:Nat) (w:World) (a:Int) (h0:0<=a) (h1:a<20) (hf0:0<=f) (hf1:f<=18446744073709551615) (hl:nl<=1000000000000000) (he:ne<=1000000000000000) (hs:s.size<=1000000000000000) (hT:Tabs w) :
 Calls Tryz.prog 50 #[.agg #[.int .i64 3,.int .i64 n,.int .u64 f,.string s,.slice ad nl cl,.slice bd ne ce],.int .i64 a] w (OwnPost (ownE 3 n f s nl ne) w):=by
 have t20:decide (20<=a)=false:=decide_eq_false (by omega)
 by_cases hn:n=0
 rotate_left
 ·have u0:(n != 0)=true:=by simpa using hn
  clear hn
  have e:ownE 3 n f s nl ne=10:=by simp [ownE,kindBad,u0]
  go_enter Tryz.func50,Tryz.ntmps50
  go_wp2_with fail
  go_quiet (fail)
  go_wp2_with fail
  try go_ret
  exact ⟨by rw [e];rfl,((Below.refl _ w).alloc (Nat.le_refl _) _).trans (Gx.drewN_below _ _ _)⟩
 subst hn
 obtain ⟨E,hE⟩:∃ E,bits .and .u64 (f / 4503599627370496) 2047=E:=⟨_,rfl⟩
 obtain ⟨G,hG⟩:∃ G,bits .and .u64 f 4503599627370495=G:=⟨_,rfl⟩
 have hnan:=nan_of hE hG
 by_cases hnb:nanBad f=true
 ·have hq:(E==2047)=true/\(G != 0)=true/\(f != 9221120237041090561)=true:=by rw [hnan] at hnb;simpa [and_assoc] using hnb
  obtain ⟨u1,u2,u3⟩:=hq
  clear hnan
  have e:ownE 3 0 f s nl ne=10:=by simp [ownE,kindBad,hnb]
  clear hnb
  go_enter Tryz.func50,Tryz.ntmps50
  go_wp2_with fail
  go_quiet (fail)
  go_wp2_with fail
  try go_ret
  exact ⟨by rw [e];rfl,((Below.refl _ w).alloc (Nat.le_refl _) _).trans (Gx.drewN_below _ _ _)⟩
 have hnf:nanBad f=false:=by simpa using hnb
 have hq:(E==2047)=false\/((E==2047)=true/\(G != 0)=false)\/((E==2047)=true/\(G != 0)=true/\(f != 9221120237041090561)=false):=by
  rw [hnan] at hnf
  revert hnf
  generalize (E==2047)=x1
  generalize (G != 0)=x2
  generalize (f != 9221120237041090561)=x3
  revert x1 x2 x3;decide
 have HNF:=Lib.hid hnf
 clear hnb hnan hnf
 by_cases hse:s.toList.isEmpty=true
 rotate_left
 ·have v0:s.toList.isEmpty=false:=by simpa using hse
  have v1:(!s.toList.isEmpty)=true:=by rw [v0];rfl
  clear hse
  rcases hq with u1|⟨u1,u2⟩|⟨u1,u2,u3⟩
  ·skip
   have e:ownE 3 0 f s nl ne=10:=by simp [ownE,kindBad,HNF.out,v0]
   go_enter Tryz.func50,Tryz.ntmps50
   go_wp2_with fail
   go_quiet (fail)
   go_wp2_with fail
   try go_ret
   exact ⟨by rw [e];rfl,((Below.refl _ w).alloc (Nat.le_refl _) _).trans (Gx.drewN_below _ _ _)⟩
  ·skip
   have e:ownE 3 0 f s nl ne=10:=by simp [ownE,kindBad,HNF.out,v0]
   go_enter Tryz.func50,Tryz.ntmps50
   go_wp2_with fail
   go_quiet (fail)
   go_wp2_with fail
   try go_ret
   exact ⟨by rw [e];rfl,((Below.refl _ w).alloc (Nat.le_refl _) _).trans (Gx.drewN_below _ _ _)⟩
  ·skip
   have e:ownE 3 0 f s nl ne=10:=by simp [ownE,kindBad,HNF.out,v0]
   go_enter Tryz.func50,Tryz.ntmps50
   go_wp2_with fail
   go_quiet (fail)
   go_wp2_with fail
   try go_ret
   exact ⟨by rw [e];rfl,((Below.refl _ w).alloc (Nat.le_refl _) _).trans (Gx.drewN_below _ _ _)⟩
 obtain rfl:=empty_of hse
 clear hse hs
 by_cases hnl:nl=0
 rotate_left
 ·have v2:0<nl:=by omega
  clear hnl
  rcases hq with u1|⟨u1,u2⟩|⟨u1,u2,u3⟩
  ·skip
   have e:ownE 3 0 f ⟨#[]⟩ nl ne=10:=by simp [ownE,kindBad,HNF.out,empty_bad,empty_size,v2]
   go_enter Tryz.func50,Tryz.ntmps50
   go_wp2_with fail
   go_quiet (fail)
   go_wp2_with fail
   try go_ret
   exact ⟨by rw [e];rfl,((Below.refl _ w).alloc (Nat.le_refl _) _).trans (Gx.drewN_below _ _ _)⟩
  ·skip
   have e:ownE 3 0 f ⟨#[]⟩ nl ne=10:=by simp [ownE,kindBad,HNF.out,empty_bad,empty_size,v2]
   go_enter Tryz.func50,Tryz.ntmps50
   go_wp2_with fail
   go_quiet (fail)
   go_wp2_with fail
   try go_ret
   exact ⟨by rw [e];rfl,((Below.refl _ w).alloc (Nat.le_refl _) _).trans (Gx.drewN_below _ _ _)⟩
  ·skip
   have e:ownE 3 0 f ⟨#[]⟩ nl ne=10:=by simp [ownE,kindBad,HNF.out,empty_bad,empty_size,v2]
   go_enter Tryz.func50,Tryz.ntmps50
   go_wp2_with fail
   go_quiet (fail)
   go_wp2_with fail
   try go_ret
   exact ⟨by rw [e];rfl,((Below.refl _ w).alloc (Nat.le_refl _) _).trans (Gx.drewN_below _ _ _)⟩
 subst hnl
 clear hl
 by_cases hne:ne=0
 rotate_left
 ·have v3:0<ne:=by omega
  clear hne
  rcases hq with u1|⟨u1,u2⟩|⟨u1,u2,u3⟩
  ·skip
   have e:ownE 3 0 f ⟨#[]⟩ 0 ne=10:=by simp [ownE,kindBad,HNF.out,empty_bad,empty_size,v3]
   go_enter Tryz.func50,Tryz.ntmps50
   go_wp2_with fail
   go_quiet (fail)
   go_wp2_with fail
   try go_ret
   exact ⟨by rw [e];rfl,((Below.refl _ w).alloc (Nat.le_refl _) _).trans (Gx.drewN_below _ _ _)⟩
  ·skip
   have e:ownE 3 0 f ⟨#[]⟩ 0 ne=10:=by simp [ownE,kindBad,HNF.out,empty_bad,empty_size,v3]
   go_enter Tryz.func50,Tryz.ntmps50
   go_wp2_with fail
   go_quiet (fail)
   go_wp2_with fail
   try go_ret
   exact ⟨by rw [e];rfl,((Below.refl _ w).alloc (Nat.le_refl _) _).trans (Gx.drewN_below _ _ _)⟩
  ·skip
   have e:ownE 3 0 f ⟨#[]⟩ 0 ne=10:=by simp [ownE,kindBad,HNF.out,empty_bad,empty_size,v3]
   go_enter Tryz.func50,Tryz.ntmps50
   go_wp2_with fail
   go_quiet (fail)
   go_wp2_with fail
   try go_ret
   exact ⟨by rw [e];rfl,((Below.refl _ w).alloc (Nat.le_refl _) _).trans (Gx.drewN_below _ _ _)⟩
 subst hne
 clear he
 rcases hq with u1|⟨u1,u2⟩|⟨u1,u2,u3⟩
 ·skip
  have hTT:∀ nq,Tabs ((w.alloc (.cells #[.int .i64 3,.int .i64 0,.int .u64 f,.string ⟨#[]⟩,.slice ad 0 cl,.slice bd 0 ce] 26)).drewN nq):=fun nq=>hT.keep (((Below.refl _ w).alloc (Nat.le_refl _) _).trans (Gx.drewN_below _ nq _))
  have HTT:=Lib.hid hTT
  clear hTT hT
  go_enter Tryz.func50,Tryz.ntmps50
  go_wp2_with fail
  go_quiet (fail)
  go_wp2_with fail
  refine (bad_any ⟨#[]⟩ _ (HTT.out nq) (by first|omega|decide)).mono ?_
  rintro e w2 ⟨b,rfl,hb,hbw⟩
  have HBW:=Lib.hid (Below.trans (((Below.refl w.heap.size w).alloc (Nat.le_refl _) _).trans (Gx.drewN_below _ nq _)) (hbw.mono (by simp)))
  clear hbw
  by_cases hok:okText (ByteArray.mk #[]).data.toList
  ·have hlt:=hb.2 hok
   have e:ownE 3 0 f ⟨#[]⟩ 0 0=0:=by simp [ownE,kindBad,hok,HNF.out,empty_bad,empty_size]
   have t1:decide (0<=b)=false:=decide_eq_false (by omega)
   clear hb hok
   go_wp2_with fail
   try go_ret
   exact ⟨by rw [e];rfl,HBW.out⟩
  ·have hlt:0<=b:=Int.not_lt.1 (fun h=>hok (hb.1 h))
   have e:ownE 3 0 f ⟨#[]⟩ 0 0=3:=by simp [ownE,kindBad,hok,HNF.out,empty_bad,empty_size]
   have t1:decide (0<=b)=true:=decide_eq_true hlt
   clear hb hok
   go_wp2_with fail
   try go_ret
   exact ⟨by rw [e];rfl,HBW.out⟩
 ·skip
  have hTT:∀ nq,Tabs ((w.alloc (.cells #[.int .i64 3,.int .i64 0,.int .u64 f,.string ⟨#[]⟩,.slice ad 0 cl,.slice bd 0 ce] 26)).drewN nq):=fun nq=>hT.keep (((Below.refl _ w).alloc (Nat.le_refl _) _).trans (Gx.drewN_below _ nq _))
  have HTT:=Lib.hid hTT
  clear hTT hT
  go_enter Tryz.func50,Tryz.ntmps50
  go_wp2_with fail
  go_quiet (fail)
  go_wp2_with fail
  refine (bad_any ⟨#[]⟩ _ (HTT.out nq) (by first|omega|decide)).mono ?_
  rintro e w2 ⟨b,rfl,hb,hbw⟩
  have HBW:=Lib.hid (Below.trans (((Below.refl w.heap.size w).alloc (Nat.le_refl _) _).trans (Gx.drewN_below _ nq _)) (hbw.mono (by simp)))
  clear hbw
  by_cases hok:okText (ByteArray.mk #[]).data.toList
  ·have hlt:=hb.2 hok
   have e:ownE 3 0 f ⟨#[]⟩ 0 0=0:=by simp [ownE,kindBad,hok,HNF.out,empty_bad,empty_size]
   have t1:decide (0<=b)=false:=decide_eq_false (by omega)
   clear hb hok
   go_wp2_with fail
   try go_ret
   exact ⟨by rw [e];rfl,HBW.out⟩
  ·have hlt:0<=b:=Int.not_lt.1 (fun h=>hok (hb.1 h))
   have e:ownE 3 0 f ⟨#[]⟩ 0 0=3:=by simp [ownE,kindBad,hok,HNF.out,empty_bad,empty_size]
   have t1:decide (0<=b)=true:=decide_eq_true hlt
   clear hb hok
   go_wp2_with fail
   try go_ret
   exact ⟨by rw [e];rfl,HBW.out⟩
 ·skip
  have hTT:∀ nq,Tabs ((w.alloc (.cells #[.int .i64 3,.int .i64 0,.int .u64 f,.string ⟨#[]⟩,.slice ad 0 cl,.slice bd 0 ce] 26)).drewN nq):=fun nq=>hT.keep (((Below.refl _ w).alloc (Nat.le_refl _) _).trans (Gx.drewN_below _ nq _))
  have HTT:=Lib.hid hTT
  clear hTT hT
  go_enter Tryz.func50,Tryz.ntmps50
  go_wp2_with fail
  go_quiet (fail)
  go_wp2_with fail
  refine (bad_any ⟨#[]⟩ _ (HTT.out nq) (by first|omega|decide)).mono ?_
  rintro e w2 ⟨b,rfl,hb,hbw⟩
  have HBW:=Lib.hid (Below.trans (((Below.refl w.heap.size w).alloc (Nat.le_refl _) _).trans (Gx.drewN_below _ nq _)) (hbw.mono (by simp)))
  clear hbw
  by_cases hok:okText (ByteArray.mk #[]).data.toList
  ·have hlt:=hb.2 hok
   have e:ownE 3 0 f ⟨#[]⟩ 0 0=0:=by simp [ownE,kindBad,hok,HNF.out,empty_bad,empty_size]
   have t1:decide (0<=b)=false:=decide_eq_false (by omega)
   clear hb hok
   go_wp2_with fail
   try go_ret
   exact ⟨by rw [e];rfl,HBW.out⟩
  ·have hlt:0<=b:=Int.not_lt.1 (fun h=>hok (hb.1 h))
   have e:ownE 3 0 f ⟨#[]⟩ 0 0=3:=by simp [ownE,kindBad,hok,HNF.out,empty_bad,empty_size]
   have t1:decide (0<=b)=true:=decide_eq_true hlt
   clear hb hok
   go_wp2_with fail
   try go_ret
   exact ⟨by rw [e];rfl,HBW.out⟩
set_option maxRecDepth 100000
set_option maxHeartbeats 8000000 in
theorem own_2 (n f:Int) (s:ByteArray) (ad bd:Option Addr) (nl ne cl ce:Nat) (w:World) (a:Int) (h0:0<=a) (h1:a<20) (hf0:0<=f) (hf1:f<=18446744073709551615) (hl:nl<=1000000000000000) (he:ne<=1000000000000000) (hs:s.size<=1000000000000000) (hT:Tabs w) :
 Calls Tryz.prog 50 #[.agg #[.int .i64 2,.int .i64 n,.int .u64 f,.string s,.slice ad nl cl,.slice bd ne ce],.int .i64 a] w (OwnPost (ownE 2 n f s nl ne) w):=by
 have t20:decide (20<=a)=false:=decide_eq_false (by omega)
 by_cases hf:f=0
 rotate_left
 ·have u2:(f != 0)=true:=by simpa using hf
  clear hf
  have e:ownE 2 n f s nl ne=10:=by simp [ownE,kindBad,u2]
  go_enter Tryz.func50,Tryz.ntmps50
  go_wp2_with fail
  go_quiet (fail)
  go_wp2_with fail
  try go_ret
  exact ⟨by rw [e];rfl,((Below.refl _ w).alloc (Nat.le_refl _) _).trans (Gx.drewN_below _ _ _)⟩
 subst hf
 clear hf0 hf1
 by_cases hse:s.toList.isEmpty=true
 rotate_left
 ·have v0:s.toList.isEmpty=false:=by simpa using hse
  have v1:(!s.toList.isEmpty)=true:=by rw [v0];rfl
  clear hse
  have e:ownE 2 n 0 s nl ne=10:=by simp [ownE,kindBad,nan0,v0]
  go_enter Tryz.func50,Tryz.ntmps50
  go_wp2_with fail
  go_quiet (fail)
  go_wp2_with fail
  try go_ret
  exact ⟨by rw [e];rfl,((Below.refl _ w).alloc (Nat.le_refl _) _).trans (Gx.drewN_below _ _ _)⟩
 obtain rfl:=empty_of hse
 clear hse hs
 by_cases hnl:nl=0
 rotate_left
 ·have v2:0<nl:=by omega
  clear hnl
  have e:ownE 2 n 0 ⟨#[]⟩ nl ne=10:=by simp [ownE,kindBad,nan0,empty_bad,empty_size,v2]
  go_enter Tryz.func50,Tryz.ntmps50
  go_wp2_with fail
  go_quiet (fail)
  go_wp2_with fail
  try go_ret
  exact ⟨by rw [e];rfl,((Below.refl _ w).alloc (Nat.le_refl _) _).trans (Gx.drewN_below _ _ _)⟩
 subst hnl
 clear hl
 by_cases hne:ne=0
 rotate_left
 ·have v3:0<ne:=by omega
  clear hne
  have e:ownE 2 n 0 ⟨#[]⟩ 0 ne=10:=by simp [ownE,kindBad,nan0,empty_bad,empty_size,v3]
  go_enter Tryz.func50,Tryz.ntmps50
  go_wp2_with fail
  go_quiet (fail)
  go_wp2_with fail
  try go_ret
  exact ⟨by rw [e];rfl,((Below.refl _ w).alloc (Nat.le_refl _) _).trans (Gx.drewN_below _ _ _)⟩
 subst hne
 clear he
 have hTT:∀ nq,Tabs ((w.alloc (.cells #[.int .i64 2,.int .i64 n,.int .u64 0,.string ⟨#[]⟩,.slice ad 0 cl,.slice bd 0 ce] 26)).drewN nq):=fun nq=>hT.keep (((Below.refl _ w).alloc (Nat.le_refl _) _).trans (Gx.drewN_below _ nq _))
 have HTT:=Lib.hid hTT
 clear hTT hT
 go_enter Tryz.func50,Tryz.ntmps50
 go_wp2_with fail
 go_quiet (fail)
 go_wp2_with fail
 refine (bad_any ⟨#[]⟩ _ (HTT.out nq) (by first|omega|decide)).mono ?_
 rintro e w2 ⟨b,rfl,hb,hbw⟩
 have HBW:=Lib.hid (Below.trans (((Below.refl w.heap.size w).alloc (Nat.le_refl _) _).trans (Gx.drewN_below _ nq _)) (hbw.mono (by simp)))
 clear hbw
 by_cases hok:okText (ByteArray.mk #[]).data.toList
 ·have hlt:=hb.2 hok
  have e:ownE 2 n 0 ⟨#[]⟩ 0 0=0:=by simp [ownE,kindBad,hok,nan0,empty_bad,empty_size]
  have t1:decide (0<=b)=false:=decide_eq_false (by omega)
  clear hb hok
  go_wp2_with fail
  try go_ret
  exact ⟨by rw [e];rfl,HBW.out⟩
 ·have hlt:0<=b:=Int.not_lt.1 (fun h=>hok (hb.1 h))
  have e:ownE 2 n 0 ⟨#[]⟩ 0 0=3:=by simp [ownE,kindBad,hok,nan0,empty_bad,empty_size]
  have t1:decide (0<=b)=true:=decide_eq_true hlt
  clear hb hok
  go_wp2_with fail
  try go_ret
  exact ⟨by rw [e];rfl,HBW.out⟩
set_option maxHeartbeats 8000000 in
theorem own_5 (n f:Int) (s:ByteArray) (ad bd:Option Addr) (nl ne cl ce:Nat) (w:World) (a:Int) (h0:0<=a) (h1:a<20) (hf0:0<=f) (hf1:f<=18446744073709551615) (hl:nl<=1000000000000000) (he:ne<=1000000000000000) (hs:s.size<=1000000000000000) (hT:Tabs w) :
 Calls Tryz.prog 50 #[.agg #[.int .i64 5,.int .i64 n,.int .u64 f,.string s,.slice ad nl cl,.slice bd ne ce],.int .i64 a] w (OwnPost (ownE 5 n f s nl ne) w):=by
 have t20:decide (20<=a)=false:=decide_eq_false (by omega)
 by_cases hn:n=0
 rotate_left
 ·have u0:(n != 0)=true:=by simpa using hn
  clear hn
  have e:ownE 5 n f s nl ne=10:=by simp [ownE,kindBad,u0]
  go_enter Tryz.func50,Tryz.ntmps50
  go_wp2_with fail
  go_quiet (fail)
  go_wp2_with fail
  try go_ret
  exact ⟨by rw [e];rfl,((Below.refl _ w).alloc (Nat.le_refl _) _).trans (Gx.drewN_below _ _ _)⟩
 subst hn
 by_cases hf:f=0
 rotate_left
 ·have u2:(f != 0)=true:=by simpa using hf
  clear hf
  have e:ownE 5 0 f s nl ne=10:=by simp [ownE,kindBad,u2]
  go_enter Tryz.func50,Tryz.ntmps50
  go_wp2_with fail
  go_quiet (fail)
  go_wp2_with fail
  try go_ret
  exact ⟨by rw [e];rfl,((Below.refl _ w).alloc (Nat.le_refl _) _).trans (Gx.drewN_below _ _ _)⟩
 subst hf
 clear hf0 hf1
 by_cases hse:s.toList.isEmpty=true
 rotate_left
 ·have v0:s.toList.isEmpty=false:=by simpa using hse
  have v1:(!s.toList.isEmpty)=true:=by rw [v0];rfl
  clear hse
  have e:ownE 5 0 0 s nl ne=10:=by simp [ownE,kindBad,nan0,v0]
  go_enter Tryz.func50,Tryz.ntmps50
  go_wp2_with fail
  go_quiet (fail)
  go_wp2_with fail
  try go_ret
  exact ⟨by rw [e];rfl,((Below.refl _ w).alloc (Nat.le_refl _) _).trans (Gx.drewN_below _ _ _)⟩
 obtain rfl:=empty_of hse
 clear hse hs
 by_cases hne:ne=0
 rotate_left
 ·have v3:0<ne:=by omega
  clear hne
  have e:ownE 5 0 0 ⟨#[]⟩ nl ne=10:=by simp [ownE,kindBad,nan0,empty_bad,empty_size,v3]
  go_enter Tryz.func50,Tryz.ntmps50
  go_wp2_with fail
  go_quiet (fail)
  go_wp2_with fail
  try go_ret
  exact ⟨by rw [e];rfl,((Below.refl _ w).alloc (Nat.le_refl _) _).trans (Gx.drewN_below _ _ _)⟩
 subst hne
 clear he
 by_cases hbig:200<nl
 ·have v4:decide ((200:Int)<(nl:Int))=true:=decide_eq_true (by omega)
  have e:ownE 5 0 0 ⟨#[]⟩ nl 0=2:=by simp [ownE,kindBad,nan0,empty_bad,empty_size,hbig]
  go_enter Tryz.func50,Tryz.ntmps50
  go_wp2_with fail
  go_quiet (fail)
  go_wp2_with fail
  try go_ret
  exact ⟨by rw [e];rfl,((Below.refl _ w).alloc (Nat.le_refl _) _).trans (Gx.drewN_below _ _ _)⟩
 have v4:decide ((200:Int)<(nl:Int))=false:=decide_eq_false (by omega)
 have hTT:∀ nq,Tabs ((w.alloc (.cells #[.int .i64 5,.int .i64 0,.int .u64 0,.string ⟨#[]⟩,.slice ad nl cl,.slice bd 0 ce] 26)).drewN nq):=fun nq=>hT.keep (((Below.refl _ w).alloc (Nat.le_refl _) _).trans (Gx.drewN_below _ nq _))
 have HTT:=Lib.hid hTT
 clear hTT hT
 go_enter Tryz.func50,Tryz.ntmps50
 go_wp2_with fail
 go_quiet (fail)
 go_wp2_with fail
 refine (bad_any ⟨#[]⟩ _ (HTT.out nq) (by first|omega|decide)).mono ?_
 rintro e w2 ⟨b,rfl,hb,hbw⟩
 have HBW:=Lib.hid (Below.trans (((Below.refl w.heap.size w).alloc (Nat.le_refl _) _).trans (Gx.drewN_below _ nq _)) (hbw.mono (by simp)))
 clear hbw
 by_cases hok:okText (ByteArray.mk #[]).data.toList
 ·have hlt:=hb.2 hok
  have e:ownE 5 0 0 ⟨#[]⟩ nl 0=0:=by simp [ownE,kindBad,hok,nan0,empty_bad,empty_size,hbig]
  have t1:decide (0<=b)=false:=decide_eq_false (by omega)
  clear hb hok
  go_wp2_with fail
  try go_ret
  exact ⟨by rw [e];rfl,HBW.out⟩
 ·have hlt:0<=b:=Int.not_lt.1 (fun h=>hok (hb.1 h))
  have e:ownE 5 0 0 ⟨#[]⟩ nl 0=3:=by simp [ownE,kindBad,hok,nan0,empty_bad,empty_size,hbig]
  have t1:decide (0<=b)=true:=decide_eq_true hlt
  clear hb hok
  go_wp2_with fail
  try go_ret
  exact ⟨by rw [e];rfl,HBW.out⟩
set_option maxHeartbeats 8000000 in
theorem own_6 (n f:Int) (s:ByteArray) (ad bd:Option Addr) (nl ne cl ce:Nat) (w:World) (a:Int) (h0:0<=a) (h1:a<20) (hf0:0<=f) (hf1:f<=18446744073709551615) (hl:nl<=1000000000000000) (he:ne<=1000000000000000) (hs:s.size<=1000000000000000) (hT:Tabs w) :
 Calls Tryz.prog 50 #[.agg #[.int .i64 6,.int .i64 n,.int .u64 f,.string s,.slice ad nl cl,.slice bd ne ce],.int .i64 a] w (OwnPost (ownE 6 n f s nl ne) w):=by
 have t20:decide (20<=a)=false:=decide_eq_false (by omega)
 by_cases hn:n=0
 rotate_left
 ·have u0:(n != 0)=true:=by simpa using hn
  clear hn
  have e:ownE 6 n f s nl ne=10:=by simp [ownE,kindBad,u0]
  go_enter Tryz.func50,Tryz.ntmps50
  go_wp2_with fail
  go_quiet (fail)
  go_wp2_with fail
  try go_ret
  exact ⟨by rw [e];rfl,((Below.refl _ w).alloc (Nat.le_refl _) _).trans (Gx.drewN_below _ _ _)⟩
 subst hn
 by_cases hf:f=0
 rotate_left
 ·have u2:(f != 0)=true:=by simpa using hf
  clear hf
  have e:ownE 6 0 f s nl ne=10:=by simp [ownE,kindBad,u2]
  go_enter Tryz.func50,Tryz.ntmps50
  go_wp2_with fail
  go_quiet (fail)
  go_wp2_with fail
  try go_ret
  exact ⟨by rw [e];rfl,((Below.refl _ w).alloc (Nat.le_refl _) _).trans (Gx.drewN_below _ _ _)⟩
 subst hf
 clear hf0 hf1
 by_cases hse:s.toList.isEmpty=true
 rotate_left
 ·have v0:s.toList.isEmpty=false:=by simpa using hse
  have v1:(!s.toList.isEmpty)=true:=by rw [v0];rfl
  clear hse
  have e:ownE 6 0 0 s nl ne=10:=by simp [ownE,kindBad,nan0,v0]
  go_enter Tryz.func50,Tryz.ntmps50
  go_wp2_with fail
  go_quiet (fail)
  go_wp2_with fail
  try go_ret
  exact ⟨by rw [e];rfl,((Below.refl _ w).alloc (Nat.le_refl _) _).trans (Gx.drewN_below _ _ _)⟩
 obtain rfl:=empty_of hse
 clear hse hs
 by_cases hnl:nl=0
 rotate_left
 ·have v2:0<nl:=by omega
  clear hnl
  have e:ownE 6 0 0 ⟨#[]⟩ nl ne=10:=by simp [ownE,kindBad,nan0,empty_bad,empty_size,v2]
  go_enter Tryz.func50,Tryz.ntmps50
  go_wp2_with fail
  go_quiet (fail)
  go_wp2_with fail
  try go_ret
  exact ⟨by rw [e];rfl,((Below.refl _ w).alloc (Nat.le_refl _) _).trans (Gx.drewN_below _ _ _)⟩
 subst hnl
 clear hl
 by_cases hbig:200<ne
 ·have v4:decide ((200:Int)<(ne:Int))=true:=decide_eq_true (by omega)
  have e:ownE 6 0 0 ⟨#[]⟩ 0 ne=2:=by simp [ownE,kindBad,nan0,empty_bad,empty_size,hbig]
  go_enter Tryz.func50,Tryz.ntmps50
  go_wp2_with fail
  go_quiet (fail)
  go_wp2_with fail
  try go_ret
  exact ⟨by rw [e];rfl,((Below.refl _ w).alloc (Nat.le_refl _) _).trans (Gx.drewN_below _ _ _)⟩
 have v4:decide ((200:Int)<(ne:Int))=false:=decide_eq_false (by omega)
 have hTT:∀ nq,Tabs ((w.alloc (.cells #[.int .i64 6,.int .i64 0,.int .u64 0,.string ⟨#[]⟩,.slice ad 0 cl,.slice bd ne ce] 26)).drewN nq):=fun nq=>hT.keep (((Below.refl _ w).alloc (Nat.le_refl _) _).trans (Gx.drewN_below _ nq _))
 have HTT:=Lib.hid hTT
 clear hTT hT
 go_enter Tryz.func50,Tryz.ntmps50
 go_wp2_with fail
 go_quiet (fail)
 go_wp2_with fail
 refine (bad_any ⟨#[]⟩ _ (HTT.out nq) (by first|omega|decide)).mono ?_
 rintro e w2 ⟨b,rfl,hb,hbw⟩
 have HBW:=Lib.hid (Below.trans (((Below.refl w.heap.size w).alloc (Nat.le_refl _) _).trans (Gx.drewN_below _ nq _)) (hbw.mono (by simp)))
 clear hbw
 by_cases hok:okText (ByteArray.mk #[]).data.toList
 ·have hlt:=hb.2 hok
  have e:ownE 6 0 0 ⟨#[]⟩ 0 ne=0:=by simp [ownE,kindBad,hok,nan0,empty_bad,empty_size,hbig]
  have t1:decide (0<=b)=false:=decide_eq_false (by omega)
  clear hb hok
  go_wp2_with fail
  try go_ret
  exact ⟨by rw [e];rfl,HBW.out⟩
 ·have hlt:0<=b:=Int.not_lt.1 (fun h=>hok (hb.1 h))
  have e:ownE 6 0 0 ⟨#[]⟩ 0 ne=3:=by simp [ownE,kindBad,hok,nan0,empty_bad,empty_size,hbig]
  have t1:decide (0<=b)=true:=decide_eq_true hlt
  clear hb hok
  go_wp2_with fail
  try go_ret
  exact ⟨by rw [e];rfl,HBW.out⟩
set_option maxRecDepth 100000
set_option maxHeartbeats 2000000 in
theorem own_deep (k n f:Int) (s:ByteArray) (ad bd:Option Addr) (nl ne cl ce:Nat) (w:World) (a:Int) (h1:20<=a) :
 Calls Tryz.prog 50 #[.agg #[.int .i64 k,.int .i64 n,.int .u64 f,.string s,.slice ad nl cl,.slice bd ne ce],.int .i64 a] w (OwnPost 5 w):=by
 have t20:decide (20<=a)=true:=decide_eq_true h1
 go_enter Tryz.func50,Tryz.ntmps50
 go_wp2_with fail
 try go_ret
 exact ⟨rfl,(Below.refl _ w).alloc (Nat.le_refl _) _⟩
set_option maxHeartbeats 2000000 in
theorem own_out (k n f:Int) (s:ByteArray) (ad bd:Option Addr) (nl ne cl ce:Nat) (w:World) (a:Int) (h0:0<=a) (h1:a<20) (hf0:0<=f) (hf1:f<=18446744073709551615) (hk:k<0\/6<k) :
 Calls Tryz.prog 50 #[.agg #[.int .i64 k,.int .i64 n,.int .u64 f,.string s,.slice ad nl cl,.slice bd ne ce],.int .i64 a] w (OwnPost (ownE k n f s nl ne) w):=by
 have t20:decide (20<=a)=false:=decide_eq_false (by omega)
 have k1:(k==1)=false:=by simp;omega
 have k2:(k==2)=false:=by simp;omega
 rcases hk with hk|hk
 ·have u0:decide (k<0)=true:=decide_eq_true hk
  have e:ownE k n f s nl ne=10:=by simp [ownE,kindBad,u0,hk]
  go_enter Tryz.func50,Tryz.ntmps50
  go_wp2_with fail
  go_quiet (fail)
  go_wp2_with fail
  try go_ret
  exact ⟨by rw [e];rfl,((Below.refl _ w).alloc (Nat.le_refl _) _).trans (Gx.drewN_below _ _ _)⟩
 ·have u0:decide (k<0)=false:=decide_eq_false (by omega)
  have u1:decide (6<k)=true:=decide_eq_true hk
  have e:ownE k n f s nl ne=10:=by simp [ownE,kindBad,u0,hk]
  go_enter Tryz.func50,Tryz.ntmps50
  go_wp2_with fail
  go_quiet (fail)
  go_wp2_with fail
  try go_ret
  exact ⟨by rw [e];rfl,((Below.refl _ w).alloc (Nat.le_refl _) _).trans (Gx.drewN_below _ _ _)⟩
theorem own_all (k n f:Int) (s:ByteArray) (ad bd:Option Addr) (nl ne cl ce:Nat) (w:World) (a:Int) (h0:0<=a) (h1:a<20) (hf0:0<=f) (hf1:f<=18446744073709551615) (hl:nl<=1000000000000000) (he:ne<=1000000000000000) (hs:s.size<=1000000000000000) (hT:Tabs w) :
 Calls Tryz.prog 50 #[.agg #[.int .i64 k,.int .i64 n,.int .u64 f,.string s,.slice ad nl cl,.slice bd ne ce],.int .i64 a] w (OwnPost (ownE k n f s nl ne) w):=by
 by_cases hk:k<0\/6<k
 ·exact own_out k n f s ad bd nl ne cl ce w a h0 h1 hf0 hf1 hk
 have:k=0\/k=1\/k=2\/k=3\/k=4\/k=5\/k=6:=by omega
 rcases this with rfl|rfl|rfl|rfl|rfl|rfl|rfl
 ·exact own_0 n f s ad bd nl ne cl ce w a h0 h1 hf0 hf1 hl he hs hT
 ·exact own_1 n f s ad bd nl ne cl ce w a h0 h1 hf0 hf1 hl he hs hT
 ·exact own_2 n f s ad bd nl ne cl ce w a h0 h1 hf0 hf1 hl he hs hT
 ·exact own_3 n f s ad bd nl ne cl ce w a h0 h1 hf0 hf1 hl he hs hT
 ·exact own_4 n f s ad bd nl ne cl ce w a h0 h1 hf0 hf1 hl he hs hT
 ·exact own_5 n f s ad bd nl ne cl ce w a h0 h1 hf0 hf1 hl he hs hT
 ·exact own_6 n f s ad bd nl ne cl ce w a h0 h1 hf0 hf1 hl he hs hT
end Go.Proofs.YtldhmfkojaekfaaGreatDoor
namespace Go.Proofs.YtldhmfkojaekfaaGreatDoor
open Go.RowKit Go.Shelf Gx
attribute [local go_sem] Oper.semAt_some
set_option maxRecDepth 100000
theorem take_succ' {α:Type} {l:List α} {k:Nat} {x:α} (h:l[k]?=some x):l.take (k+1)=l.take k++[x]:=by
 obtain ⟨hl,rfl⟩:=List.getElem?_eq_some_iff.1 h
 exact List.take_succ_eq_append_getElem hl
def ItPost {α:Type} (xs:List α) (J Jx:List α->World->Prop) (e:Ending) (w':World):Prop :=
 (∃ v,e=.returned v)/\((∃ ys,ys=xs/\J ys w')\/(∃ pre,pre <+: xs/\Jx pre w'))
set_option maxHeartbeats 4000000 in
theorem parts1_in (n:Nat) (hn:1<=n) (l Bn n₀ M:Nat) (w0:World) (q:Loc) (ls es:List (LocAt w0 n₀ M)) (hBn:Bw n₀ M Bn)
 (hls:LsAt w0 n₀ M q ls) (hes:EsAt w0 n₀ M q es) (hlb:ls.length<=1000000000000000) (heb:es.length<=1000000000000000)
 (J Jx:List (LocAt w0 n₀ M)->World->Prop) (W:World) (hW:KeM n₀ M w0 W) (hJ:AbidesFrom W.heap.size J)
 (hY:∀ pre x W,J pre W->pre.length<ls.length+es.length->YieldAt Fence.wide (n - 1) Tryz.prog l #[x.1.val] W fun e W' =>
   (e=.returned (.bool true)/\J (pre++[x]) W'/\KeM n₀ M W W')\/(e=.returned (.bool false)/\Jx (pre++[x]) W'))
 (hb:W.heap[Bn]?=some (.cells #[.int .i64 q.v.k,.int .i64 q.v.n,.int .u64 q.v.f,.string q.v.s,.slice q.ad q.v.l.length q.cap,.slice q.bd q.v.e.length q.dap] 26)) (h0:J [] W) :
 CallsIn Fence.wide n Tryz.prog 55 #[.func (.yield l) #[] #[],.pointer (some ⟨Bn,0,none⟩)] W (ItPost (ls++es) J Jx):=by
 unfold Loc.val at hY
 have hBl:Bn<W.heap.size:=(Array.getElem?_eq_some_iff.1 hb).1
 have c4:W.cell? ⟨Bn,4,none⟩=some (.slice q.ad ls.length q.cap):=by rw [hls.len];simp [World.cell?,hb]
 have c5:∀ w,KeM n₀ M W w->w.cell? ⟨Bn,5,none⟩=some (.slice q.bd es.length q.dap):=fun w hk=>(hk.cell hBn hBl).trans (by rw [hes.len];simp [World.cell?,hb])
 have hls:=hls.2
 have hes:=hes.2
 obtain ⟨v,ad,cap,bd,dap⟩:=q
 simp only at c4 c5 hls hes
 have C5:=Lib.hid c5
 have HJ:=Lib.hid hJ
 have HY:=Lib.hid hY
 have HLS:=Lib.hid hls
 have HES:=Lib.hid hes
 have HW:=Lib.hid hW
 have H0:=Lib.hid h0
 obtain ⟨nl,hnl⟩:∃ nl,ls.length=nl:=⟨_,rfl⟩
 obtain ⟨ne,hne⟩:∃ ne,es.length=ne:=⟨_,rfl⟩
 rw [hnl] at c4 hlb
 rw [hne] at C5 heb
 have HNL:=Lib.hid hnl
 have HNE:=Lib.hid hne
 clear hb c5 hJ hY hls hes hW h0 hnl hne
 refine callsIn_of_wp Tryz.func55 rfl trivial ?_ rfl
 simp only [Tryz.ntmps55,List.size_toArray,List.length_cons,List.length_nil,Nat.reduceAdd,Nat.reduceSub,Array.replicate_succ,Array.replicate_zero,List.push_toArray,List.append_toArray,List.nil_append,List.cons_append]
 gi_wp2
 gi_loopw [10] (fun i wr=>∃ k:Nat,k<=nl/\i=.int .i64 k/\Hid (J (ls.take k) wr)/\Hid (KeM n₀ M W wr))
  (fun i _=>nl - (intOf i).toNat)
 case atStart=>exact ⟨0,Nat.zero_le _,rfl,H0,Lib.hid (KeM.refl _ _ _)⟩
 case round =>
  obtain ⟨k,hk,rfl,hJs,hke⟩:=hrel
  by_cases hlt:k<nl
  ·obtain ⟨x,hx⟩:∃ x,ls[k]?=some x:=⟨_,List.getElem?_eq_getElem (by rw [HNL.out];exact hlt)⟩
   obtain ⟨b,off,rfl,hbb,hbl,g0,g1,g2,g3,g4,g5⟩:=HLS.out k x hx
   have hkk:=HW.out.trans hke.out
   have q0:=(hkk.cell hbb hbl).trans g0
   have q1:=(hkk.cell hbb hbl).trans g1
   have q2:=(hkk.cell hbb hbl).trans g2
   have q3:=(hkk.cell hbb hbl).trans g3
   have q4:=(hkk.cell hbb hbl).trans g4
   have q5:=(hkk.cell hbb hbl).trans g5
   clear g0 g1 g2 g3 g4 g5 hkk
   have hJ2:J (ls.take k) (wr.alloc (.cells #[.int .i64 x.1.v.k,.int .i64 x.1.v.n,.int .u64 x.1.v.f,.string x.1.v.s,.slice x.1.ad x.1.v.l.length x.1.cap,.slice x.1.bd x.1.v.e.length x.1.dap] 26)):=HJ.out _ _ _ none hJs.out (World.grownBy_alloc _ _ none) (fun r e=>by cases e)
   have HX:=Lib.hid hx
   obtain ⟨fn,tmps,assign,body,hy,hR⟩:=HY.out _ x _ hJ2 (by rw [List.length_take,HNL.out];omega)
   have HR:=Lib.hid hR
   clear hx hJ2 hR
   gi_wp2
   refine HR.out.mono ?_
   rintro e W3 (⟨rfl,hJ3,hk3⟩|⟨rfl,hJx3⟩)
   ·have hke3:=(hke.out.trans (KeM.alloc n₀ M wr _)).trans hk3
    have HJ3:=Lib.hid hJ3
    have HKE3:=Lib.hid hke3
    clear hJ3 hke3 hk3
    gi_wp2
    go_roundw
    case rel=>exact ⟨k+1,by omega,by go_num,by rw [take_succ' HX.out];exact HJ3,HKE3⟩
    case measure=>simp [intOf];omega
   ·have HJX:=Lib.hid hJx3
    clear hJx3
    gi_wp2
    refine bodyPost_ret (results_none rfl _ _ _) rfl ?_
    exact ⟨⟨_,rfl⟩,.inr ⟨_,(by rw [<-take_succ' HX.out];exact (List.take_prefix _ _).trans (List.prefix_append _ _)),HJX.out⟩⟩
  ·obtain rfl:k=nl:=by omega
   have hJ1:J ls wr:=by have:=hJs.out;rwa [List.take_of_length_le (by rw [HNL.out];exact Nat.le_refl _)] at this
   have HJ1:=Lib.hid hJ1
   have c5:=C5.out wr hke.out
   clear hJ1 hJs hk hlt
   obtain ⟨wo,hwo⟩:∃ wo:World,wo=wr:=⟨_,rfl⟩
   rw [<-hwo] at hke HJ1 c5 ⊢
   clear hwo wr
   gi_wp2
   gi_loopw [22] (fun i wr=>∃ j:Nat,j<=ne/\i=.int .i64 j/\Hid (J (ls++es.take j) wr)/\Hid (KeM n₀ M wo wr))
    (fun i _=>ne - (intOf i).toNat)
   case atStart=>exact ⟨0,Nat.zero_le _,rfl,(by rw [List.take_zero,List.append_nil];exact HJ1),Lib.hid (KeM.refl _ _ _)⟩
   case round =>
    obtain ⟨j,hj,rfl,hJs,hke2⟩:=hrel
    by_cases hlt:j<ne
    ·obtain ⟨x,hx⟩:∃ x,es[j]?=some x:=⟨_,List.getElem?_eq_getElem (by rw [HNE.out];exact hlt)⟩
     obtain ⟨b,off,key,rfl,hbb,hbl,gk,gs⟩:=HES.out j x hx
     obtain ⟨g0,g1,g2,g3,g4,g5⟩:=gs.seven
     have hkk:=(HW.out.trans hke.out).trans hke2.out
     have qk:=(hkk.cell hbb hbl).trans gk
     have q0:=(hkk.cell hbb hbl).trans g0
     have q1:=(hkk.cell hbb hbl).trans g1
     have q2:=(hkk.cell hbb hbl).trans g2
     have q3:=(hkk.cell hbb hbl).trans g3
     have q4:=(hkk.cell hbb hbl).trans g4
     have q5:=(hkk.cell hbb hbl).trans g5
     clear gk gs g0 g1 g2 g3 g4 g5 hkk c5
     have hJ2:J (ls++es.take j) (wr.alloc (.cells #[.string key,.int .i64 x.1.v.k,.int .i64 x.1.v.n,.int .u64 x.1.v.f,.string x.1.v.s,.slice x.1.ad x.1.v.l.length x.1.cap,.slice x.1.bd x.1.v.e.length x.1.dap] 44)):=HJ.out _ _ _ none hJs.out (World.grownBy_alloc _ _ none) (fun r e=>by cases e)
     have HX:=Lib.hid hx
     obtain ⟨fn,tmps,assign,body,hy,hR⟩:=HY.out _ x _ hJ2 (by rw [List.length_append,List.length_take,HNL.out,HNE.out];omega)
     have HR:=Lib.hid hR
     clear hx hJ2 hR
     gi_wp2
     refine HR.out.mono ?_
     rintro e W3 (⟨rfl,hJ3,hk3⟩|⟨rfl,hJx3⟩)
     ·have hke3:=(hke2.out.trans (KeM.alloc n₀ M wr _)).trans hk3
      have HJ3:=Lib.hid hJ3
      have HKE3:=Lib.hid hke3
      clear hJ3 hke3 hk3
      gi_wp2
      go_roundw
      case rel=>exact ⟨j+1,by omega,by go_num,by rw [take_succ' HX.out,<-List.append_assoc];exact HJ3,HKE3⟩
      case measure=>simp [intOf];omega
     ·have HJX:=Lib.hid hJx3
      clear hJx3
      gi_wp2
      refine bodyPost_ret (results_none rfl _ _ _) rfl ?_
      exact ⟨⟨_,rfl⟩,.inr ⟨_,(by rw [List.append_assoc,<-take_succ' HX.out];exact List.prefix_append_right_inj _ |>.2 (List.take_prefix _ _)),HJX.out⟩⟩
    ·obtain rfl:j=ne:=by omega
     have hJ4:J (ls++es) wr:=by have:=hJs.out;rwa [List.take_of_length_le (by rw [HNE.out];exact Nat.le_refl _)] at this
     have HJ4:=Lib.hid hJ4
     clear hJ4 hJs c5
     gi_wp2
     go_end0
     exact ⟨⟨_,rfl⟩,.inl ⟨_,rfl,HJ4.out⟩⟩
end Go.Proofs.YtldhmfkojaekfaaGreatDoor
