/-
  Lemmas for the statement: plain laws, and what functions answer; the conditions stand in each.
-/
import Derived.Deep.DeepCutAuto
import Derived.Deep.CutBlock
import Derived.Deep.DeepFit
import Derived.Outline
import Derived.WalkLawsBesides
import Derived.StillTailTactics
import Derived.Deep.RegionHeld3
import Derived.Stop.RegionWithIn
import Derived.BigRegionIn
import Derived.Test.YtldhmfkojaekfaaGreatDoorMeanTwiceAllPartS
set_option linter.unusedVariables false
set_option linter.unusedSimpArgs false
namespace Go.Proofs.YtldhmfkojaekfaaGreatDoor
open Go.RowKit Gx
set_option maxRecDepth 100000
def fbits (f:Int):Int:=if f<9223372036854775808 then f+9223372036854775808 else 18446744073709551615 - f
def sgn (x y:Int):Int:=if x<y then -1 else if y<x then 1 else 0
def sgnB (a b:ByteArray):Int:=if Op.bytesLess a.toList b.toList then -1 else if (Op.bytesLess a.toList b.toList || a.toList==b.toList) then 0 else 1
def CmpPost (c:Int) (w:World) (e:Ending) (w':World):Prop:=e=.returned (.int .i64 c)/\w=w'
def RankPost (n:Int) (w:World) (e:Ending) (w':World):Prop:=e=.returned (.int .u64 n)/\w=w'
def orL:List Int->Int
 | []=>0
 | x::xs=>if x≠0 then x else orL xs
set_option maxRecDepth 100000
def cmpL {α:Type} (f:α->α->Int):List α->List α->Int
 | [],[]=>0
 | [],_::_=>-1
 | _::_,[]=>1
 | x::xs,y::ys=>if f x y≠0 then f x y else cmpL f xs ys
def IntPost (c:Int) (w:World) (e:Ending) (w':World):Prop:=e=.returned (.int .i64 c)/\Below w.heap.size w w'
set_option maxRecDepth 100000
structure SevAt (w:World) (b:Nat) (key:ByteArray) (q:Loc):Prop where
 k:w.cell? ⟨b,0,none⟩=some (.string key)
 c0:w.cell? ⟨b,1,none⟩=some (.int .i64 q.v.k)
 c1:w.cell? ⟨b,2,none⟩=some (.int .i64 q.v.n)
 c2:w.cell? ⟨b,3,none⟩=some (.int .u64 q.v.f)
 c3:w.cell? ⟨b,4,none⟩=some (.string q.v.s)
 c4:w.cell? ⟨b,5,none⟩=some (.slice q.ad q.v.l.length q.cap)
 c5:w.cell? ⟨b,6,none⟩=some (.slice q.bd q.v.e.length q.dap)
theorem SevAt.box {w:World} {b:Nat} {key:ByteArray} {q:Loc} {ty:TypeId} (h:w.heap[b]?=some (.cells #[.string key,.int .i64 q.v.k,.int .i64 q.v.n,.int .u64 q.v.f,.string q.v.s,.slice q.ad q.v.l.length q.cap,.slice q.bd q.v.e.length q.dap] ty)):SevAt w b key q:=by
 constructor<;>simp [World.cell?,h]
theorem SevAt.through {w w':World} {b:Nat} {key:ByteArray} {q:Loc} (h:SevAt w b key q) (hb:w'.heap[b]?=w.heap[b]?):SevAt w' b key q:=by
 have hq:∀ o,w'.cell? ⟨b,o,none⟩=w.cell? ⟨b,o,none⟩:=fun o=>World.cell?_of_block hb
 exact ⟨(hq _).trans h.k,(hq _).trans h.c0,(hq _).trans h.c1,(hq _).trans h.c2,(hq _).trans h.c3,(hq _).trans h.c4,(hq _).trans h.c5⟩
set_option maxRecDepth 100000
def cmpEn (f:V->V->Int) (x y:ByteArray×V):Int:=orL [sgnB x.1 y.1,f x.2 y.2]
def cmpD:Nat->V->V->Int
 | 0,_,_=>0
 | n+1,v,u=>orL [sgn v.k u.k,sgn v.n u.n,sgn (fbits v.f) (fbits u.f),sgnB v.s u.s,cmpL (cmpD n) v.l u.l,cmpL (cmpEn (cmpD n)) v.e u.e]
structure TwoE (w:World) (x y:ByteArray) (q p:Loc) (W:World):Prop where
 a:SevAt W w.heap.size x q
 b:SevAt W (w.heap.size+1) y p
 g:Below w.heap.size w W
 s:w.heap.size+2<=W.heap.size
theorem TwoE.start (x y:ByteArray) (q p:Loc) (w:World):TwoE w x y q p ((w.alloc (.cells #[.string x,.int .i64 q.v.k,.int .i64 q.v.n,.int .u64 q.v.f,.string q.v.s,.slice q.ad q.v.l.length q.cap,.slice q.bd q.v.e.length q.dap] 44)).alloc
 (.cells #[.string y,.int .i64 p.v.k,.int .i64 p.v.n,.int .u64 p.v.f,.string p.v.s,.slice p.ad p.v.l.length p.cap,.slice p.bd p.v.e.length p.dap] 44)):=by
 refine ⟨?_,?_,((Below.refl _ w).alloc (Nat.le_refl _) _).alloc (by simp) _,by simp⟩
 ·refine SevAt.box (ty:=44) ?_
  rw [Below.heap_alloc _ _ _ (by simp)]
  exact heap_alloc_new w _
 ·refine SevAt.box (ty:=44) ?_
  have:=heap_alloc_new (w.alloc (.cells #[.string x,.int .i64 q.v.k,.int .i64 q.v.n,.int .u64 q.v.f,.string q.v.s,.slice q.ad q.v.l.length q.cap,.slice q.bd q.v.e.length q.dap] 44)) (.cells #[.string y,.int .i64 p.v.k,.int .i64 p.v.n,.int .u64 p.v.f,.string p.v.s,.slice p.ad p.v.l.length p.cap,.slice p.bd p.v.e.length p.dap] 44)
  rwa [World.size_alloc] at this
theorem TwoE.keep {w:World} {x y:ByteArray} {q p:Loc} {W W':World} (h:TwoE w x y q p W) (hb:Below W.heap.size W W'):TwoE w x y q p W':=by
 have hs:=h.s
 exact ⟨h.a.through (hb.block _ (by omega)),h.b.through (hb.block _ (by omega)),h.g.trans (hb.mono h.g.size),by have:=hb.size;omega⟩
def SevTwo (w:World) (a b:Nat) (x y:ByteArray) (q p:Loc):Prop :=
 w.cell? ⟨a,0,none⟩=some (.string x)/\w.cell? ⟨a,1,none⟩=some (.int .i64 q.v.k)/\w.cell? ⟨a,2,none⟩=some (.int .i64 q.v.n)/\w.cell? ⟨a,3,none⟩=some (.int .u64 q.v.f)/\w.cell? ⟨a,4,none⟩=some (.string q.v.s)/\w.cell? ⟨a,5,none⟩=some (.slice q.ad q.v.l.length q.cap)/\w.cell? ⟨a,6,none⟩=some (.slice q.bd q.v.e.length q.dap)/\w.cell? ⟨b,0,none⟩=some (.string y)/\w.cell? ⟨b,1,none⟩=some (.int .i64 p.v.k)/\w.cell? ⟨b,2,none⟩=some (.int .i64 p.v.n)/\w.cell? ⟨b,3,none⟩=some (.int .u64 p.v.f)/\w.cell? ⟨b,4,none⟩=some (.string p.v.s)/\w.cell? ⟨b,5,none⟩=some (.slice p.ad p.v.l.length p.cap)/\w.cell? ⟨b,6,none⟩=some (.slice p.bd p.v.e.length p.dap)
theorem TwoE.cells {w:World} {x y:ByteArray} {q p:Loc} {W:World} (h:TwoE w x y q p W):SevTwo W w.heap.size (w.heap.size+1) x y q p :=
 ⟨h.a.k,h.a.c0,h.a.c1,h.a.c2,h.a.c3,h.a.c4,h.a.c5,h.b.k,h.b.c0,h.b.c1,h.b.c2,h.b.c3,h.b.c4,h.b.c5⟩
def SixTwo (w:World) (a b:Nat) (q p:Loc):Prop :=
 w.cell? ⟨a,0,none⟩=some (.int .i64 q.v.k)/\w.cell? ⟨a,1,none⟩=some (.int .i64 q.v.n)/\w.cell? ⟨a,2,none⟩=some (.int .u64 q.v.f)/\w.cell? ⟨a,3,none⟩=some (.string q.v.s)/\w.cell? ⟨a,4,none⟩=some (.slice q.ad q.v.l.length q.cap)/\w.cell? ⟨a,5,none⟩=some (.slice q.bd q.v.e.length q.dap)/\w.cell? ⟨b,0,none⟩=some (.int .i64 p.v.k)/\w.cell? ⟨b,1,none⟩=some (.int .i64 p.v.n)/\w.cell? ⟨b,2,none⟩=some (.int .u64 p.v.f)/\w.cell? ⟨b,3,none⟩=some (.string p.v.s)/\w.cell? ⟨b,4,none⟩=some (.slice p.ad p.v.l.length p.cap)/\w.cell? ⟨b,5,none⟩=some (.slice p.bd p.v.e.length p.dap)
theorem Two.cells {w:World} {q p:Loc} {W:World} (h:Two w q p W):SixTwo W w.heap.size (w.heap.size+1) q p :=
 ⟨h.a.c0,h.a.c1,h.a.c2,h.a.c3,h.a.c4,h.a.c5,h.b.c0,h.b.c1,h.b.c2,h.b.c3,h.b.c4,h.b.c5⟩
inductive WfAll:V->Prop
 | mk (v:V) (h:v.wf) (hl:∀ x∈v.l,WfAll x) (he:∀ x∈v.e,WfAll x.2):WfAll v
theorem WfAll.own {v:V} (h:WfAll v):v.wf:=by cases h;assumption
theorem WfAll.l {v:V} (h:WfAll v):∀ x∈v.l,WfAll x:=by cases h;assumption
theorem WfAll.e {v:V} (h:WfAll v):∀ x∈v.e,WfAll x.2:=by cases h;assumption
theorem RowAt.wfAll {w:World} {B:Nat->Prop} {t:Bool} {xs:List (ByteArray×V)} {v:Value} (h:RowAt w B t xs v):∀ x∈xs,WfAll x.2:=by
 induction h with
 | nil=>intro x hx;cases hx
 | row t xs blk off cap sl se hne hn hB hlt hk hc hl he ihl ihe =>
   intro x hx
   obtain ⟨i,hi,rfl⟩:=List.getElem_of_mem hx
   have hi':xs[i]?=some xs[i]:=List.getElem?_eq_getElem hi
   refine .mk _ (hc i _ hi').1 (fun y hy=>?_) (fun y hy=>ihe i _ hi' y hy)
   exact ihl i _ hi' (⟨#[]⟩,y) (by simp [lp];exact hy)
theorem VAt.wfAll {w:World} {B:Nat->Prop} {q:Loc} (h:VAt w B q):WfAll q.v :=
 .mk _ h.wf (fun x hx=>h.l.wfAll (⟨#[]⟩,x) (by simp [lp];exact hx)) (fun x hx=>h.e.wfAll x hx)
def kbOf (t:Tk):Kb:=(t.1,t.2.2)
def kbs (l:List UInt8):List Kb:=kbX (treeX l) 0
theorem kbs_sol (l:List UInt8) (o:Nat):(solO l o).map kbOf=kbs l:=by
 unfold solO kbs kbX
 rw [List.map_map]
 rfl
theorem ok_G {l:List UInt8} {v:V} (hl:l.length<=20000):((parseS (treeX l)).bad=0/\meanN (treeX l) 21 (rootN l)=.ok v)↔G 20 (kbs l) v []:=by
 constructor
 ·rintro ⟨h1,h2⟩
  have h:=run_G (treeX_mark l) 20 ⟨0,0,0⟩ v (Nat.zero_le _) (parse_bad h1) h2
  have he:kbX (treeX l) (valueS (treeX l) 20 ⟨0,0,0⟩).1.i=[]:=by
   unfold parseS endS at h1
   split at h1
   ·exact (fail_not (by decide) h1).elim
   ·rename_i hn
    rcases skip_kb (treeX l) (valueS (treeX l) 20 ⟨0,0,0⟩).1 with ⟨-,g⟩|⟨g,-⟩
    ·exact g
    ·exact absurd g hn
  rw [he] at h
  exact h
 ·intro h
  have hT:(treeX l).T.length<=20000:=Nat.le_trans (toks_len l) hl
  obtain ⟨h1,h2,h3,h4,h5⟩:=G_run (treeX_mark l) (show (treeX l).T.length+2<=30000 by omega) 20 _ v [] ⟨0,0,0⟩ h rfl (Nat.zero_le _) rfl
  refine ⟨?_,h5⟩
  unfold parseS endS
  rcases skip_kb (treeX l) (valueS (treeX l) 20 ⟨0,0,0⟩).1 with ⟨g,-⟩|⟨-,-,g⟩
  ·rw [if_neg (by omega)];exact h1
  ·rw [h2] at g;cases g
theorem meanOk_iff {l:List UInt8} {v:V}:MeanOk l v↔l.length<=20000/\G 20 (kbs l) v []/\chkV v=0:=by
 constructor
 ·rintro ⟨h1,h2,h3,h4⟩
  exact ⟨h1,(ok_G h1).1 ⟨h2,h3⟩,h4⟩
 ·rintro ⟨h1,h2,h3⟩
  have:=(ok_G h1).2 h2
  exact ⟨h1,this.1,this.2,h3⟩
def kindOk (t:Kb):Prop:=t.1=4\/t.1=5\/t.1=6
theorem items_kinds {α:Type} {K:List Kb->α->List Kb->Prop} {e:UInt8} (hK:∀ ts a r,K ts a r->∀ t∈ts,t∈r\/kindOk t) {ts r:List Kb} {l:List α} (h:Items K e ts l r):∀ t∈ts,t∈r\/kindOk t:=by
 induction h with
 | nil r =>
   intro t ht
   rcases List.mem_cons.1 ht with rfl|ht
   ·exact .inr (.inr (.inr rfl))
   ·exact .inl ht
 | last ts a r h =>
   intro t ht
   rcases hK _ _ _ h t ht with ht|ht
   ·rcases List.mem_cons.1 ht with rfl|ht
    ·exact .inr (.inr (.inr rfl))
    ·exact .inl ht
   ·exact .inr ht
 | more ts a ts' l r h hl ih =>
   intro t ht
   rcases hK _ _ _ h t ht with ht|ht
   ·rcases List.mem_cons.1 ht with rfl|ht
    ·exact .inr (.inr (.inr rfl))
    ·exact ih t ht
   ·exact .inr ht
theorem G_kinds:∀ (d:Nat) (ts:List Kb) (v:V) (r:List Kb),G d ts v r->∀ t∈ts,t∈r\/kindOk t
 | 0,ts,v,r,h=>h.elim
 | d+1,ts,v,r,h=>by
   rcases h with ⟨u,rfl,h1,-⟩|⟨ts',l,rfl,h1,-⟩|⟨ts',l,rfl,h1,-⟩
   ·intro t ht
    rcases List.mem_cons.1 ht with rfl|ht
    ·exact .inr (h1.elim .inl (fun h=>.inr (.inl h)))
    ·exact .inl ht
   ·intro t ht
    rcases List.mem_cons.1 ht with rfl|ht
    ·exact .inr (.inr (.inr rfl))
    ·exact items_kinds (fun ts a r h=>G_kinds d ts a r h) h1 t ht
   ·intro t ht
    rcases List.mem_cons.1 ht with rfl|ht
    ·exact .inr (.inr (.inr rfl))
    ·refine items_kinds (fun ts a r h=>?_) h1 t ht
     obtain ⟨u,c,ts',rfl,g1,g2,g3,g4⟩:=h
     intro t ht
     rcases List.mem_cons.1 ht with rfl|ht
     ·exact .inr (g1.elim .inl (fun h=>.inr (.inl h)))
     ·rcases List.mem_cons.1 ht with rfl|ht
      ·exact .inr (.inr (.inr rfl))
      ·exact G_kinds d _ _ _ g4 t ht
theorem no_bad {l:List UInt8} {d:Nat} {v:V} (h:G d (kbs l) v []):∀ t∈toksFrom l 0,t.1≠7:=by
 intro t ht h7
 have hm:(t.1,(l.drop t.2.1).take (t.2.2 - t.2.1))∈kbs l:=by
  unfold kbs kbX
  rw [List.drop_zero]
  exact List.mem_map.2 ⟨t,List.mem_filter.2 ⟨ht,by rw [h7];decide⟩,rfl⟩
 rcases G_kinds d _ v [] h _ hm with h1|h1|h1|h1
 ·cases h1
 ·rw [h7] at h1;exact absurd h1 (by decide)
 ·rw [h7] at h1;exact absurd h1 (by decide)
 ·rw [h7] at h1;exact absurd h1 (by decide)
def blanks5:List (List UInt8):=[[32],[10],[9,13],[47,42,32,44,32,42,47],[35,32,125,10]]
set_option maxRecDepth 100000
structure MB (w:World) (v:V) (g:Nat) (y:Loc) (W:World):Prop where
 v:y.v=v
 box:W.heap[g]?=some (.cells #[.int .i64 y.v.k,.int .i64 y.v.n,.int .u64 y.v.f,.string y.v.s,.slice y.ad y.v.l.length y.cap,.slice y.bd y.v.e.length y.dap] 26)
 at_:VAt W (fun _=>True) y
 g:Below w.heap.size w W
theorem MB.after {w w5 w6:World} {v:V} {y:Loc} (h5:Below w.heap.size w w5) (h6:Below w5.heap.size w5 w6) (hv:y.v=v) (hy:VAt w6 (fun b=>w5.heap.size<=b) y):MB w v w6.heap.size y (w6.alloc (.cells #[.int .i64 y.v.k,.int .i64 y.v.n,.int .u64 y.v.f,.string y.v.s,.slice y.ad y.v.l.length y.cap,.slice y.bd y.v.e.length y.dap] 26)) :=
 ⟨hv,heap_alloc_new w6 _,(hy.weak (fun _ _ _=>trivial)).keep ((Below.refl w6.heap.size w6).alloc (Nat.le_refl _) _),(h5.trans (h6.mono h5.size)).alloc (Nat.le_trans h5.size h6.size) _⟩
def zero6:Obj:=.cells #[.int .i64 0,.int .i64 0,.int .u64 0,.string ⟨#[]⟩,.slice none 0 0,.slice none 0 0] 26
theorem MB.before {w w5 w6:World} {v:V} {y:Loc} (h5:Below w.heap.size w w5) (h6:Below (w5.alloc zero6).drew.heap.size (w5.alloc zero6).drew w6) (hv:y.v=v) (hy:VAt w6 (fun b=>(w5.alloc zero6).drew.heap.size<=b) y) :
 MB w v w5.heap.size y ((((((w6.setCell ⟨w5.heap.size,0,none⟩ (.int .i64 y.v.k)).setCell ⟨w5.heap.size,1,none⟩ (.int .i64 y.v.n)).setCell ⟨w5.heap.size,2,none⟩ (.int .u64 y.v.f)).setCell ⟨w5.heap.size,3,none⟩ (.string y.v.s)).setCell ⟨w5.heap.size,4,none⟩ (.slice y.ad y.v.l.length y.cap)).setCell ⟨w5.heap.size,5,none⟩ (.slice y.bd y.v.e.length y.dap)):=by
 have hn:=heap_alloc_new w5 zero6
 have hz:(w5.alloc zero6).heap.size=w5.heap.size+1:=World.size_alloc _ _
 have h7:=(h6.block w5.heap.size (by show w5.heap.size<(w5.alloc zero6).heap.size;omega)).trans hn
 obtain ⟨W9,hW9,hr9,ho,hz9,hbw,hvw⟩:=six_all h7 (.int .i64 y.v.k) (.int .i64 y.v.n) (.int .u64 y.v.f) (.string y.v.s) (.slice y.ad y.v.l.length y.cap) (.slice y.bd y.v.e.length y.dap)
 rw [<-hW9]
 have h5a:Below w.heap.size w (w5.alloc zero6).drew:=(h5.alloc h5.size zero6).drew
 refine ⟨hv,hr9,(hvw _ _ hy ?_).weak (fun _ _ _=>trivial),hbw _ _ (h5a.trans (h6.mono h5a.size)) h5.size⟩
 show ¬ (w5.alloc zero6).heap.size<=w5.heap.size
 omega
theorem items_ext {α:Type} {K K':List Kb->α->List Kb->Prop} {e:UInt8} {z:List Kb} (hK:∀ ts a r,K ts a r->K' (ts++z) a (r++z)) {ts r:List Kb} {l:List α} (h:Items K e ts l r):Items K' e (ts++z) l (r++z):=by
 induction h with
 | nil r=>exact .nil _
 | last ts a r h=>exact .last _ a _ (hK _ _ _ h)
 | more ts a ts' l r h hl ih=>exact .more _ a (ts'++z) l _ (hK _ _ _ h) ih
theorem ent_ext {K K':List Kb->V->List Kb->Prop} {z:List Kb} (hK:∀ ts a r,K ts a r->K' (ts++z) a (r++z)) (ts:List Kb) (a:ByteArray×V) (r:List Kb) (h:EntK K ts a r):EntK K' (ts++z) a (r++z):=by
 obtain ⟨t,c,ts',rfl,h1,h2,h3,h4⟩:=h
 exact ⟨t,c,ts'++z,rfl,h1,h2,h3,hK _ _ _ h4⟩
theorem G_ext (z:List Kb):∀ (d:Nat) (ts:List Kb) (v:V) (r:List Kb),G d ts v r->G d (ts++z) v (r++z)
 | 0,_,_,_,h=>h.elim
 | d+1,ts,v,r,h=>by
   rcases h with ⟨t,rfl,h1,h2⟩|⟨ts',l,rfl,h1,rfl⟩|⟨ts',l,rfl,h1,h2,rfl⟩
   ·exact .inl ⟨t,rfl,h1,h2⟩
   ·exact .inr (.inl ⟨ts'++z,l,rfl,items_ext (G_ext z d) h1,rfl⟩)
   ·exact .inr (.inr ⟨ts'++z,l,rfl,items_ext (ent_ext (G_ext z d)) h1,h2,rfl⟩)
theorem items_up {α:Type} {K K':List Kb->α->List Kb->Prop} {e:UInt8} (hK:∀ ts a r,K ts a r->K' ts a r) {ts r:List Kb} {l:List α} (h:Items K e ts l r):Items K' e ts l r:=by
 induction h with
 | nil r=>exact .nil _
 | last ts a r h=>exact .last _ a _ (hK _ _ _ h)
 | more ts a ts' l r h hl ih=>exact .more _ a ts' l _ (hK _ _ _ h) ih
theorem ent_up {K K':List Kb->V->List Kb->Prop} (hK:∀ ts a r,K ts a r->K' ts a r) (ts:List Kb) (a:ByteArray×V) (r:List Kb) (h:EntK K ts a r):EntK K' ts a r:=by
 obtain ⟨t,c,ts',rfl,h1,h2,h3,h4⟩:=h
 exact ⟨t,c,ts',rfl,h1,h2,h3,hK _ _ _ h4⟩
theorem G_up:∀ (d:Nat) (ts:List Kb) (v:V) (r:List Kb),G d ts v r->G (d+1) ts v r
 | 0,_,_,_,h=>h.elim
 | d+1,ts,v,r,h=>by
   rcases h with h|⟨ts',l,rfl,h1,rfl⟩|⟨ts',l,rfl,h1,h2,rfl⟩
   ·exact .inl h
   ·exact .inr (.inl ⟨ts',l,rfl,items_up (G_up d) h1,rfl⟩)
   ·exact .inr (.inr ⟨ts',l,rfl,items_up (ent_up (G_up d)) h1,h2,rfl⟩)
theorem items_low {α:Type} {K K':List Kb->α->List Kb->Prop} {e:UInt8} {P:α->Prop} (hK:∀ ts a r,P a->K ts a r->K' ts a r) {ts r:List Kb} {l:List α} (h:Items K e ts l r):(∀ a∈l,P a)->Items K' e ts l r:=by
 induction h with
 | nil r=>exact fun _=>.nil _
 | last ts a r h=>exact fun hp=>.last _ a _ (hK _ _ _ (hp a (List.mem_cons_self)) h)
 | more ts a ts' l r h hl ih=>exact fun hp=>.more _ a ts' l _ (hK _ _ _ (hp a (List.mem_cons_self)) h) (ih (fun x hx=>hp x (List.mem_cons_of_mem _ hx)))
theorem once_in:∀ (l acc:List (ByteArray×V)) (ks:List ByteArray),Once ks l->(∀ x∈acc,x.1∈ks)->∀ x,x∈acc\/x∈l->x∈putAll acc l
 | [],acc,ks,_,_,x,hx=>hx.resolve_right List.not_mem_nil
 | y::l,acc,ks,ho,hk,x,hx=>by
   show x∈putAll (putL acc y.1 y.2) l
   refine once_in l _ (y.1::ks) ho.2 (fun z hz=>?_) x ?_
   ·rcases put_mem.1 hz with rfl|⟨h1,-⟩
    ·exact List.mem_cons_self
    ·exact List.mem_cons_of_mem _ (hk z h1)
   ·rcases hx with hx|hx
    ·exact .inl (put_mem.2 (.inr ⟨hx,fun e=>ho.1 (e▸hk x hx)⟩))
    ·rcases List.mem_cons.1 hx with rfl|hx
     ·exact .inl (put_mem.2 (.inl rfl))
     ·exact .inr hx
theorem kb_doc {s:List UInt8} {v:V} (h:G 20 (kbs s) v []) (z:List UInt8) (o:Nat):(solO (s++10::z) o).map kbOf=kbs s++kbs z:=by
 rw [(tokSeq_line z s.length s (Nat.le_refl _) (no_bad h)).sol o,List.map_append,kbs_sol,solO_line,kbs_sol]
theorem kb_mark (c:UInt8) (z:List UInt8) (hc:classOf (c.toNat:Int)=6):kbs (c::z)=(6,[c])::kbs z:=by
 rw [<-kbs_sol (c::z) 0,solO_mark c z 0 hc,List.map_cons,kbs_sol];rfl
theorem kb_doc0 {s:List UInt8} {v:V} (h:G 20 (kbs s) v []) (z:List UInt8):kbs (s++10::z)=kbs s++kbs z:=by
 rw [<-kbs_sol (s++10::z) 0,kb_doc h]
def listText (s t:List UInt8):List UInt8:=91::(s++10::44::(t++[10,93]))
def tableText (s t:List UInt8):List UInt8:=123::98::61::(s++10::44::32::34::97::34::58::32::(t++[10,44,125]))
def keyA:ByteArray:=⟨#[97]⟩
def keyB:ByteArray:=⟨#[98]⟩
def ListR (v w:V) (x:V) (c:Int):Prop:=(chkV (listV [v,w])=0->x=listV [v,w]/\c=0)/\(chkV (listV [v,w])≠0->c≠0)
def TableR (v w:V) (x:V) (c:Int):Prop:=(chkV (listV [v,w])=0->x=tableV [(keyA,w),(keyB,v)]/\c=0)/\(chkV (listV [v,w])≠0->c≠0)
def V.nodes (v:V):Nat:=1+((v.l.attach.map fun x=>V.nodes x.1).sum+(v.e.attach.map fun x=>V.nodes x.1.2).sum)
termination_by SizeOf.sizeOf v
decreasing_by
 ·exact V.lt_l x.2
 ·exact V.lt_e x.2
theorem attach_map' {α β:Type} (l:List α) (g:α->β):(l.attach.map fun x=>g x.1)=l.map g:=by
 have h:l.attach.map Subtype.val=l:=List.attach_map_subtype_val l
 calc (l.attach.map fun x=>g x.1)=(l.attach.map Subtype.val).map g:=by rw [List.map_map];rfl
  _=l.map g:=by rw [h]
def nodesL (l:List V):Nat:=(l.map V.nodes).sum
theorem nodes_eq (v:V):v.nodes=1+nodesL v.parts:=by
 rw [V.nodes,attach_map' v.l V.nodes,attach_map' v.e (fun x=>x.2.nodes)]
 unfold nodesL V.parts
 rw [List.map_append,List.map_map,List.sum_append]
 rfl
theorem nodesL_nil:nodesL []=0:=rfl
theorem nodesL_app (l m:List V):nodesL (l++m)=nodesL l+nodesL m:=by simp [nodesL]
theorem nodesL_cons (x:V) (l:List V):nodesL (x::l)=x.nodes+nodesL l:=by simp [nodesL]
theorem ownV_zero {v:V} (h:ownV v=0):kindBad v.k v.n v.f v.s v.l.length v.e.length=false/\v.s.size<=4000/\v.l.length<=200/\v.e.length<=200/\okText v.s.data.toList:=by
 unfold ownV ownE at h
 by_cases h1:kindBad v.k v.n v.f v.s v.l.length v.e.length=true
 ·rw [if_pos h1] at h;cases h
 rw [if_neg h1] at h
 by_cases h2:4000<v.s.size\/200<v.l.length\/200<v.e.length
 ·rw [if_pos h2] at h;cases h
 rw [if_neg h2] at h
 by_cases h3:okText v.s.data.toList
 ·exact ⟨by simpa using h1,by omega,by omega,by omega,h3⟩
 ·rw [if_neg h3] at h;cases h
structure OwnOk (v:V):Prop where
 k0:0<=v.k
 k6:v.k<=6
 n:v.k≠1->v.k≠2->v.n=0
 n1:v.k=1->v.n=0\/v.n=1
 f:v.k≠3->v.f=0
 s:v.k≠4->v.s=⟨#[]⟩
 l:v.k≠5->v.l=[]
 e:v.k≠6->v.e=[]
 nan:nanBad v.f=false
theorem kindBad_ok {v:V} (h:kindBad v.k v.n v.f v.s v.l.length v.e.length=false):OwnOk v:=by
 unfold kindBad at h
 simp only [Bool.or_eq_false_iff,Bool.and_eq_false_iff,decide_eq_false_iff_not,bne_eq_false_iff_eq,Bool.not_eq_false',beq_iff_eq,Bool.or_eq_true,beq_eq_false_iff_ne,Bool.not_eq_eq_eq_not,Bool.not_true] at h
 obtain ⟨⟨⟨⟨⟨⟨⟨⟨h1,h2⟩,h3⟩,h4⟩,h5⟩,h6⟩,h7⟩,h8⟩,h9⟩:=h
 refine ⟨by omega,by omega,fun a b=>?_,fun a=>?_,fun a=>?_,fun a=>?_,fun a=>?_,fun a=>?_,h6⟩
 ·rcases h3 with h3|h3
  ·simp at h3;omega
  ·exact h3
 ·omega
 ·omega
 ·rcases h7 with h7|h7
  ·exact absurd h7 a
  ·exact empty_of (by simpa using h7)
 ·rcases h8 with h8|h8
  ·exact absurd h8 a
  ·exact List.eq_nil_of_length_eq_zero (by omega)
 ·rcases h9 with h9|h9
  ·exact absurd h9 a
  ·exact List.eq_nil_of_length_eq_zero (by omega)
theorem keyE_short:∀ (e:List (ByteArray×V)) (p:Option ByteArray),keyE p e=0->∀ x∈e,x.1.size<=100/\okText x.1.data.toList
 | [],_,_,x,hx=>by cases hx
 | y::e,p,h,x,hx=>by
   rw [keyE] at h
   by_cases h1:100<y.1.size
   ·rw [if_pos h1] at h;cases h
   rw [if_neg h1] at h
   by_cases h2:okText y.1.data.toList
   ·rw [if_neg (fun g=>g h2)] at h
    by_cases h3:keyBad p y.1=true
    ·rw [if_pos h3] at h;cases h
    rw [if_neg h3] at h
    rcases List.mem_cons.1 hx with rfl|hx
    ·exact ⟨by omega,h2⟩
    ·exact keyE_short e _ h x hx
   ·rw [if_pos h2] at h;cases h
def Gd:Nat->V->Prop
 | 0,_=>False
 | d+1,v=>ownV v=0/\keyE none v.e=0/\∀ x∈v.parts,Gd d x
theorem chk_gd:∀ (d:Nat) (v:V) (m:Nat),(chk d v m).1=0->Gd d v
 | 0,v,m,h=>by simp only [chk] at h;split at h<;>cases h
 | d+1,v,m,h=>by
   simp only [chk] at h
   by_cases h1:2000<m+1
   ·rw [if_pos h1] at h;cases h
   rw [if_neg h1] at h
   by_cases h2:ownV v≠0
   ·rw [if_pos h2] at h;exact absurd h h2
   rw [if_neg h2] at h
   by_cases h3:keyE none v.e≠0
   ·rw [if_pos h3] at h;exact absurd h h3
   rw [if_neg h3] at h
   refine ⟨by omega,by omega,?_⟩
   have hall:∀ (xs:List V) (m:Nat),(chkAll (chk d) xs m).1=0->∀ x∈xs,Gd d x:=by
    intro xs
    induction xs with
    | nil=>intro m _ x hx;cases hx
    | cons y ys ih =>
      intro m hm x hx
      have e:chkAll (chk d) (y::ys) m=if (chk d y m).1=0 then chkAll (chk d) ys (chk d y m).2 else chk d y m:=rfl
      rw [e] at hm
      by_cases hy:(chk d y m).1=0
      ·rw [if_pos hy] at hm
       rcases List.mem_cons.1 hx with rfl|hx
       ·exact chk_gd d x m hy
       ·exact ih _ hm x hx
      ·rw [if_neg hy] at hm;exact absurd hm hy
   exact hall _ _ h
theorem Gd.ok {d:Nat} {v:V} (h:Gd (d+1) v):OwnOk v:=kindBad_ok (ownV_zero h.1).1
theorem Gd.list {d:Nat} {v:V} (h:Gd (d+1) v) (hk:v.k=5):v=.mk 5 0 0 ⟨#[]⟩ v.l []:=by
 have ok:=h.ok
 exact V.ext' hk (ok.n (by omega) (by omega)) (ok.f (by omega)) (ok.s (by omega)) rfl (ok.e (by omega))
theorem Gd.table {d:Nat} {v:V} (h:Gd (d+1) v) (hk:v.k=6):v=.mk 6 0 0 ⟨#[]⟩ [] v.e:=by
 have ok:=h.ok
 exact V.ext' hk (ok.n (by omega) (by omega)) (ok.f (by omega)) (ok.s (by omega)) (ok.l (by omega)) rfl
theorem Gd.l {d:Nat} {v:V} (h:Gd (d+1) v):∀ x∈v.l,Gd d x:=fun x hx=>h.2.2 x (List.mem_append_left _ hx)
theorem Gd.e {d:Nat} {v:V} (h:Gd (d+1) v):∀ x∈v.e,Gd d x.2:=fun x hx=>h.2.2 x.2 (List.mem_append_right _ (List.mem_map_of_mem hx))
def mx:List Nat->Nat
 | []=>0
 | x::l=>max x (mx l)
theorem mx_app:∀ a b:List Nat,mx (a++b)=max (mx a) (mx b)
 | [],b=>by simp [mx]
 | x::a,b=>by rw [List.cons_append,mx,mx,mx_app a b];omega
def V.dep (v:V):Nat:=1+max (mx (v.l.attach.map fun x=>V.dep x.1)) (mx (v.e.attach.map fun x=>V.dep x.1.2))
termination_by SizeOf.sizeOf v
decreasing_by
 ·exact V.lt_l x.2
 ·exact V.lt_e x.2
def depL (l:List V):Nat:=mx (l.map V.dep)
theorem dep_eq (v:V):v.dep=1+depL v.parts:=by
 rw [V.dep,attach_map' v.l V.dep,attach_map' v.e (fun x=>x.2.dep)]
 unfold depL V.parts
 rw [List.map_append,List.map_map,mx_app]
 rfl
theorem depL_snoc (l:List V) (x:V):depL (l++[x])=max (depL l) x.dep:=by
 unfold depL
 rw [List.map_append,mx_app]
 simp [mx]
theorem depL_mem:∀ {l:List V} {x:V},x∈l->x.dep<=depL l
 | [],x,h=>by cases h
 | y::l,x,h=>by
   have e:depL (y::l)=max y.dep (depL l):=rfl
   rw [e]
   rcases List.mem_cons.1 h with rfl|h
   ·omega
   ·have:=depL_mem h;omega
theorem dep_part {v x:V} (h:x∈v.parts):x.dep<v.dep:=by
 rw [dep_eq v];have:=depL_mem h;omega
theorem depL_le {l:List V} {d:Nat} (h:∀ x∈l,x.dep<=d):depL l<=d:=by
 induction l with
 | nil=>exact Nat.zero_le _
 | cons y l ih =>
   have e:depL (y::l)=max y.dep (depL l):=rfl
   have h1:=h y List.mem_cons_self
   have h2:=ih (fun x hx=>h x (List.mem_cons_of_mem _ hx))
   rw [e];omega
theorem gd_dep:∀ (d:Nat) (v:V),Gd d v->v.dep<=d
 | 0,v,h=>h.elim
 | d+1,v,h=>by
   rw [dep_eq]
   have:=depL_le (l:=v.parts) (d:=d) (fun x hx=>gd_dep d x (h.2.2 x hx))
   omega
def depD:Nat->V->Prop
 | 0,_=>False
 | d+1,v=>∀ x∈v.parts,depD d x
theorem dep_D:∀ (d:Nat) (v:V),v.dep<=d->depD d v
 | 0,v,h=>by rw [dep_eq] at h;omega
 | d+1,v,h=>fun x hx=>dep_D d x (by have:=dep_part hx;omega)
theorem G_dep:∀ (d:Nat) (ts:List Kb) (v:V) (r:List Kb),G (d+1) ts v r->depD d v->G d ts v r
 | 0,ts,v,r,h,hc=>hc.elim
 | d+1,ts,v,r,h,hc=>by
   have hp:∀ x∈v.parts,depD d x:=hc
   have ent_low:∀ {ts:List Kb} {a:ByteArray×V} {r:List Kb},depD d a.2->EntK (G (d+1)) ts a r->EntK (G d) ts a r:=by
    rintro ts a r hk ⟨t,c,us,rfl,g1,g2,g3,g4⟩
    exact ⟨t,c,us,rfl,g1,g2,g3,G_dep d _ _ _ g4 hk⟩
   rcases h with h|⟨ts',l,rfl,h1,rfl⟩|⟨ts',l,rfl,h1,h2,rfl⟩
   ·exact .inl h
   ·exact .inr (.inl ⟨ts',l,rfl,items_low (P:=fun a=>depD d a) (fun ts a r hk g=>G_dep d ts a r g hk) h1 (fun a ha=>hp a (List.mem_append_left _ ha)),rfl⟩)
   ·exact .inr (.inr ⟨ts',l,rfl,items_low (P:=fun a:ByteArray×V=>depD d a.2) (fun ts a r hk g=>ent_low hk g) h1 (fun a ha=>hp a.2 (List.mem_append_right _ (List.mem_map.2 ⟨a,once_in l [] [] h2 (fun x hx=>absurd hx List.not_mem_nil) a (.inr ha),rfl⟩))),h2,rfl⟩)
theorem all2_inv' {α β:Type} {R:α->β->Prop} {b:β} {l:List α} {m:List β} (h:All2 R l (b::m)):∃ a l',l=a::l'/\R a b/\All2 R l' m:=by
 cases h with
 | cons a _ l' _ h hl=>exact ⟨a,l',rfl,h,hl⟩
theorem all2_nil' {α β:Type} {R:α->β->Prop} {l:List α} (h:All2 R l ([]:List β)):l=[]:=by cases h;rfl
def kpX (X:TS) (i:Nat):List Nat:=((X.T.drop i).filter fun t=>solidK t.1).map fun t=>t.2.1
theorem kpX_len (X:TS) (i:Nat):(kpX X i).length=(kbX X i).length:=by unfold kpX kbX;rw [List.length_map,List.length_map]
theorem kpX_suf (X:TS) (i:Nat):∃ A,kpX X 0=A++kpX X i:=by
 unfold kpX
 refine ⟨((X.T.take i).filter fun t=>solidK t.1).map fun t=>t.2.1,?_⟩
 rw [<-List.map_append,<-List.filter_append,List.take_append_drop,List.drop_zero]
theorem kpX_head {X:TS} {i:Nat} (h:i<X.T.length) (hs:solidK (X.kind i)=true):kpX X i=X.pos i::kpX X (i+1):=by
 have hk:X.kind i=(X.T[i]).1:=by unfold TS.kind;rw [List.getElem?_eq_getElem h]
 have hp:X.pos i=(X.T[i]).2.1:=by unfold TS.pos;rw [List.getElem?_eq_getElem h]
 rw [hk] at hs
 unfold kpX
 rw [List.drop_eq_getElem_cons h,List.filter_cons,hs,hp]
 rfl
theorem pos_of {X:TS} {i:Nat} (h:i<X.T.length) (hs:solidK (X.kind i)=true):X.pos i=(kpX X 0).getD ((kpX X 0).length - (kbX X i).length) 0:=by
 obtain ⟨A,hA⟩:=kpX_suf X i
 rw [<-kpX_len X i,hA,List.length_append,Nat.add_sub_cancel,kpX_head h hs,List.getD_eq_getElem?_getD,List.getElem?_append_right (Nat.le_refl _),Nat.sub_self]
 rfl
theorem kp_sol (l:List UInt8):kpX (treeX l) 0=(solO l 0).map fun t=>t.2.1:=by
 unfold kpX solO
 rw [List.map_map]
 refine List.map_congr_left (fun t _=>?_)
 show t.2.1=0+t.2.1
 omega
abbrev EntP:=(ByteArray×V)×Nat
def EntPK (K:List Kb->V->List Kb->Prop) (ts:List Kb) (a:EntP) (r:List Kb):Prop:=EntK K ts a.1 r/\ts.length=a.2
def EntPN (X:TS) (f:Nd->Except Flt V) (n:Nd) (a:EntP):Prop:=EntN X f n a.1/\X.pos (n.kids.getD 0 Nd.none).a=(kpX X 0).getD ((kpX X 0).length - a.2) 0
theorem entry_place {X:TS} {val:PS->PS×Nd} {s:PS} (hb:(entryS X val s).1.bad=0):((entryS X val s).2.kids.getD 0 Nd.none).a=(s.skip X).i/\(s.skip X).i<X.T.length:=by
 unfold entryS at hb ⊢
 split at hb
 ·rename_i h1;exact absurd hb h1
 ·rename_i h1
  rw [if_neg h1]
  have hcb:(colonS X ((leafS X 2 s).1.skip X)).bad=0:=by
   by_cases h0:(colonS X ((leafS X 2 s).1.skip X)).bad=0
   ·exact h0
   ·exact absurd h0 h1
  obtain ⟨c1,c2,c3,c4⟩:=colon_good hcb
  have hlf:=leaf_row (k:=2) (s:=s) c2
  refine ⟨?_,hlf.2⟩
  show ((leafS X 2 s).2).a=_
  rw [hlf.1];rfl
theorem entryP_run {X:TS} (hM:MarkOk X) {K:List Kb->V->List Kb->Prop} {val:PS->PS×Nd} {f:Nd->Except Flt V}
 (hK:∀ ts a r (s:PS),K ts a r->s.bad=0->s.i<=X.T.length->kbX X s.i=ts->(val s).1.bad=0/\kbX X (val s).1.i=r/\(val s).1.i<=X.T.length/\s.i<(val s).1.i/\f (val s).2=.ok a)
 (ts:List Kb) (a:EntP) (r:List Kb) (s:PS) (h:EntPK K ts a r) (hb:s.bad=0) (hi:s.i<=X.T.length) (hk:kbX X s.i=ts) :
 (entryS X val s).1.bad=0/\kbX X (entryS X val s).1.i=r/\(entryS X val s).1.i<=X.T.length/\s.i<(entryS X val s).1.i/\EntPN X f (entryS X val s).2 a:=by
 obtain ⟨e1,e2,e3,e4,e5⟩:=entry_run hM hK ts a.1 r s h.1 hb hi hk
 obtain ⟨p1,p2⟩:=entry_place e1
 refine ⟨e1,e2,e3,e4,e5,?_⟩
 rw [p1]
 rcases skip_kb X s with ⟨g1,-⟩|⟨-,g2,-⟩
 ·omega
 ·rw [pos_of p2 g2,kb_skip,hk,h.2]
def twiceText (q s t:List UInt8):List UInt8:=123::(q++58::(s++10::44::(q++61::(t++[10,125]))))
theorem twice_len (q s t:List UInt8):(twiceText q s t).length=2 * q.length+s.length+t.length+7:=by
 unfold twiceText;simp;omega
theorem kb_tok {q:List UInt8} (hq:nextTok q=(5,q.length)) (hq0:q≠[]) (z:List UInt8):kbs (q++z)=(5,q)::kbs z:=by
 rw [<-kbs_sol (q++z) 0,solO_tok (p:=q) (k:=5) 0 hq0 (next_app hq hq0 (by decide) ⟨fun h=>absurd h (by decide),fun _ h=>absurd h (by decide)⟩),List.map_append,kbs_sol];rfl
theorem kbs_twice {q s t:List UInt8} {v w:V} (hq:nextTok q=(5,q.length)) (hq0:q≠[]) (h:G 20 (kbs s) v []) (g:G 20 (kbs t) w []) :
 kbs (twiceText q s t)=(6,[123])::(5,q)::(6,[58])::(kbs s++(6,[44])::(5,q)::(6,[61])::(kbs t++[(6,[125])])):=by
 unfold twiceText
 rw [kb_mark 123 _ (by decide),kb_tok hq hq0,kb_mark 58 _ (by decide),kb_doc0 h,kb_mark 44 _ (by decide),kb_tok hq hq0,kb_mark 61 _ (by decide),kb_doc0 g,kb_mark 125 _ (by decide)]
 rfl
theorem twice_sol {q s t:List UInt8} {v w:V} (hq:nextTok q=(5,q.length)) (hq0:q≠[]) (h:G 20 (kbs s) v []) (g:G 20 (kbs t) w []) :
 ∃ A R,solO (twiceText q s t) 0=A++(5,q.length+s.length+4,q)::R/\R.length=(kbs t).length+2:=by
 have tok:∀ (z:List UInt8) (o:Nat),solO (q++z) o=(5,o,q)::solO z (o+q.length):=fun z o=>by
  rw [solO_tok (p:=q) (k:=5) o hq0 (next_app hq hq0 (by decide) ⟨fun h=>absurd h (by decide),fun _ h=>absurd h (by decide)⟩)]
  rfl
 have doc:∀ (z:List UInt8) (o:Nat),solO (s++10::z) o=solO s o++solO z (o+s.length+1):=fun z o=>by
  rw [(tokSeq_line z s.length s (Nat.le_refl _) (no_bad h)).sol o,solO_line]
 have hR:∀ o,(solO (61::(t++[10,125])) o).length=(kbs t).length+2:=fun o=>by
  have:=congrArg List.length (kbs_sol (61::(t++[10,125])) o)
  rw [List.length_map,kb_mark 61 _ (by decide),kb_doc0 g,kb_mark 125 _ (by decide)] at this
  rw [this]
  have e:kbs []=[]:=by rw [<-kbs_sol [] 0,solO_nil];rfl
  rw [e];simp
 refine ⟨(6,0,[123])::(5,1,q)::(6,1+q.length,[58])::(solO s (1+q.length+1)++[(6,1+q.length+1+s.length+1,[44])]),solO (61::(t++[10,125])) (1+q.length+1+s.length+1+1+q.length),?_,hR _⟩
 unfold twiceText
 rw [solO_mark 123 _ 0 (by decide),tok,solO_mark 58 _ _ (by decide),doc,solO_mark 44 _ _ (by decide),tok,show q.length+s.length+4=1+q.length+1+s.length+1+1 by omega]
 simp
theorem twice_place {q s t:List UInt8} {v w:V} (hq:nextTok q=(5,q.length)) (hq0:q≠[]) (h:G 20 (kbs s) v []) (g:G 20 (kbs t) w []) :
 (kpX (treeX (twiceText q s t)) 0).getD ((kpX (treeX (twiceText q s t)) 0).length - ((kbs t).length+3)) 0=q.length+s.length+4:=by
 obtain ⟨A,R,h1,h2⟩:=twice_sol hq hq0 h g
 rw [kp_sol,h1,List.map_append,List.map_cons,List.length_append,List.length_cons,List.length_map,List.length_map,h2,show A.length+((kbs t).length+2+1) - ((kbs t).length+3)=A.length by omega,List.getD_eq_getElem?_getD,
  List.getElem?_append_right (by rw [List.length_map];exact Nat.le_refl _),List.length_map,Nat.sub_self]
 rfl
theorem twice_bad {q s t:List UInt8} {key:ByteArray} {v w:V} (hq:nextTok q=(5,q.length)) (hq0:q≠[]) (hk:keyOf 5 q=some key) (h:G 19 (kbs s) v []) (g:G 19 (kbs t) w []) (hl:(twiceText q s t).length<=20000) :
 (parseS (treeX (twiceText q s t))).bad=0/\meanN (treeX (twiceText q s t)) 21 (rootN (twiceText q s t))=.error (q.length+s.length+4,true):=by
 have hG:=G_up _ _ _ _ h
 have gG:=G_up _ _ _ _ g
 have hkb:=kbs_twice hq hq0 hG gG
 have hpl:=twice_place hq hq0 hG gG
 have hT:(treeX (twiceText q s t)).T.length<=20000:=Nat.le_trans (toks_len _) hl
 have hM:=treeX_mark (twiceText q s t)
 obtain ⟨l,hle⟩:∃ l,twiceText q s t=l:=⟨_,rfl⟩
 rw [hle] at hkb hpl hT hM hl ⊢
 have hF:(treeX l).T.length+2<=(treeX l).F:=show (treeX l).T.length+2<=30000 by omega
 obtain ⟨m1,m2,m3⟩:=markKb hM (s:=⟨0,0,0⟩) ((hkb:kbX (treeX l) 0=_))
 have e:valueS (treeX l) 20 ⟨0,0,0⟩=manyN (treeX l) 3 125 (entryS (treeX l) (valueS (treeX l) 19)) ((⟨0,0,0⟩:PS).skip (treeX l)):=by
  rw [valueS,if_pos m1]
 have hinc:((⟨0,0,0⟩:PS).skip (treeX l)).inc.i=((⟨0,0,0⟩:PS).skip (treeX l)).i+1:=rfl
 have items:Items (EntPK (G 19)) 125 ((5,q)::(6,[58])::(kbs s++(6,[44])::(5,q)::(6,[61])::(kbs t++[(6,[125])])))
  [((key,v),((5,q)::(6,[58])::(kbs s++(6,[44])::(5,q)::(6,[61])::(kbs t++[(6,[125])]))).length),((key,w),((5,q)::(6,[61])::(kbs t++[(6,[125])])).length)] []:=by
  refine .more _ _ ((5,q)::(6,[61])::(kbs t++[(6,[125])])) _ _ ⟨⟨(5,q),58,_,rfl,.inr rfl,.inl rfl,hk,?_⟩,rfl⟩ (.last _ _ _ ⟨⟨(5,q),61,_,rfl,.inr rfl,.inr rfl,hk,?_⟩,rfl⟩)
  ·exact G_ext _ _ _ _ _ h
  ·exact G_ext _ _ _ _ _ g
 obtain ⟨new,g1,g2,g3,g4,g5,g6⟩:=items_run (X:=treeX l) (kid:=entryS (treeX l) (valueS (treeX l) 19)) (Mn:=EntPN (treeX l) (meanN (treeX l) 20)) hM (.inr rfl) (fun ts a r h=>EntK_head h.1 125)
  (fun ts a r s h hb hi hk=>entryP_run hM (fun ts a r s h hb hi hk=>G_run hM hF 19 ts a r s h hb hi hk) ts a r s h hb hi hk) _ _ _ items ((⟨0,0,0⟩:PS).skip (treeX l)).inc [] (treeX l).F rfl (by omega) m3 (by omega)
 rw [List.nil_append] at g1
 obtain ⟨n1,new,rfl,a1,g6⟩:=all2_inv' g6
 obtain ⟨n2,new,rfl,a2,g6⟩:=all2_inv' g6
 obtain rfl:=all2_nil' g6
 have key1:keyN (treeX l) (n1.kids.getD 0 Nd.none).a []=.ok key:=by
  unfold keyN
  rw [a1.1.1]
  simp only []
  rw [if_neg (by simp)]
 have key2:keyN (treeX l) (n2.kids.getD 0 Nd.none).a (putL [] key v)=.error (q.length+s.length+4,true):=by
  unfold keyN
  rw [a2.1.1]
  simp only []
  rw [if_pos (fidx_lt.2 (put_keys.2 (.inl rfl))),a2.2,<-hpl]
  simp
 have htab:tableN (treeX l) (meanN (treeX l) 20) [] [n1,n2]=.error (q.length+s.length+4,true):=by
  rw [tableN,key1]
  simp only []
  rw [a1.1.2]
  simp only []
  rw [tableN,key2]
 have e1:(valueS (treeX l) 20 ⟨0,0,0⟩).1.bad=0:=by rw [e];exact g2
 have e2:kbX (treeX l) (valueS (treeX l) 20 ⟨0,0,0⟩).1.i=[]:=by rw [e];exact g5
 constructor
 ·unfold parseS endS
  rcases skip_kb (treeX l) (valueS (treeX l) 20 ⟨0,0,0⟩).1 with ⟨g,-⟩|⟨-,-,g⟩
  ·rw [if_neg (by omega)];exact e1
  ·rw [e2] at g;cases g
 ·unfold rootN
  rw [e]
  unfold manyN
  rw [g1,meanN]
  rw [if_neg (by show ¬ (3:Int)=5;decide),if_pos (by rfl)]
  show (match tableN (treeX l) (meanN (treeX l) 20) [] [n1,n2] with|.ok l=>Except.ok (tableV l)|.error e=>.error e)=_
  rw [htab]
theorem twice_told {q s t:List UInt8} {key:ByteArray} {v w:V} (hq:nextTok q=(5,q.length)) (hq0:q≠[]) (hk:keyOf 5 q=some key) (h:MeanOk s v) (g:MeanOk t w) (hv:v.dep<=19) (hw:w.dep<=19) (hl:2 * q.length+s.length+t.length+7<=20000) :
 (∀ x,¬ MeanOk (twiceText q s t) x)/\∀ a c,MeanBad (twiceText q s t) a c->a=q.length+s.length+4/\c=6:=by
 have hlen:=twice_len q s t
 obtain ⟨-,h2,-⟩:=meanOk_iff.1 h
 obtain ⟨-,g2,-⟩:=meanOk_iff.1 g
 obtain ⟨p1,p2⟩:=twice_bad hq hq0 hk (G_dep 19 _ _ _ h2 (dep_D _ _ hv)) (G_dep 19 _ _ _ g2 (dep_D _ _ hw)) (by omega)
 constructor
 ·rintro x ⟨-,-,h3,-⟩
  rw [p2] at h3;cases h3
 ·rintro a c (⟨h3,-⟩|⟨-,h3,-⟩|⟨-,-,⟨f,h3,h4,-,h5⟩|⟨x,h3,-⟩⟩)
  ·omega
  ·exact absurd p1 h3
  ·rw [p2] at h3
   obtain rfl:=Except.error.inj h3
   exact ⟨h4,h5 rfl⟩
  ·rw [p2] at h3;cases h3
end Go.Proofs.YtldhmfkojaekfaaGreatDoor
namespace Go.Proofs.YtldhmfkojaekfaaGreatDoor
open Go.RowKit Go.Shelf Gx
attribute [local go_sem] Oper.semAt_some
set_option maxRecDepth 100000
set_option maxHeartbeats 4000000 in
theorem partsG_in {α:Type} (n:Nat) (hn:1<=n) (l Bn n₀ M:Nat) (w0:World) (q:Loc) (g:α->LocAt w0 n₀ M) (ls es:List α) (hBn:Bw n₀ M Bn)
 (hls:LsAt w0 n₀ M q (ls.map g)) (hes:EsAt w0 n₀ M q (es.map g)) (hlb:ls.length<=1000000000000000) (heb:es.length<=1000000000000000)
 (J Jx:List α->World->Prop) (W:World) (hW:KeM n₀ M w0 W) (hJ:AbidesFrom W.heap.size J)
 (hY:∀ pre x W,J pre W->pre.length<ls.length+es.length->YieldAt Fence.wide (n - 1) Tryz.prog l #[(g x).1.val] W fun e W' =>
   (e=.returned (.bool true)/\J (pre++[x]) W'/\KeM n₀ M W W')\/(e=.returned (.bool false)/\Jx (pre++[x]) W'))
 (hb:W.heap[Bn]?=some (.cells #[.int .i64 q.v.k,.int .i64 q.v.n,.int .u64 q.v.f,.string q.v.s,.slice q.ad q.v.l.length q.cap,.slice q.bd q.v.e.length q.dap] 26)) (h0:J [] W) :
 CallsIn Fence.wide n Tryz.prog 55 #[.func (.yield l) #[] #[],.pointer (some ⟨Bn,0,none⟩)] W (ItPost (ls++es) J Jx):=by
 unfold Loc.val at hY
 have hBl:Bn<W.heap.size:=(Array.getElem?_eq_some_iff.1 hb).1
 have c4:W.cell? ⟨Bn,4,none⟩=some (.slice q.ad ls.length q.cap):=by have hl:=hls.len;rw [List.length_map] at hl;rw [hl];simp [World.cell?,hb]
 have c5:∀ w,KeM n₀ M W w->w.cell? ⟨Bn,5,none⟩=some (.slice q.bd es.length q.dap):=fun w hk=>(hk.cell hBn hBl).trans (by have hl:=hes.len;rw [List.length_map] at hl;rw [hl];simp [World.cell?,hb])
 have hls:=hls.2
 have hes:=hes.2
 obtain ⟨v,ad,cap,bd,dap⟩:=q
 simp only at c4 c5 hls hes
 have C5:=Lib.hid c5
 have HJ:=Lib.hid hJ
 have HY:=Lib.hid hY
 have HLS:=Lib.hid hls
 have HES:=Lib.hid hes
 have HW:=Lib.hid hW
 have H0:=Lib.hid h0
 obtain ⟨nl,hnl⟩:∃ nl,ls.length=nl:=⟨_,rfl⟩
 obtain ⟨ne,hne⟩:∃ ne,es.length=ne:=⟨_,rfl⟩
 rw [hnl] at c4 hlb
 rw [hne] at C5 heb
 have HNL:=Lib.hid hnl
 have HNE:=Lib.hid hne
 clear hb c5 hJ hY hls hes hW h0 hnl hne
 refine callsIn_of_wp Tryz.func55 rfl trivial ?_ rfl
 simp only [Tryz.ntmps55,List.size_toArray,List.length_cons,List.length_nil,Nat.reduceAdd,Nat.reduceSub,Array.replicate_succ,Array.replicate_zero,List.push_toArray,List.append_toArray,List.nil_append,List.cons_append]
 gi_wp2
 gi_loopw [10] (fun i wr=>∃ k:Nat,k<=nl/\i=.int .i64 k/\Hid (J (ls.take k) wr)/\Hid (KeM n₀ M W wr))
  (fun i _=>nl - (intOf i).toNat)
 case atStart=>exact ⟨0,Nat.zero_le _,rfl,H0,Lib.hid (KeM.refl _ _ _)⟩
 case round =>
  obtain ⟨k,hk,rfl,hJs,hke⟩:=hrel
  by_cases hlt:k<nl
  ·obtain ⟨x,hx⟩:∃ x,ls[k]?=some x:=⟨_,List.getElem?_eq_getElem (by rw [HNL.out];exact hlt)⟩
   obtain ⟨b,off,rfl,hbb,hbl,g0,g1,g2,g3,g4,g5⟩:=HLS.out k (g x) (by rw [List.getElem?_map,hx];rfl)
   have hkk:=HW.out.trans hke.out
   have q0:=(hkk.cell hbb hbl).trans g0
   have q1:=(hkk.cell hbb hbl).trans g1
   have q2:=(hkk.cell hbb hbl).trans g2
   have q3:=(hkk.cell hbb hbl).trans g3
   have q4:=(hkk.cell hbb hbl).trans g4
   have q5:=(hkk.cell hbb hbl).trans g5
   clear g0 g1 g2 g3 g4 g5 hkk
   have hJ2:J (ls.take k) (wr.alloc (.cells #[.int .i64 (g x).1.v.k,.int .i64 (g x).1.v.n,.int .u64 (g x).1.v.f,.string (g x).1.v.s,.slice (g x).1.ad (g x).1.v.l.length (g x).1.cap,.slice (g x).1.bd (g x).1.v.e.length (g x).1.dap] 26)):=HJ.out _ _ _ none hJs.out (World.grownBy_alloc _ _ none) (fun r e=>by cases e)
   have HX:=Lib.hid hx
   obtain ⟨fn,tmps,assign,body,hy,hR⟩:=HY.out _ x _ hJ2 (by rw [List.length_take,HNL.out];omega)
   have HR:=Lib.hid hR
   clear hx hJ2 hR
   gi_wp2
   refine HR.out.mono ?_
   rintro e W3 (⟨rfl,hJ3,hk3⟩|⟨rfl,hJx3⟩)
   ·have hke3:=(hke.out.trans (KeM.alloc n₀ M wr _)).trans hk3
    have HJ3:=Lib.hid hJ3
    have HKE3:=Lib.hid hke3
    clear hJ3 hke3 hk3
    gi_wp2
    go_roundw
    case rel=>exact ⟨k+1,by omega,by go_num,by rw [take_succ' HX.out];exact HJ3,HKE3⟩
    case measure=>simp [intOf];omega
   ·have HJX:=Lib.hid hJx3
    clear hJx3
    gi_wp2
    refine bodyPost_ret (results_none rfl _ _ _) rfl ?_
    exact ⟨⟨_,rfl⟩,.inr ⟨_,(by rw [<-take_succ' HX.out];exact (List.take_prefix _ _).trans (List.prefix_append _ _)),HJX.out⟩⟩
  ·obtain rfl:k=nl:=by omega
   have hJ1:J ls wr:=by have:=hJs.out;rwa [List.take_of_length_le (by rw [HNL.out];exact Nat.le_refl _)] at this
   have HJ1:=Lib.hid hJ1
   have c5:=C5.out wr hke.out
   clear hJ1 hJs hk hlt
   obtain ⟨wo,hwo⟩:∃ wo:World,wo=wr:=⟨_,rfl⟩
   rw [<-hwo] at hke HJ1 c5 ⊢
   clear hwo wr
   gi_wp2
   gi_loopw [22] (fun i wr=>∃ j:Nat,j<=ne/\i=.int .i64 j/\Hid (J (ls++es.take j) wr)/\Hid (KeM n₀ M wo wr))
    (fun i _=>ne - (intOf i).toNat)
   case atStart=>exact ⟨0,Nat.zero_le _,rfl,(by rw [List.take_zero,List.append_nil];exact HJ1),Lib.hid (KeM.refl _ _ _)⟩
   case round =>
    obtain ⟨j,hj,rfl,hJs,hke2⟩:=hrel
    by_cases hlt:j<ne
    ·obtain ⟨x,hx⟩:∃ x,es[j]?=some x:=⟨_,List.getElem?_eq_getElem (by rw [HNE.out];exact hlt)⟩
     obtain ⟨b,off,key,rfl,hbb,hbl,gk,gs⟩:=HES.out j (g x) (by rw [List.getElem?_map,hx];rfl)
     obtain ⟨g0,g1,g2,g3,g4,g5⟩:=gs.seven
     have hkk:=(HW.out.trans hke.out).trans hke2.out
     have qk:=(hkk.cell hbb hbl).trans gk
     have q0:=(hkk.cell hbb hbl).trans g0
     have q1:=(hkk.cell hbb hbl).trans g1
     have q2:=(hkk.cell hbb hbl).trans g2
     have q3:=(hkk.cell hbb hbl).trans g3
     have q4:=(hkk.cell hbb hbl).trans g4
     have q5:=(hkk.cell hbb hbl).trans g5
     clear gk gs g0 g1 g2 g3 g4 g5 hkk c5
     have hJ2:J (ls++es.take j) (wr.alloc (.cells #[.string key,.int .i64 (g x).1.v.k,.int .i64 (g x).1.v.n,.int .u64 (g x).1.v.f,.string (g x).1.v.s,.slice (g x).1.ad (g x).1.v.l.length (g x).1.cap,.slice (g x).1.bd (g x).1.v.e.length (g x).1.dap] 44)):=HJ.out _ _ _ none hJs.out (World.grownBy_alloc _ _ none) (fun r e=>by cases e)
     have HX:=Lib.hid hx
     obtain ⟨fn,tmps,assign,body,hy,hR⟩:=HY.out _ x _ hJ2 (by rw [List.length_append,List.length_take,HNL.out,HNE.out];omega)
     have HR:=Lib.hid hR
     clear hx hJ2 hR
     gi_wp2
     refine HR.out.mono ?_
     rintro e W3 (⟨rfl,hJ3,hk3⟩|⟨rfl,hJx3⟩)
     ·have hke3:=(hke2.out.trans (KeM.alloc n₀ M wr _)).trans hk3
      have HJ3:=Lib.hid hJ3
      have HKE3:=Lib.hid hke3
      clear hJ3 hke3 hk3
      gi_wp2
      go_roundw
      case rel=>exact ⟨j+1,by omega,by go_num,by rw [take_succ' HX.out,<-List.append_assoc];exact HJ3,HKE3⟩
      case measure=>simp [intOf];omega
     ·have HJX:=Lib.hid hJx3
      clear hJx3
      gi_wp2
      refine bodyPost_ret (results_none rfl _ _ _) rfl ?_
      exact ⟨⟨_,rfl⟩,.inr ⟨_,(by rw [List.append_assoc,<-take_succ' HX.out];exact List.prefix_append_right_inj _ |>.2 (List.take_prefix _ _)),HJX.out⟩⟩
    ·obtain rfl:j=ne:=by omega
     have hJ4:J (ls++es) wr:=by have:=hJs.out;rwa [List.take_of_length_le (by rw [HNE.out];exact Nat.le_refl _)] at this
     have HJ4:=Lib.hid hJ4
     clear hJ4 hJs c5
     gi_wp2
     go_end0
     exact ⟨⟨_,rfl⟩,.inl ⟨_,rfl,HJ4.out⟩⟩
end Go.Proofs.YtldhmfkojaekfaaGreatDoor
namespace Go.Proofs.YtldhmfkojaekfaaGreatDoor
open Go.RowKit Go.Shelf Gx
attribute [local go_sem] Oper.semAt_some
set_option maxRecDepth 100000
def DepthPost (n:Nat) (w:World) (e:Ending) (w':World):Prop:=e=.returned (.int .i64 n)/\Below w.heap.size w w'
structure NS (w:World) (c:Int) (W:World):Prop where
 at_:W.heap[w.heap.size+1]?=some (.cells #[.int .i64 c] 3)
 g:Below w.heap.size w W
theorem NS.lt {w:World} {c:Int} {W:World} (h:NS w c W):w.heap.size+1<W.heap.size:=(Array.getElem?_eq_some_iff.1 h.at_).1
theorem NS.keep {w:World} {c:Int} {W W':World} (h:NS w c W) (hb:Below W.heap.size W W'):NS w c W':=⟨(hb.block _ h.lt).trans h.at_,h.g.trans (hb.mono h.g.size)⟩
theorem NS.own {w:World} {c:Int} {W W':World} {r:Option Nat} (h:NS w c W) (hg:W.grownBy W' r) (hr:∀ b,r=some b->w.heap.size+1<b):NS w c W':=by
 have h1:=h.lt
 exact ⟨(hg.block _ h1 (fun e=>by have:=hr _ e.symm;omega)).trans h.at_,⟨hg.os.trans h.g.os,hg.tape.trans h.g.tape,hg.output.trans h.g.output,Nat.le_trans h.g.size hg.size,fun i hi=>(hg.block i (by omega) (fun e=>by have:=hr _ e.symm;omega)).trans (h.g.block i hi)⟩⟩
theorem one_cell {w:World} {b:Nat} {ty:TypeId} {a0:Value} (h:w.heap[b]?=some (.cells #[a0] ty)):w.cell? ⟨b,0,none⟩=some a0/\w.frozen? ⟨b,0,none⟩=false :=
 ⟨by simp [World.cell?,h],by simp [World.frozen?,h]⟩
theorem one_store {w:World} {b:Nat} {ty:TypeId} {a0:Value} (h:w.heap[b]?=some (.cells #[a0] ty)) (u:Value):(w.setCell ⟨b,0,none⟩ u).heap[b]?=some (.cells #[u] ty):=by
 simp [World.setCell,Array.getElem?_modify,h]
theorem NS.set {w:World} {c:Int} {W:World} (h:NS w c W) (d:Int):NS w d (W.setCell ⟨w.heap.size+1,0,none⟩ (.int .i64 d)):=⟨one_store h.at_ _,h.g.setCell (Nat.le_succ _) _⟩
theorem NS.start (w:World) (o:Obj):NS w 0 ((w.alloc o).alloc (.cells #[.int .i64 0] 3)):=by
 refine ⟨?_,((Below.refl _ w).alloc (Nat.le_refl _) _).alloc (by simp) _⟩
 have:=heap_alloc_new (w.alloc o) (.cells #[.int .i64 0] 3)
 rwa [World.size_alloc] at this
abbrev PartAt (w:World) (n₀ M:Nat) (v:V):={ x:LocAt w n₀ M // x.1.v∈v.parts }
def psOf {w:World} {n₀ M:Nat} {v:V} (pre:List (PartAt w n₀ M v)):List V:=pre.map fun x=>x.1.1.v
theorem psOf_snoc {w:World} {n₀ M:Nat} {v:V} (pre:List (PartAt w n₀ M v)) (x:PartAt w n₀ M v):psOf (pre++[x])=psOf pre++[x.1.1.v]:=by simp [psOf]
theorem parts_list {w:World} {n₀ M:Nat} {v:V}:∀ (l:List (LocAt w n₀ M)),(∀ x∈l,x.1.v∈v.parts)->∃ l':List (PartAt w n₀ M v),l'.map (·.1)=l
 | [],_=>⟨[],rfl⟩
 | x::l,h=>by
   obtain ⟨l',hl⟩:=parts_list l (fun y hy=>h y (List.mem_cons_of_mem _ hy))
   exact ⟨⟨x,h x List.mem_cons_self⟩::l',by rw [List.map_cons,hl]⟩
set_option maxHeartbeats 8000000 in
theorem depth_step (v:V) (ad bd:Option Addr) (cap dap:Nat) (w:World) (hq:VAt w (fun _=>True) ⟨v,ad,cap,bd,dap⟩) (hn:v.dep<=1000000)
 (ih:∀ (q:Loc) (w:World),SizeOf.sizeOf q.v<SizeOf.sizeOf v->VAt w (fun _=>True) q->q.v.dep<=1000000->Calls Tryz.prog 19 #[q.val] w (DepthPost q.v.dep w)) :
 Calls Tryz.prog 19 #[.agg #[.int .i64 v.k,.int .i64 v.n,.int .u64 v.f,.string v.s,.slice ad v.l.length cap,.slice bd v.e.length dap]] w (DepthPost v.dep w):=by
 have hns:=NS.start w (.cells #[.int .i64 v.k,.int .i64 v.n,.int .u64 v.f,.string v.s,.slice ad v.l.length cap,.slice bd v.e.length dap] 26)
 have hbox:CellsAt ((w.alloc (.cells #[.int .i64 v.k,.int .i64 v.n,.int .u64 v.f,.string v.s,.slice ad v.l.length cap,.slice bd v.e.length dap] 26)).alloc (.cells #[.int .i64 0] 3)) w.heap.size 0 ⟨v,ad,cap,bd,dap⟩:=by
  refine CellsAt.box (ty:=26) ?_
  rw [Below.heap_alloc _ _ _ (by simp)]
  exact heap_alloc_new w _
 have HV:=Lib.hid hq
 have IH:=Lib.hid ih
 have HNN:=Lib.hid hn
 clear hq ih hn
 refine callsIn_wide.1 (callsIn_of_wp_marks (n:=9) Tryz.func19 rfl trivial ?_)
 simp only [Tryz.ntmps19,List.size_toArray,List.length_cons,List.length_nil,Nat.reduceAdd,Nat.reduceSub,Array.replicate_succ,Array.replicate_zero,List.push_toArray,List.append_toArray,List.nil_append,List.cons_append]
 refine wpIn_wide.2 ?_
 go_upto_region 2 with fail
 generalize hw2:World.alloc (World.alloc w _) _=w2 at hns hbox ⊢
 clear hw2
 obtain ⟨c0,c1,c2,c3,c4,c5⟩:=hbox
 simp only at c0 c1 c2 c3 c4 c5
 have hpt:=parts_any ⟨v,ad,cap,bd,dap⟩ w2
 simp only [Loc.val] at hpt
 have HPT:=Lib.hid hpt
 have HNS:=Lib.hid hns
 clear hpt hns
 go_wp2_with fail
 refine HPT.out.mono ?_
 rintro e w11 ⟨rfl,rfl⟩
 go_wp2_with fail
 have hce:=HNS.out.keep ((Below.refl _ w2).alloc (Nat.le_refl _) (.cells #[.int .i64 v.k,.int .i64 v.n,.int .u64 v.f,.string v.s,.slice ad v.l.length cap,.slice bd v.e.length dap] 26))
 have hbx:(w2.alloc (.cells #[.int .i64 v.k,.int .i64 v.n,.int .u64 v.f,.string v.s,.slice ad v.l.length cap,.slice bd v.e.length dap] 26)).heap[w2.heap.size]?=some (.cells #[.int .i64 v.k,.int .i64 v.n,.int .u64 v.f,.string v.s,.slice ad v.l.length cap,.slice bd v.e.length dap] 26):=heap_alloc_new w2 _
 have hsz:(w2.alloc (.cells #[.int .i64 v.k,.int .i64 v.n,.int .u64 v.f,.string v.s,.slice ad v.l.length cap,.slice bd v.e.length dap] 26)).heap.size=w2.heap.size+1:=by simp
 have hwr:=HNS.out.lt
 obtain ⟨W0,hW0⟩:∃ W0,w2.alloc (.cells #[.int .i64 v.k,.int .i64 v.n,.int .u64 v.f,.string v.s,.slice ad v.l.length cap,.slice bd v.e.length dap] 26)=W0:=⟨_,rfl⟩
 rw [hW0] at hce hbx hsz ⊢
 have hv0:VAt W0 (Bw W0.heap.size (w.heap.size+1)) ⟨v,ad,cap,bd,dap⟩:=HV.out.through hce.g.size (fun b hb hl=>hce.g.block b hl) (fun b hb hl=>⟨by omega,by omega⟩)
 obtain ⟨ls,es,hls,hes⟩:=locs_of hv0
 have hm1:∀ x∈ls,x.1.v∈v.parts:=fun x hx=>List.mem_append_left _ (by rw [<-show ls.map (·.1.v)=v.l from hls.1];exact List.mem_map_of_mem (f:=fun x=>x.1.v) hx)
 have hm2:∀ x∈es,x.1.v∈v.parts:=fun x hx=>List.mem_append_right _ (by rw [<-show es.map (·.1.v)=v.e.map Prod.snd from hes.1];exact List.mem_map_of_mem (f:=fun x=>x.1.v) hx)
 obtain ⟨ls',hl'⟩:=parts_list ls hm1
 obtain ⟨es',he'⟩:=parts_list es hm2
 have hmap:psOf (ls'++es')=v.parts:=by
  unfold psOf
  rw [List.map_append]
  have h1:ls'.map (fun x=>x.1.1.v)=v.l:=by have:=hls.1;rw [<-hl',List.map_map] at this;exact this
  have h2:es'.map (fun x=>x.1.1.v)=v.e.map Prod.snd:=by have:=hes.1;rw [<-he',List.map_map] at this;exact this
  rw [h1,h2];rfl
 have hlb:ls'.length<=1000000000000000:=by have h1:=congrArg List.length hl';rw [List.length_map,hls.len] at h1;rw [h1];have:=HV.out.l.lbound;simp only at this ⊢;omega
 have heb:es'.length<=1000000000000000:=by have h1:=congrArg List.length he';rw [List.length_map,hes.len] at h1;rw [h1];have:=HV.out.e.ebound;simp only at this ⊢;omega
 have HNE:Hid (1+depL (psOf (ls'++es'))=v.dep):=Lib.hid (by rw [hmap,dep_eq])
 rw [<-hl'] at hls
 rw [<-he'] at hes
 clear hW0 c0 c1 c2 c3 c4 c5 hm1 hm2 hl' he' hmap
 refine (wpIn_wide (n:=5)).1 ?_
 refine wpIn_rangeFunc_ownH (encs:=fun x:PartAt W0 W0.heap.size (w.heap.size+1) v=>#[x.1.1.val]) (Kp:=KeM W0.heap.size (w.heap.size+1)) (S:=fun ys=>ys=ls'++es') (Sp:=fun pre=>pre <+: ls'++es') (N:=ls'.length+es'.length) (w0:=W0)
  rfl (by decide) (gf:=55) (lb:=#[.pointer (some ⟨w2.heap.size,0,none⟩)]) rfl trivial (enters_of Tryz.func55 (by kernel_rfl) rfl)
  (fun l J Jx W hW hJ hJx hY h0=>partsG_in 4 (by decide) l w2.heap.size W0.heap.size (w.heap.size+1) W0 ⟨v,ad,cap,bd,dap⟩ (fun x:PartAt W0 W0.heap.size (w.heap.size+1) v=>x.1) ls' es' ⟨by omega,by omega⟩ hls hes hlb heb J Jx W ⟨hW.size,fun k hk hl=>hW.block k hl⟩ hJ hY ((hW.block _ (by omega)).trans hbx) h0)
  (fun h k=>h.trans k) (KeM.put (Nat.le_refl _)) (Below.refl _ _) (fun _=>rfl)
  (fun pre W=>NS w (depL (psOf pre):Int) W/\KeM W0.heap.size (w.heap.size+1) W0 W)
  (fun c pre W=>False)
  (fun s A B row hs hg hr=>⟨hs.1.own hg (fun k e=>by have:=(hr k e).1;omega),hs.2.trans (KeM.grow hg (fun k e hb=>by have:=(hr k e).1;have:=hb.1;omega))⟩)
  (fun c s A B row hs hg hr=>hs)
  ⟨hce,KeM.refl _ _ _⟩
  (fun x a' W=>∃ Bx:Nat,W.heap[Bx]?=some (.cells #[.int .i64 x.1.1.v.k,.int .i64 x.1.1.v.n,.int .u64 x.1.1.v.f,.string x.1.1.v.s,.slice x.1.1.ad x.1.1.v.l.length x.1.1.cap,.slice x.1.1.bd x.1.1.v.e.length x.1.1.dap] 26)/\a'={ tmps:=#[.agg #[.int .i64 v.k,.int .i64 v.n,.int .u64 v.f,.string v.s,.slice ad v.l.length cap,.slice bd v.e.length dap],.pointer (some ⟨w.heap.size,0,none⟩),.int .i64 0,.pointer (some ⟨w.heap.size+1,0,none⟩),.pointer (some ⟨Bx,0,none⟩),.agg #[.int .i64 v.k,.int .i64 v.n,.int .u64 v.f,.string v.s,.slice ad v.l.length cap,.slice bd v.e.length dap],.func (.func 55) #[] #[.pointer (some ⟨w2.heap.size,0,none⟩)],x.1.1.val,undef,undef,undef,undef,undef,undef],defers:=[] })
  (fun x a' _ X Y row hs hg hr=>by
    obtain ⟨Bx,e2,e3⟩:=hs
    exact ⟨Bx,(hg.block Bx (Array.getElem?_eq_some_iff.1 e2).1 (fun e=>by obtain ⟨-,o,ho,hc⟩:=hr Bx e.symm;rw [e2] at ho;cases ho;cases hc)).trans e2,e3⟩)
  ?assign ?body ?done ?stop
 case assign =>
  rintro l pre x W K ⟨hp,hke1⟩ hK
  simp only [Loc.val]
  gi_wp2
  exact hK _ _ ((KeepsOthers.alloc _ _).from _) (KeM.alloc _ _ _ _) ⟨hp.keep ((Below.refl _ W).alloc (Nat.le_refl _) _),hke1.trans (KeM.alloc _ _ _ _)⟩ ⟨W.heap.size,heap_alloc_new W _,rfl⟩
 case body =>
  rintro l pre x a' W hl ⟨rr,hrr⟩ ⟨hp,hke1⟩ ⟨Bx,hbx1,rfl⟩ hlt1
  have hvx:VAt W (fun _=>True) x.1.1:=(x.1.2.through hke1.size (fun b hb hl=>hke1.block b hb hl) (fun b hb hl=>hb)).weak (fun _ _ _=>trivial)
  have hdr:=Gx.drewN_below W 1 W.heap.size
  have hsn:=dep_part x.2
  have hszz:SizeOf.sizeOf x.1.1.v<SizeOf.sizeOf v:=by
   have:=x.2
   unfold V.parts at this
   rcases List.mem_append.1 this with h|h
   ·exact V.lt_l h
   ·obtain ⟨y,hy,e⟩:=List.mem_map.1 h
    rw [<-e];exact V.lt_e hy
  have hih:=IH.out x.1.1 W.drew hszz (hvx.keep hdr) (by have:=HNN.out;omega)
  simp only [Loc.val] at hih
  have HPD:=Lib.hid (hp.keep hdr)
  have HKE:=Lib.hid hke1
  obtain ⟨n0,nf⟩:=one_cell hp.at_
  obtain ⟨x0,x1,x2,x3,x4,x5⟩:=CellsAt.box (q:=x.1.1) hbx1
  obtain ⟨c,hc⟩:∃ c:Int,(depL (psOf pre):Int)=c:=⟨_,rfl⟩
  rw [hc] at n0 HPD
  have hmx:(depL (psOf (pre++[x])):Int)=max c (x.1.1.v.dep:Int):=by rw [psOf_snoc,depL_snoc,<-hc];omega
  obtain ⟨dd,hdd⟩:∃ dd:Int,(x.1.1.v.dep:Int)=dd:=⟨_,rfl⟩
  unfold DepthPost at hih
  rw [hdd] at hih hmx
  have HIH:=Lib.hid hih
  have HMX:=Lib.hid hmx
  clear hih hvx hdr hsn hszz hp hke1 hbx1 hc hdd hmx
  gi_wp2_with fail
  gi_region_with (first|(refine ⟨trivial,?_⟩;(with_reducible refine (CallsIn.inRound l (callsIn_wide.2 HIH.out)).mono ?_);rintro e w12 ⟨rfl,hb12⟩;have hp12:=HPD.out.keep hb12;have HB12:=Lib.hid hb12;have HP12:=Lib.hid hp12;obtain ⟨n12,nf12⟩:=one_cell hp12.at_;clear hb12 hp12)|((with_reducible refine (CallsIn.inRound l (callsIn_wide.2 HIH.out)).mono ?_);rintro e w12 ⟨rfl,hb12⟩;have hp12:=HPD.out.keep hb12;have HB12:=Lib.hid hb12;have HP12:=Lib.hid hp12;obtain ⟨n12,nf12⟩:=one_cell hp12.at_;clear hb12 hp12))
  all_goals
   have hb:Below W.heap.size W w12:=(Gx.drewN_below W 1 W.heap.size).trans HB12.out
   have hg:W.grownBy (w12.setCell ⟨w.heap.size+1,0,none⟩ (.int .i64 (max c dd))) (some (w.heap.size+1)):=by
    have h1:=grown_none hb
    have h2:=grown_cell w12 (w.heap.size+1) 0 (.int .i64 (max c dd))
    exact ⟨h2.os.trans h1.os,h2.tape.trans h1.tape,h2.output.trans h1.output,Nat.le_trans h1.size h2.size,fun i hi hne=>(h2.block i (Nat.lt_of_lt_of_le hi h1.size) hne).trans (h1.block i hi (fun e=>by cases e))⟩
   have HK1:=Lib.hid (KeepsFrom.of_grownBy (B:=W0.heap.size) hg (fun k e=>by cases e;omega))
   have HK2:=Lib.hid (KeM.grow (n₀:=W0.heap.size) (M:=w.heap.size+1) hg (fun k e hb=>by cases e;exact hb.2 rfl))
   have HK3:Hid (KeM W0.heap.size (w.heap.size+1) W0 (w12.setCell ⟨w.heap.size+1,0,none⟩ (.int .i64 (max c dd)))):=Lib.hid (HKE.out.trans HK2.out)
   have HN3:Hid (NS w (depL (psOf (pre++[x])):Int) (w12.setCell ⟨w.heap.size+1,0,none⟩ (.int .i64 (max c dd)))):=Lib.hid (by
    have e:(depL (psOf (pre++[x])):Int)=max c dd:=HMX.out
    rw [e]
    exact HP12.out.set _)
   clear hb hg
   gi_wp2_with fail
   exact ⟨HK1.out,HK2.out,HN3.out,HK3.out⟩
 case done =>
  rintro D ys W hD rfl ⟨hp,hke1⟩ hK
  have hce2:=hp.own (grownBy_putObj' _ D (.deferred none)) (fun k e=>by cases e;omega)
  have HCE2:=Lib.hid hce2
  have HK2:=Lib.hid hK
  obtain ⟨n0,nf⟩:=one_cell hp.at_
  have h1:=HNE.out
  have h2:=HNN.out
  have hw:wrap64 ((depL (psOf (ls'++es')):Int)+1)=(v.dep:Int):=by
   rw [show ((depL (psOf (ls'++es')):Int)+1)=(v.dep:Int) by omega]
   unfold wrap64;omega
  have HW:=Lib.hid hw
  clear hw hp hce2 hK hke1 h1 h2
  go_wp2_with fail
  refine ⟨by simp,.inl ⟨_,_,rfl,run_takeDeferred HK2.out,?_⟩⟩
  refine ⟨.int .i64 (v.dep:Nat),by rw [<-HW.out];simp [results,Tryz.results19,go_sem],rfl,?_⟩
  exact HCE2.out.g
 case stop =>
  rintro D c pre W hD hSp hf hK
  exact hf.elim
theorem depth_any (q:Loc) (w:World) (hq:VAt w (fun _=>True) q) (hn:q.v.dep<=1000000):Calls Tryz.prog 19 #[q.val] w (DepthPost q.v.dep w):=by
 have key:∀ (n:Nat) (q:Loc) (w:World),SizeOf.sizeOf q.v<=n->VAt w (fun _=>True) q->q.v.dep<=1000000->Calls Tryz.prog 19 #[q.val] w (DepthPost q.v.dep w):=by
  intro n
  induction n with
  | zero=>intro q w h;cases q with|mk v _ _ _ _=>cases v;simp at h
  | succ n ih=>exact fun q w h hq hn=>depth_step q.v q.ad q.bd q.cap q.dap w hq hn (fun q' w' h' hq' hn'=>ih q' w' (by omega) hq' hn')
 exact key _ q w (Nat.le_refl _) hq hn
end Go.Proofs.YtldhmfkojaekfaaGreatDoor
namespace Go.Proofs.YtldhmfkojaekfaaGreatDoor
open Go.RowKit Gx
def Stop (r:List UInt8):Prop:=∀ c,r.head?=some c->c=44\/c=93\/c=125\/c=10
def indentT (k:Nat):List UInt8:=List.replicate (2 * k) 32
def preT (many:Bool) (deep i:Nat):List UInt8:=if many then 10::indentT (deep+1) else if i=0 then [] else [44,32]
def postT (many:Bool):List UInt8:=if many then [44] else []
def tailT (many:Bool) (deep n:Nat):List UInt8:=if many && decide (0<n) then 10::indentT deep else []
def elemsT {α:Type} (many:Bool) (deep:Nat) (E:α->List UInt8):Nat->List α->List UInt8
 | _,[]=>[]
 | i,x::l=>preT many deep i++E x++postT many++elemsT many deep E (i+1) l
def shwD (leafT:V->List UInt8) (keyT:ByteArray->List UInt8) (many:Bool):Nat->Nat->V->List UInt8
 | 0,_,_=>[]
 | d+1,deep,v =>
   if v.k=5 then 91::(elemsT many deep (shwD leafT keyT many d (deep+1)) 0 v.l++(tailT many deep v.l.length++[93]))
   else if v.k=6 then 123::(elemsT many deep (fun x:ByteArray×V=>keyT x.1++([58,32]++shwD leafT keyT many d (deep+1) x.2)) 0 v.e++(tailT many deep v.e.length++[125]))
   else leafT v
theorem elemsT_snoc {α:Type} (many:Bool) (deep:Nat) (E:α->List UInt8):∀ (l:List α) (i:Nat) (x:α),elemsT many deep E i (l++[x])=elemsT many deep E i l++(preT many deep (i+l.length)++E x++postT many)
 | [],i,x=>by simp [elemsT]
 | y::l,i,x=>by
   rw [List.cons_append,elemsT,elemsT,elemsT_snoc many deep E l (i+1) x,show i+1+l.length=i+(y::l).length by simp;omega]
   simp
structure Tells2 (leafT:V->List UInt8) (keyT:ByteArray->List UInt8) (G:V->Prop) (K:ByteArray->Prop):Prop where
 leaf:∀ v w r s,G v->G w->v.k≠5->v.k≠6->w.k≠5->w.k≠6->Stop r->Stop s->leafT v++r=leafT w++s->v=w/\r=s
 head:∀ v,G v->v.k≠5->v.k≠6->∃ c t,leafT v=c::t/\c≠93/\c≠125/\c≠91/\c≠123
 key:∀ k m r s,K k->K m->keyT k++58::r=keyT m++58::s->k=m/\r=s
 khead:∀ k,K k->∃ c t,keyT k=c::t/\c≠93/\c≠125
structure Fam (G:Nat->V->Prop):Prop where
 zero:∀ v,¬ G 0 v
 list:∀ d v,G (d+1) v->v.k=5->v=.mk 5 0 0 ⟨#[]⟩ v.l []
 table:∀ d v,G (d+1) v->v.k=6->v=.mk 6 0 0 ⟨#[]⟩ [] v.e
 l:∀ d v,G (d+1) v->∀ x∈v.l,G d x
 e:∀ d v,G (d+1) v->∀ x∈v.e,G d x.2
theorem shw_head {G:Nat->V->Prop} {leafT:V->List UInt8} {keyT:ByteArray->List UInt8} {K:ByteArray->Prop} {many:Bool} {d deep:Nat} {v:V} (H:∀ d,Tells2 leafT keyT (G (d+1)) K) (h:G (d+1) v):∃ c t,shwD leafT keyT many (d+1) deep v=c::t/\c≠93/\c≠125:=by
 rw [shwD]
 by_cases h5:v.k=5
 ·rw [if_pos h5];exact ⟨91,_,rfl,by decide,by decide⟩
 rw [if_neg h5]
 by_cases h6:v.k=6
 ·rw [if_pos h6];exact ⟨123,_,rfl,by decide,by decide⟩
 rw [if_neg h6]
 obtain ⟨c,t,h1,h2,h3,-⟩:=(H d).head v h h5 h6
 exact ⟨c,t,h1,h2,h3⟩
def Toks (E:List UInt8) (ts:List Kb):Prop:=∀ z,Stop z->kbs (E++z)=ts++kbs z
set_option maxRecDepth 100000
def isNan (b:Nat):Prop:=b / 4503599627370496 % 2048=2047/\b % 4503599627370496≠0
theorem Rnd.same {Y D W E b:Nat} (h:Rnd Y D b) (hD:0<D) (hE:0<E) (he:Y * E=W * D):Rnd W E b :=
 Rnd.between h h hD hD hE (Nat.le_of_eq he) (Nat.le_of_eq he.symm)
theorem text_reads {b:Nat} {t:List UInt8} (hb:b<18446744073709551616) (ht:TextIs b t):ReadIs t (if b / 4503599627370496 % 2048=2047/\b % 4503599627370496≠0 then 9221120237041090561 else b) 0:=by
 have hs:b=b % 9223372036854775808+signBit (decide (9223372036854775808<=b)):=by
  unfold signBit
  by_cases h:9223372036854775808<=b
  ·rw [decide_eq_true h,if_pos rfl];omega
  ·rw [decide_eq_false h,if_neg (by decide)];omega
 rcases ht with ⟨h1,h2,rfl⟩|⟨h1,h2,rfl⟩|⟨h1,h2,rfl⟩|⟨h1,h2,c,m,z,kk,hS,hc,hm,hm0,hl,k1,k2,rfl⟩
 ·rw [if_pos ⟨h1,h2⟩]
  exact .inr ⟨by decide,.inl ⟨rfl,rfl,rfl⟩⟩
 ·rw [if_neg (fun h=>h.2 h2)]
  obtain ⟨f1,f2,f3,f4⟩:=sg_facts b 105 [110,102] (by decide)
  have e:sgOf b++infTxt=sgOf b++105::[110,102]:=rfl
  refine .inr ⟨?_,.inr (.inl ⟨?_,?_,?_,rfl⟩)⟩
  ·rw [List.length_append];have:infTxt.length=3:=rfl;omega
  ·rw [e];exact f3 (by decide)
  ·rw [e,f2];rfl
  ·rw [e,f1]
   have:b % 9223372036854775808=9218868437227405312:=by omega
   omega
 ·rw [if_neg (fun h=>h1 h.1)]
  obtain ⟨f1,f2,f3,f4⟩:=sg_facts b 48 [46,48] (by decide)
  refine .inr ⟨?_,.inr (.inr ⟨f3 (by decide),?_,?_⟩)⟩
  ·rw [List.length_append];simp;omega
  ·rw [f2];decide
  ·rw [f1,f2]
   have e:litOf [48,46,48]=some ([48,48],-1):=rfl
   refine .inr ⟨_,_,0,e,?_,.inr ⟨by omega,by omega,rfl⟩⟩
   have e2:decVal (Lib.trimLeftB [48,48] 48)=0:=rfl
   rw [e2]
   unfold Hits
   rw [Nat.zero_mul]
   exact rnd_zero75 _ (tenDn_pos _)
 ·rw [if_neg (fun h=>h1 h.1)]
  obtain ⟨hd,tl,hp,hdig⟩:=point_head (decText m) (kk+(z:Int)) (text_digits m) (text_ne m)
  have hpl:=point_len (decText m) (kk+(z:Int)) hl (by omega) (by omega)
  obtain ⟨a,y,hlit,hy⟩:=lit_point (decText m) (kk+(z:Int)) (text_digits m) (text_ne m) (dec_head m hm0) hl (by omega) (by omega)
  have hd45:hd≠45:=by rintro rfl;revert hdig;decide
  have hd110:hd≠110:=by rintro rfl;revert hdig;decide
  have hd105:hd≠105:=by rintro rfl;revert hdig;decide
  obtain ⟨f1,f2,f3,f4⟩:=sg_facts b hd tl hd45
  have hlen:(sgOf b++pointOf (decText m) (kk+(z:Int))).length<=30:=by rw [List.length_append];omega
  rw [hp] at hlen hlit ⊢
  refine .inr ⟨by omega,.inr (.inr ⟨f3 hd110,?_,?_⟩)⟩
  ·rw [f2];intro h3;exact hd105 (List.cons.inj h3).1
  ·rw [f1,f2]
   refine .inr ⟨_,_,b % 9223372036854775808,hlit,?_,.inr ⟨by omega,hs,rfl⟩⟩
   rw [trimLeft_point _ _ _ (text_ne m) (dec_head m hm0),decVal_noughts,decVal_text,show max (min (kk+(z:Int) - (y:Int)) 1000) (-1000)=kk+(z:Int) - (y:Int) by omega]
   have hit:Hits c kk (b % 9223372036854775808):=by
    obtain ⟨N,D,top,n0,-,-,-,-,-,-,-,rfl,-,g,-⟩:=hS
    exact g
   refine Rnd.same hit (tenDn_pos _) (tenDn_pos _) (y75_mul _ _ _ _ ?_)
   rw [hc]
   exact (same_num m z y kk _ rfl).symm
theorem text_uniq {b:Nat} {s t:List UInt8} (hb:TextIs b s) (hd:TextIs b t):s=t:=by
 rcases hb with ⟨h1,h2,rfl⟩|⟨h1,h2,rfl⟩|⟨h1,h2,rfl⟩|⟨h1,h2,c,m,z,kk,hS,hc,hm,hm0,hl,k1,k2,rfl⟩
 ·rcases hd with ⟨g1,g2,rfl⟩|⟨g1,g2,rfl⟩|⟨g1,g2,rfl⟩|⟨g1,g2,-⟩
  ·rfl
  ·omega
  ·omega
  ·omega
 ·rcases hd with ⟨g1,g2,rfl⟩|⟨g1,g2,rfl⟩|⟨g1,g2,rfl⟩|⟨g1,g2,-⟩
  ·omega
  ·rfl
  ·omega
  ·omega
 ·rcases hd with ⟨g1,g2,rfl⟩|⟨g1,g2,rfl⟩|⟨g1,g2,rfl⟩|⟨g1,g2,-⟩
  ·omega
  ·omega
  ·rfl
  ·omega
 ·rcases hd with ⟨g1,g2,rfl⟩|⟨g1,g2,rfl⟩|⟨g1,g2,rfl⟩|⟨g1,g2,c',m',z',kk',hS',hc',hm',hm0',hl',k1',k2',rfl⟩
  ·omega
  ·omega
  ·omega
  ·obtain ⟨rfl,rfl⟩:=shortIs_uniq hS hS'
   obtain ⟨rfl,rfl⟩:=ten_free (hc.symm.trans hc') hm hm'
   rfl
theorem text_tell {a b:Nat} {t:List UInt8} (ha:a<18446744073709551616) (hb:b<18446744073709551616) (h:TextIs a t) (g:TextIs b t) (na:isNan a->a=9221120237041090561) (nb:isNan b->b=9221120237041090561):a=b:=by
 unfold isNan at na nb
 have r:=text_reads ha h
 by_cases hn:b / 4503599627370496 % 2048=2047/\b % 4503599627370496≠0
 ·have r2:=text_reads hb g
  rw [if_pos hn] at r2
  by_cases hm:a / 4503599627370496 % 2048=2047/\a % 4503599627370496≠0
  ·rw [na hm,nb hn]
  ·have:=(text_back ha h r2 hm).1
   rw [nb hn,this]
 ·have:=(text_back hb g r hn).1
  by_cases hm:a / 4503599627370496 % 2048=2047/\a % 4503599627370496≠0
  ·rw [if_pos hm] at this;rw [na hm,this]
  ·rw [if_neg hm] at this;exact this
def fCh (c:UInt8):Bool:=isDigit c || c==45 || c==46 || c==101 || c==105 || c==110 || c==102 || c==97
def iCh (c:UInt8):Bool:=isDigit c || c==45
theorem iCh_f {c:UInt8} (h:iCh c=true):fCh c=true:=by unfold iCh at h;unfold fCh;simp only [Bool.or_eq_true] at h ⊢;rcases h with h|h<;>simp [h]
theorem itoa_ch (n:Int):∀ c∈Lib.itoa n,iCh c=true:=by
 intro c hc
 unfold Lib.itoa at hc
 unfold iCh
 by_cases h:n<0
 ·rw [if_pos h,decDigits_text] at hc
  rcases List.mem_cons.1 hc with rfl|hc
  ·rfl
  ·rw [text_digits _ c hc];rfl
 ·rw [if_neg h,decDigits_text] at hc
  rw [text_digits _ c hc];rfl
theorem itoa_ne (n:Int):Lib.itoa n≠[]:=by
 unfold Lib.itoa
 split
 ·simp
 ·rw [decDigits_text];exact text_ne _
theorem itoa_tell {n m:Int} (h:Lib.itoa n=Lib.itoa m):n=m:=by
 have hne:∀ u v,45::decText u≠decText v:=by
  intro u v e
  have:=text_digits v 45 (by rw [<-e];simp)
  exact absurd this (by decide)
 have hd:∀ u v,decText u=decText v->u=v:=fun u v e=>by
  have:=congrArg decVal e
  rwa [decVal_text,decVal_text] at this
 unfold Lib.itoa at h
 rw [decDigits_text,decDigits_text,decDigits_text,decDigits_text] at h
 by_cases h1:n<0
 ·rw [if_pos h1] at h
  by_cases h2:m<0
  ·rw [if_pos h2] at h
   have:=hd _ _ (List.cons.inj h).2
   omega
  ·rw [if_neg h2] at h;exact (hne _ _ h).elim
 ·rw [if_neg h1] at h
  by_cases h2:m<0
  ·rw [if_pos h2] at h;exact (hne _ _ h.symm).elim
  ·rw [if_neg h2] at h
   have:=hd _ _ h
   omega
theorem point_ch (d:List UInt8) (k:Int) (h1:∀ b∈d,isDigit b=true):(∀ c∈pointOf d k,fCh c=true)/\∃ c∈pointOf d k,iCh c=false:=by
 have hd:∀ c∈d,fCh c=true:=fun c hc=>iCh_f (by unfold iCh;rw [h1 c hc];rfl)
 have hr:∀ n,∀ c∈List.replicate n (48:UInt8),fCh c=true:=fun n c hc=>by rw [List.eq_of_mem_replicate hc];decide
 unfold pointOf
 split
 ·refine ⟨fun c hc=>?_,46,by simp,by decide⟩
  rcases List.mem_append.1 hc with hc|hc
  ·rcases List.mem_append.1 hc with hc|hc
   ·simp only [List.mem_cons,List.not_mem_nil,or_false] at hc
    rcases hc with rfl|rfl<;>decide
   ·exact hr _ c hc
  ·exact hd c hc
 split
 ·refine ⟨fun c hc=>?_,46,by simp,by decide⟩
  rcases List.mem_append.1 hc with hc|hc
  ·exact hd c (List.mem_of_mem_take hc)
  ·rcases List.mem_cons.1 hc with rfl|hc
   ·decide
   ·exact hd c (List.mem_of_mem_drop hc)
 split
 ·refine ⟨fun c hc=>?_,46,by simp,by decide⟩
  rcases List.mem_append.1 hc with hc|hc
  ·rcases List.mem_append.1 hc with hc|hc
   ·exact hd c hc
   ·exact hr _ c hc
  ·simp only [List.mem_cons,List.not_mem_nil,or_false] at hc
   rcases hc with rfl|rfl<;>decide
 ·refine ⟨fun c hc=>?_,101,by simp,by decide⟩
  rcases List.mem_append.1 hc with hc|hc
  ·rcases List.mem_append.1 hc with hc|hc
   ·exact hd c (List.mem_of_mem_take hc)
   ·split at hc
    ·rcases List.mem_cons.1 hc with rfl|hc
     ·decide
     ·exact hd c (List.mem_of_mem_drop hc)
    ·cases hc
  ·rcases List.mem_cons.1 hc with rfl|hc
   ·decide
   ·exact iCh_f (itoa_ch _ c hc)
theorem text_ch {b:Nat} {t:List UInt8} (h:TextIs b t):(∀ c∈t,fCh c=true)/\(∃ c∈t,iCh c=false)/\t.length<=30:=by
 have hsg:∀ c∈sgOf b,fCh c=true:=fun c hc=>by
  unfold sgOf at hc
  split at hc
  ·rw [List.mem_singleton.1 hc];decide
  ·cases hc
 have hsl:(sgOf b).length<=1:=by unfold sgOf;split<;>simp
 have app:∀ u,((∀ c∈u,fCh c=true)/\∃ c∈u,iCh c=false)->u.length<=29->(∀ c∈sgOf b++u,fCh c=true)/\(∃ c∈sgOf b++u,iCh c=false)/\(sgOf b++u).length<=30:=by
  rintro u ⟨h1,c,h2,h3⟩ h4
  refine ⟨fun c hc=>?_,⟨c,List.mem_append_right _ h2,h3⟩,by rw [List.length_append];omega⟩
  rcases List.mem_append.1 hc with hc|hc
  ·exact hsg c hc
  ·exact h1 c hc
 rcases h with ⟨h1,h2,rfl⟩|⟨h1,h2,rfl⟩|⟨h1,h2,rfl⟩|⟨h1,h2,c,m,z,kk,hS,hc,hm,hm0,hl,k1,k2,rfl⟩
 ·exact ⟨by decide,⟨110,by decide,by decide⟩,by decide⟩
 ·exact app _ ⟨by decide,105,by decide,by decide⟩ (by decide)
 ·exact app _ ⟨by decide,46,by decide,by decide⟩ (by decide)
 ·exact app _ (point_ch _ _ (text_digits m)) (point_len _ _ hl (by omega) (by omega))
end Go.Proofs.YtldhmfkojaekfaaGreatDoor
