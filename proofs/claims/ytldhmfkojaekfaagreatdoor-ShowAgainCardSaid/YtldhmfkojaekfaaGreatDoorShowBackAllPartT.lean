/-
  Lemmas for the statement: plain laws, and what functions answer; the conditions stand in each.
-/
import Derived.Test.YtldhmfkojaekfaaGreatDoorShowBackAllPartS
set_option linter.unusedVariables false
set_option linter.unusedSimpArgs false
namespace Go.Proofs.YtldhmfkojaekfaaGreatDoor
open Go.RowKit Gx
set_option maxRecDepth 100000
def cmpEn (f:V->V->Int) (x y:ByteArray×V):Int:=orL [sgnB x.1 y.1,f x.2 y.2]
def cmpD:Nat->V->V->Int
 | 0,_,_=>0
 | n+1,v,u=>orL [sgn v.k u.k,sgn v.n u.n,sgn (fbits v.f) (fbits u.f),sgnB v.s u.s,cmpL (cmpD n) v.l u.l,cmpL (cmpEn (cmpD n)) v.e u.e]
structure TwoE (w:World) (x y:ByteArray) (q p:Loc) (W:World):Prop where
 a:SevAt W w.heap.size x q
 b:SevAt W (w.heap.size+1) y p
 g:Below w.heap.size w W
 s:w.heap.size+2<=W.heap.size
theorem TwoE.start (x y:ByteArray) (q p:Loc) (w:World):TwoE w x y q p ((w.alloc (.cells #[.string x,.int .i64 q.v.k,.int .i64 q.v.n,.int .u64 q.v.f,.string q.v.s,.slice q.ad q.v.l.length q.cap,.slice q.bd q.v.e.length q.dap] 44)).alloc
 (.cells #[.string y,.int .i64 p.v.k,.int .i64 p.v.n,.int .u64 p.v.f,.string p.v.s,.slice p.ad p.v.l.length p.cap,.slice p.bd p.v.e.length p.dap] 44)):=by
 refine ⟨?_,?_,((Below.refl _ w).alloc (Nat.le_refl _) _).alloc (by simp) _,by simp⟩
 ·refine SevAt.box (ty:=44) ?_
  rw [Below.heap_alloc _ _ _ (by simp)]
  exact heap_alloc_new w _
 ·refine SevAt.box (ty:=44) ?_
  have:=heap_alloc_new (w.alloc (.cells #[.string x,.int .i64 q.v.k,.int .i64 q.v.n,.int .u64 q.v.f,.string q.v.s,.slice q.ad q.v.l.length q.cap,.slice q.bd q.v.e.length q.dap] 44)) (.cells #[.string y,.int .i64 p.v.k,.int .i64 p.v.n,.int .u64 p.v.f,.string p.v.s,.slice p.ad p.v.l.length p.cap,.slice p.bd p.v.e.length p.dap] 44)
  rwa [World.size_alloc] at this
theorem TwoE.keep {w:World} {x y:ByteArray} {q p:Loc} {W W':World} (h:TwoE w x y q p W) (hb:Below W.heap.size W W'):TwoE w x y q p W':=by
 have hs:=h.s
 exact ⟨h.a.through (hb.block _ (by omega)),h.b.through (hb.block _ (by omega)),h.g.trans (hb.mono h.g.size),by have:=hb.size;omega⟩
def SevTwo (w:World) (a b:Nat) (x y:ByteArray) (q p:Loc):Prop :=
 w.cell? ⟨a,0,none⟩=some (.string x)/\w.cell? ⟨a,1,none⟩=some (.int .i64 q.v.k)/\w.cell? ⟨a,2,none⟩=some (.int .i64 q.v.n)/\w.cell? ⟨a,3,none⟩=some (.int .u64 q.v.f)/\w.cell? ⟨a,4,none⟩=some (.string q.v.s)/\w.cell? ⟨a,5,none⟩=some (.slice q.ad q.v.l.length q.cap)/\w.cell? ⟨a,6,none⟩=some (.slice q.bd q.v.e.length q.dap)/\w.cell? ⟨b,0,none⟩=some (.string y)/\w.cell? ⟨b,1,none⟩=some (.int .i64 p.v.k)/\w.cell? ⟨b,2,none⟩=some (.int .i64 p.v.n)/\w.cell? ⟨b,3,none⟩=some (.int .u64 p.v.f)/\w.cell? ⟨b,4,none⟩=some (.string p.v.s)/\w.cell? ⟨b,5,none⟩=some (.slice p.ad p.v.l.length p.cap)/\w.cell? ⟨b,6,none⟩=some (.slice p.bd p.v.e.length p.dap)
theorem TwoE.cells {w:World} {x y:ByteArray} {q p:Loc} {W:World} (h:TwoE w x y q p W):SevTwo W w.heap.size (w.heap.size+1) x y q p :=
 ⟨h.a.k,h.a.c0,h.a.c1,h.a.c2,h.a.c3,h.a.c4,h.a.c5,h.b.k,h.b.c0,h.b.c1,h.b.c2,h.b.c3,h.b.c4,h.b.c5⟩
def SixTwo (w:World) (a b:Nat) (q p:Loc):Prop :=
 w.cell? ⟨a,0,none⟩=some (.int .i64 q.v.k)/\w.cell? ⟨a,1,none⟩=some (.int .i64 q.v.n)/\w.cell? ⟨a,2,none⟩=some (.int .u64 q.v.f)/\w.cell? ⟨a,3,none⟩=some (.string q.v.s)/\w.cell? ⟨a,4,none⟩=some (.slice q.ad q.v.l.length q.cap)/\w.cell? ⟨a,5,none⟩=some (.slice q.bd q.v.e.length q.dap)/\w.cell? ⟨b,0,none⟩=some (.int .i64 p.v.k)/\w.cell? ⟨b,1,none⟩=some (.int .i64 p.v.n)/\w.cell? ⟨b,2,none⟩=some (.int .u64 p.v.f)/\w.cell? ⟨b,3,none⟩=some (.string p.v.s)/\w.cell? ⟨b,4,none⟩=some (.slice p.ad p.v.l.length p.cap)/\w.cell? ⟨b,5,none⟩=some (.slice p.bd p.v.e.length p.dap)
theorem Two.cells {w:World} {q p:Loc} {W:World} (h:Two w q p W):SixTwo W w.heap.size (w.heap.size+1) q p :=
 ⟨h.a.c0,h.a.c1,h.a.c2,h.a.c3,h.a.c4,h.a.c5,h.b.c0,h.b.c1,h.b.c2,h.b.c3,h.b.c4,h.b.c5⟩
inductive WfAll:V->Prop
 | mk (v:V) (h:v.wf) (hl:∀ x∈v.l,WfAll x) (he:∀ x∈v.e,WfAll x.2):WfAll v
theorem WfAll.own {v:V} (h:WfAll v):v.wf:=by cases h;assumption
theorem WfAll.l {v:V} (h:WfAll v):∀ x∈v.l,WfAll x:=by cases h;assumption
theorem WfAll.e {v:V} (h:WfAll v):∀ x∈v.e,WfAll x.2:=by cases h;assumption
theorem RowAt.wfAll {w:World} {B:Nat->Prop} {t:Bool} {xs:List (ByteArray×V)} {v:Value} (h:RowAt w B t xs v):∀ x∈xs,WfAll x.2:=by
 induction h with
 | nil=>intro x hx;cases hx
 | row t xs blk off cap sl se hne hn hB hlt hk hc hl he ihl ihe =>
   intro x hx
   obtain ⟨i,hi,rfl⟩:=List.getElem_of_mem hx
   have hi':xs[i]?=some xs[i]:=List.getElem?_eq_getElem hi
   refine .mk _ (hc i _ hi').1 (fun y hy=>?_) (fun y hy=>ihe i _ hi' y hy)
   exact ihl i _ hi' (⟨#[]⟩,y) (by simp [lp];exact hy)
theorem VAt.wfAll {w:World} {B:Nat->Prop} {q:Loc} (h:VAt w B q):WfAll q.v :=
 .mk _ h.wf (fun x hx=>h.l.wfAll (⟨#[]⟩,x) (by simp [lp];exact hx)) (fun x hx=>h.e.wfAll x hx)
def kbOf (t:Tk):Kb:=(t.1,t.2.2)
def kbs (l:List UInt8):List Kb:=kbX (treeX l) 0
theorem kbs_sol (l:List UInt8) (o:Nat):(solO l o).map kbOf=kbs l:=by
 unfold solO kbs kbX
 rw [List.map_map]
 rfl
theorem ok_G {l:List UInt8} {v:V} (hl:l.length<=20000):((parseS (treeX l)).bad=0/\meanN (treeX l) 21 (rootN l)=.ok v)↔G 20 (kbs l) v []:=by
 constructor
 ·rintro ⟨h1,h2⟩
  have h:=run_G (treeX_mark l) 20 ⟨0,0,0⟩ v (Nat.zero_le _) (parse_bad h1) h2
  have he:kbX (treeX l) (valueS (treeX l) 20 ⟨0,0,0⟩).1.i=[]:=by
   unfold parseS endS at h1
   split at h1
   ·exact (fail_not (by decide) h1).elim
   ·rename_i hn
    rcases skip_kb (treeX l) (valueS (treeX l) 20 ⟨0,0,0⟩).1 with ⟨-,g⟩|⟨g,-⟩
    ·exact g
    ·exact absurd g hn
  rw [he] at h
  exact h
 ·intro h
  have hT:(treeX l).T.length<=20000:=Nat.le_trans (toks_len l) hl
  obtain ⟨h1,h2,h3,h4,h5⟩:=G_run (treeX_mark l) (show (treeX l).T.length+2<=30000 by omega) 20 _ v [] ⟨0,0,0⟩ h rfl (Nat.zero_le _) rfl
  refine ⟨?_,h5⟩
  unfold parseS endS
  rcases skip_kb (treeX l) (valueS (treeX l) 20 ⟨0,0,0⟩).1 with ⟨g,-⟩|⟨-,-,g⟩
  ·rw [if_neg (by omega)];exact h1
  ·rw [h2] at g;cases g
theorem meanOk_iff {l:List UInt8} {v:V}:MeanOk l v↔l.length<=20000/\G 20 (kbs l) v []/\chkV v=0:=by
 constructor
 ·rintro ⟨h1,h2,h3,h4⟩
  exact ⟨h1,(ok_G h1).1 ⟨h2,h3⟩,h4⟩
 ·rintro ⟨h1,h2,h3⟩
  have:=(ok_G h1).2 h2
  exact ⟨h1,this.1,this.2,h3⟩
def kindOk (t:Kb):Prop:=t.1=4\/t.1=5\/t.1=6
def blanks5:List (List UInt8):=[[32],[10],[9,13],[47,42,32,44,32,42,47],[35,32,125,10]]
set_option maxRecDepth 100000
theorem ok_not_bad {l:List UInt8} {v:V} {a:Nat} {c:Int} (h:MeanOk l v) (g:MeanBad l a c):False:=by
 obtain ⟨h1,h2,h3,h4⟩:=h
 rcases g with ⟨g,-⟩|⟨-,g,-⟩|⟨-,-,⟨f,g,-⟩|⟨u,g,g2,-⟩⟩
 ·omega
 ·exact g h2
 ·rw [h3] at g;cases g
 ·rw [h3] at g
  rw [<-Except.ok.inj g] at g2
  exact g2 h4
theorem ok_same {l:List UInt8} {v u:V} (h:MeanOk l v) (g:MeanOk l u):v=u:=Except.ok.inj (h.2.2.1.symm.trans g.2.2.1)
theorem mean_calm (S:ByteArray) (v:V) (w:World) (hT:MTabs w) (h:MeanOk S.data.toList v):Calls Tryz.prog 15 #[.string S] w (fun e w'=>Below w.heap.size w w'/\∃ p:Loc,p.v=v/\VAt w' (fun b=>w.heap.size<=b) p/\e=.returned (.tuple #[p.val,.int .i64 0,.int .i64 0])):=by
 have hm:=mean_any S w hT
 unfold MeanPost at hm
 refine hm.mono ?_
 rintro e w' ⟨hb,⟨q,hq,rfl,hv⟩|⟨a,c,hbad,-,-⟩⟩
 ·exact ⟨hb,q,ok_same hq h,hv,rfl⟩
 ·exact (ok_not_bad h hbad).elim
structure MB (w:World) (v:V) (g:Nat) (y:Loc) (W:World):Prop where
 v:y.v=v
 box:W.heap[g]?=some (.cells #[.int .i64 y.v.k,.int .i64 y.v.n,.int .u64 y.v.f,.string y.v.s,.slice y.ad y.v.l.length y.cap,.slice y.bd y.v.e.length y.dap] 26)
 at_:VAt W (fun _=>True) y
 g:Below w.heap.size w W
theorem MB.after {w w5 w6:World} {v:V} {y:Loc} (h5:Below w.heap.size w w5) (h6:Below w5.heap.size w5 w6) (hv:y.v=v) (hy:VAt w6 (fun b=>w5.heap.size<=b) y):MB w v w6.heap.size y (w6.alloc (.cells #[.int .i64 y.v.k,.int .i64 y.v.n,.int .u64 y.v.f,.string y.v.s,.slice y.ad y.v.l.length y.cap,.slice y.bd y.v.e.length y.dap] 26)) :=
 ⟨hv,heap_alloc_new w6 _,(hy.weak (fun _ _ _=>trivial)).keep ((Below.refl w6.heap.size w6).alloc (Nat.le_refl _) _),(h5.trans (h6.mono h5.size)).alloc (Nat.le_trans h5.size h6.size) _⟩
def zero6:Obj:=.cells #[.int .i64 0,.int .i64 0,.int .u64 0,.string ⟨#[]⟩,.slice none 0 0,.slice none 0 0] 26
theorem MB.before {w w5 w6:World} {v:V} {y:Loc} (h5:Below w.heap.size w w5) (h6:Below (w5.alloc zero6).drew.heap.size (w5.alloc zero6).drew w6) (hv:y.v=v) (hy:VAt w6 (fun b=>(w5.alloc zero6).drew.heap.size<=b) y) :
 MB w v w5.heap.size y ((((((w6.setCell ⟨w5.heap.size,0,none⟩ (.int .i64 y.v.k)).setCell ⟨w5.heap.size,1,none⟩ (.int .i64 y.v.n)).setCell ⟨w5.heap.size,2,none⟩ (.int .u64 y.v.f)).setCell ⟨w5.heap.size,3,none⟩ (.string y.v.s)).setCell ⟨w5.heap.size,4,none⟩ (.slice y.ad y.v.l.length y.cap)).setCell ⟨w5.heap.size,5,none⟩ (.slice y.bd y.v.e.length y.dap)):=by
 have hn:=heap_alloc_new w5 zero6
 have hz:(w5.alloc zero6).heap.size=w5.heap.size+1:=World.size_alloc _ _
 have h7:=(h6.block w5.heap.size (by show w5.heap.size<(w5.alloc zero6).heap.size;omega)).trans hn
 obtain ⟨W9,hW9,hr9,ho,hz9,hbw,hvw⟩:=six_all h7 (.int .i64 y.v.k) (.int .i64 y.v.n) (.int .u64 y.v.f) (.string y.v.s) (.slice y.ad y.v.l.length y.cap) (.slice y.bd y.v.e.length y.dap)
 rw [<-hW9]
 have h5a:Below w.heap.size w (w5.alloc zero6).drew:=(h5.alloc h5.size zero6).drew
 refine ⟨hv,hr9,(hvw _ _ hy ?_).weak (fun _ _ _=>trivial),hbw _ _ (h5a.trans (h6.mono h5a.size)) h5.size⟩
 show ¬ (w5.alloc zero6).heap.size<=w5.heap.size
 omega
theorem kb_mark (c:UInt8) (z:List UInt8) (hc:classOf (c.toNat:Int)=6):kbs (c::z)=(6,[c])::kbs z:=by
 rw [<-kbs_sol (c::z) 0,solO_mark c z 0 hc,List.map_cons,kbs_sol];rfl
def listText (s t:List UInt8):List UInt8:=91::(s++10::44::(t++[10,93]))
def tableText (s t:List UInt8):List UInt8:=123::98::61::(s++10::44::32::34::97::34::58::32::(t++[10,44,125]))
def keyA:ByteArray:=⟨#[97]⟩
def keyB:ByteArray:=⟨#[98]⟩
theorem ownV_zero {v:V} (h:ownV v=0):kindBad v.k v.n v.f v.s v.l.length v.e.length=false/\v.s.size<=4000/\v.l.length<=200/\v.e.length<=200/\okText v.s.data.toList:=by
 unfold ownV ownE at h
 by_cases h1:kindBad v.k v.n v.f v.s v.l.length v.e.length=true
 ·rw [if_pos h1] at h;cases h
 rw [if_neg h1] at h
 by_cases h2:4000<v.s.size\/200<v.l.length\/200<v.e.length
 ·rw [if_pos h2] at h;cases h
 rw [if_neg h2] at h
 by_cases h3:okText v.s.data.toList
 ·exact ⟨by simpa using h1,by omega,by omega,by omega,h3⟩
 ·rw [if_neg h3] at h;cases h
structure OwnOk (v:V):Prop where
 k0:0<=v.k
 k6:v.k<=6
 n:v.k≠1->v.k≠2->v.n=0
 n1:v.k=1->v.n=0\/v.n=1
 f:v.k≠3->v.f=0
 s:v.k≠4->v.s=⟨#[]⟩
 l:v.k≠5->v.l=[]
 e:v.k≠6->v.e=[]
 nan:nanBad v.f=false
theorem kindBad_ok {v:V} (h:kindBad v.k v.n v.f v.s v.l.length v.e.length=false):OwnOk v:=by
 unfold kindBad at h
 simp only [Bool.or_eq_false_iff,Bool.and_eq_false_iff,decide_eq_false_iff_not,bne_eq_false_iff_eq,Bool.not_eq_false',beq_iff_eq,Bool.or_eq_true,beq_eq_false_iff_ne,Bool.not_eq_eq_eq_not,Bool.not_true] at h
 obtain ⟨⟨⟨⟨⟨⟨⟨⟨h1,h2⟩,h3⟩,h4⟩,h5⟩,h6⟩,h7⟩,h8⟩,h9⟩:=h
 refine ⟨by omega,by omega,fun a b=>?_,fun a=>?_,fun a=>?_,fun a=>?_,fun a=>?_,fun a=>?_,h6⟩
 ·rcases h3 with h3|h3
  ·simp at h3;omega
  ·exact h3
 ·omega
 ·omega
 ·rcases h7 with h7|h7
  ·exact absurd h7 a
  ·exact empty_of (by simpa using h7)
 ·rcases h8 with h8|h8
  ·exact absurd h8 a
  ·exact List.eq_nil_of_length_eq_zero (by omega)
 ·rcases h9 with h9|h9
  ·exact absurd h9 a
  ·exact List.eq_nil_of_length_eq_zero (by omega)
theorem keyE_short:∀ (e:List (ByteArray×V)) (p:Option ByteArray),keyE p e=0->∀ x∈e,x.1.size<=100/\okText x.1.data.toList
 | [],_,_,x,hx=>by cases hx
 | y::e,p,h,x,hx=>by
   rw [keyE] at h
   by_cases h1:100<y.1.size
   ·rw [if_pos h1] at h;cases h
   rw [if_neg h1] at h
   by_cases h2:okText y.1.data.toList
   ·rw [if_neg (fun g=>g h2)] at h
    by_cases h3:keyBad p y.1=true
    ·rw [if_pos h3] at h;cases h
    rw [if_neg h3] at h
    rcases List.mem_cons.1 hx with rfl|hx
    ·exact ⟨by omega,h2⟩
    ·exact keyE_short e _ h x hx
   ·rw [if_pos h2] at h;cases h
def Gd:Nat->V->Prop
 | 0,_=>False
 | d+1,v=>ownV v=0/\keyE none v.e=0/\∀ x∈v.parts,Gd d x
theorem chk_gd:∀ (d:Nat) (v:V) (m:Nat),(chk d v m).1=0->Gd d v
 | 0,v,m,h=>by simp only [chk] at h;split at h<;>cases h
 | d+1,v,m,h=>by
   simp only [chk] at h
   by_cases h1:2000<m+1
   ·rw [if_pos h1] at h;cases h
   rw [if_neg h1] at h
   by_cases h2:ownV v≠0
   ·rw [if_pos h2] at h;exact absurd h h2
   rw [if_neg h2] at h
   by_cases h3:keyE none v.e≠0
   ·rw [if_pos h3] at h;exact absurd h h3
   rw [if_neg h3] at h
   refine ⟨by omega,by omega,?_⟩
   have hall:∀ (xs:List V) (m:Nat),(chkAll (chk d) xs m).1=0->∀ x∈xs,Gd d x:=by
    intro xs
    induction xs with
    | nil=>intro m _ x hx;cases hx
    | cons y ys ih =>
      intro m hm x hx
      have e:chkAll (chk d) (y::ys) m=if (chk d y m).1=0 then chkAll (chk d) ys (chk d y m).2 else chk d y m:=rfl
      rw [e] at hm
      by_cases hy:(chk d y m).1=0
      ·rw [if_pos hy] at hm
       rcases List.mem_cons.1 hx with rfl|hx
       ·exact chk_gd d x m hy
       ·exact ih _ hm x hx
      ·rw [if_neg hy] at hm;exact absurd hm hy
   exact hall _ _ h
theorem Gd.ok {d:Nat} {v:V} (h:Gd (d+1) v):OwnOk v:=kindBad_ok (ownV_zero h.1).1
theorem Gd.list {d:Nat} {v:V} (h:Gd (d+1) v) (hk:v.k=5):v=.mk 5 0 0 ⟨#[]⟩ v.l []:=by
 have ok:=h.ok
 exact V.ext' hk (ok.n (by omega) (by omega)) (ok.f (by omega)) (ok.s (by omega)) rfl (ok.e (by omega))
theorem Gd.table {d:Nat} {v:V} (h:Gd (d+1) v) (hk:v.k=6):v=.mk 6 0 0 ⟨#[]⟩ [] v.e:=by
 have ok:=h.ok
 exact V.ext' hk (ok.n (by omega) (by omega)) (ok.f (by omega)) (ok.s (by omega)) (ok.l (by omega)) rfl
theorem Gd.l {d:Nat} {v:V} (h:Gd (d+1) v):∀ x∈v.l,Gd d x:=fun x hx=>h.2.2 x (List.mem_append_left _ hx)
theorem Gd.e {d:Nat} {v:V} (h:Gd (d+1) v):∀ x∈v.e,Gd d x.2:=fun x hx=>h.2.2 x.2 (List.mem_append_right _ (List.mem_map_of_mem hx))
def Stop (r:List UInt8):Prop:=∀ c,r.head?=some c->c=44\/c=93\/c=125\/c=10
def indentT (k:Nat):List UInt8:=List.replicate (2 * k) 32
def preT (many:Bool) (deep i:Nat):List UInt8:=if many then 10::indentT (deep+1) else if i=0 then [] else [44,32]
def postT (many:Bool):List UInt8:=if many then [44] else []
def tailT (many:Bool) (deep n:Nat):List UInt8:=if many && decide (0<n) then 10::indentT deep else []
def elemsT {α:Type} (many:Bool) (deep:Nat) (E:α->List UInt8):Nat->List α->List UInt8
 | _,[]=>[]
 | i,x::l=>preT many deep i++E x++postT many++elemsT many deep E (i+1) l
def shwD (leafT:V->List UInt8) (keyT:ByteArray->List UInt8) (many:Bool):Nat->Nat->V->List UInt8
 | 0,_,_=>[]
 | d+1,deep,v =>
   if v.k=5 then 91::(elemsT many deep (shwD leafT keyT many d (deep+1)) 0 v.l++(tailT many deep v.l.length++[93]))
   else if v.k=6 then 123::(elemsT many deep (fun x:ByteArray×V=>keyT x.1++([58,32]++shwD leafT keyT many d (deep+1) x.2)) 0 v.e++(tailT many deep v.e.length++[125]))
   else leafT v
theorem elemsT_snoc {α:Type} (many:Bool) (deep:Nat) (E:α->List UInt8):∀ (l:List α) (i:Nat) (x:α),elemsT many deep E i (l++[x])=elemsT many deep E i l++(preT many deep (i+l.length)++E x++postT many)
 | [],i,x=>by simp [elemsT]
 | y::l,i,x=>by
   rw [List.cons_append,elemsT,elemsT,elemsT_snoc many deep E l (i+1) x,show i+1+l.length=i+(y::l).length by simp;omega]
   simp
structure Tells2 (leafT:V->List UInt8) (keyT:ByteArray->List UInt8) (G:V->Prop) (K:ByteArray->Prop):Prop where
 leaf:∀ v w r s,G v->G w->v.k≠5->v.k≠6->w.k≠5->w.k≠6->Stop r->Stop s->leafT v++r=leafT w++s->v=w/\r=s
 head:∀ v,G v->v.k≠5->v.k≠6->∃ c t,leafT v=c::t/\c≠93/\c≠125/\c≠91/\c≠123
 key:∀ k m r s,K k->K m->keyT k++58::r=keyT m++58::s->k=m/\r=s
 khead:∀ k,K k->∃ c t,keyT k=c::t/\c≠93/\c≠125
structure Fam (G:Nat->V->Prop):Prop where
 zero:∀ v,¬ G 0 v
 list:∀ d v,G (d+1) v->v.k=5->v=.mk 5 0 0 ⟨#[]⟩ v.l []
 table:∀ d v,G (d+1) v->v.k=6->v=.mk 6 0 0 ⟨#[]⟩ [] v.e
 l:∀ d v,G (d+1) v->∀ x∈v.l,G d x
 e:∀ d v,G (d+1) v->∀ x∈v.e,G d x.2
theorem shw_head {G:Nat->V->Prop} {leafT:V->List UInt8} {keyT:ByteArray->List UInt8} {K:ByteArray->Prop} {many:Bool} {d deep:Nat} {v:V} (H:∀ d,Tells2 leafT keyT (G (d+1)) K) (h:G (d+1) v):∃ c t,shwD leafT keyT many (d+1) deep v=c::t/\c≠93/\c≠125:=by
 rw [shwD]
 by_cases h5:v.k=5
 ·rw [if_pos h5];exact ⟨91,_,rfl,by decide,by decide⟩
 rw [if_neg h5]
 by_cases h6:v.k=6
 ·rw [if_pos h6];exact ⟨123,_,rfl,by decide,by decide⟩
 rw [if_neg h6]
 obtain ⟨c,t,h1,h2,h3,-⟩:=(H d).head v h h5 h6
 exact ⟨c,t,h1,h2,h3⟩
def Toks (E:List UInt8) (ts:List Kb):Prop:=∀ z,Stop z->kbs (E++z)=ts++kbs z
theorem kbs_line (z:List UInt8):kbs (10::z)=kbs z:=by rw [<-kbs_sol (10::z) 0,solO_line,kbs_sol]
theorem kbs_blanks (p z:List UInt8) (hp:∀ c∈p,classOf (c.toNat:Int)=1):kbs (p++z)=kbs z:=by rw [<-kbs_sol (p++z) 0,solO_blanks p z 0 hp,kbs_sol]
theorem kbs_blank (z:List UInt8):kbs (32::z)=kbs z:=by rw [<-kbs_sol (32::z) 0,solO_blank 32 z 0 (by decide),kbs_sol]
theorem kbs_indent (k:Nat) (z:List UInt8):kbs (indentT k++z)=kbs z:=kbs_blanks _ _ (fun c hc=>by
 obtain rfl:=List.eq_of_mem_replicate hc
 decide)
theorem kbs_tail (many:Bool) (deep n:Nat) (z:List UInt8):kbs (tailT many deep n++z)=kbs z:=by
 unfold tailT
 split
 ·rw [List.cons_append,kbs_line,kbs_indent]
 ·rfl
theorem stop_tail (many:Bool) (deep n:Nat) (cl:UInt8) (hcl:cl=93\/cl=125) (z:List UInt8):Stop (tailT many deep n++cl::z):=by
 intro c hc
 unfold tailT at hc
 split at hc
 ·obtain rfl:=Option.some.inj hc;exact .inr (.inr (.inr rfl))
 ·obtain rfl:=Option.some.inj hc
  rcases hcl with rfl|rfl
  ·exact .inr (.inl rfl)
  ·exact .inr (.inr (.inl rfl))
theorem many_items {α:Type} {K:List Kb->α->List Kb->Prop} {E:α->List UInt8} {deep n:Nat} {cl:UInt8} (hc:classOf (cl.toNat:Int)=6):∀ (l:List α) (i:Nat),(∀ a∈l,∃ ts,Toks (E a) ts/\∀ r,K (ts++r) a r) ->
 ∃ ts,(∀ z,kbs (elemsT true deep E i l++(tailT true deep n++cl::z))=ts++kbs z)/\∀ r,Items K cl (ts++r) l r
 | [],i,_=>⟨[(6,[cl])],fun z=>by
     show kbs (tailT true deep n++cl::z)=_
     rw [kbs_tail,kb_mark cl z hc];rfl,fun r=>.nil r⟩
 | x::l,i,h=>by
   obtain ⟨tx,hx,kx⟩:=h x List.mem_cons_self
   obtain ⟨ts,h1,h2⟩:=many_items (deep:=deep) (n:=n) hc l (i+1) (fun a ha=>h a (List.mem_cons_of_mem _ ha))
   refine ⟨tx++(6,[44])::ts,fun z=>?_,fun r=>?_⟩
   ·have e:elemsT true deep E i (x::l)++(tailT true deep n++cl::z)=10::(indentT (deep+1)++(E x++44::(elemsT true deep E (i+1) l++(tailT true deep n++cl::z)))):=by
     simp [elemsT,preT,postT]
    rw [e,kbs_line,kbs_indent,hx _ (fun c hc=>by obtain rfl:=Option.some.inj hc;exact .inl rfl),kb_mark 44 _ (by decide),h1 z,List.append_assoc];rfl
   ·rw [List.append_assoc]
    exact .more _ x (ts++r) l r (kx _) (h2 r)
theorem one_items {α:Type} {K:List Kb->α->List Kb->Prop} {E:α->List UInt8} {deep n:Nat} {cl:UInt8} (hcl:cl=93\/cl=125) (hc:classOf (cl.toNat:Int)=6):∀ (l:List α) (x:α) (i:Nat),(∀ a∈x::l,∃ ts,Toks (E a) ts/\∀ r,K (ts++r) a r) ->
 ∃ ts,(∀ z,kbs (E x++(elemsT false deep E (i+1) l++(tailT false deep n++cl::z)))=ts++kbs z)/\∀ r,Items K cl (ts++r) (x::l) r
 | [],x,i,h=>by
   obtain ⟨tx,hx,kx⟩:=h x List.mem_cons_self
   refine ⟨tx++[(6,[cl])],fun z=>?_,fun r=>?_⟩
   ·show kbs (E x++(tailT false deep n++cl::z))=_
    rw [hx _ (stop_tail _ _ _ _ hcl _),kbs_tail,kb_mark cl z hc,List.append_assoc];rfl
   ·rw [List.append_assoc]
    exact .last _ x r (kx _)
 | y::l,x,i,h=>by
   obtain ⟨tx,hx,kx⟩:=h x List.mem_cons_self
   obtain ⟨ts,h1,h2⟩:=one_items (deep:=deep) (n:=n) hcl hc l y (i+1) (fun a ha=>h a (List.mem_cons_of_mem _ ha))
   refine ⟨tx++(6,[44])::ts,fun z=>?_,fun r=>?_⟩
   ·have e:E x++(elemsT false deep E (i+1) (y::l)++(tailT false deep n++cl::z))=E x++44::32::(E y++(elemsT false deep E (i+1+1) l++(tailT false deep n++cl::z))):=by
     simp [elemsT,preT,postT]
    rw [e,hx _ (fun c hc=>by obtain rfl:=Option.some.inj hc;exact .inl rfl),kb_mark 44 _ (by decide),kbs_blank,h1 z,List.append_assoc];rfl
   ·rw [List.append_assoc]
    exact .more _ x (ts++r) (y::l) r (kx _) (h2 r)
theorem all_items {α:Type} {K:List Kb->α->List Kb->Prop} {E:α->List UInt8} {many:Bool} {deep:Nat} {cl:UInt8} (hcl:cl=93\/cl=125) (l:List α) (h:∀ a∈l,∃ ts,Toks (E a) ts/\∀ r,K (ts++r) a r) :
 ∃ ts,(∀ z,kbs (elemsT many deep E 0 l++(tailT many deep l.length++cl::z))=ts++kbs z)/\∀ r,Items K cl (ts++r) l r:=by
 have hc:classOf (cl.toNat:Int)=6:=by rcases hcl with rfl|rfl<;>decide
 cases many with
 | true=>exact many_items hc l 0 h
 | false =>
   cases l with
   | nil=>exact ⟨[(6,[cl])],fun z=>by
      show kbs (tailT false deep 0++cl::z)=_
      rw [kbs_tail,kb_mark cl z hc];rfl,fun r=>.nil r⟩
   | cons x l =>
     obtain ⟨ts,h1,h2⟩:=one_items (deep:=deep) (n:=(x::l).length) hcl hc l x 0 h
     refine ⟨ts,fun z=>?_,h2⟩
     rw [<-h1 z]
     simp [elemsT,preT,postT]
theorem put_last {l:List (ByteArray×V)} {s:ByteArray} {v:V} (h:∀ x∈l,Op.bytesLess x.1.toList s.toList=true) (hn:∀ x∈l,x.1≠s):putL l s v=l++[(s,v)]:=by
 have e2:dropL l s=l:=by
  unfold dropL
  refine List.filter_eq_self.2 (fun x hx=>?_)
  have:isK s x=false:=by rw [Bool.eq_false_iff,ne_eq,isK_iff];exact hn x hx
  rw [this];rfl
 have e3:gidx s l=l.length:=by
  unfold gidx
  refine List.findIdx_eq_length.2 (fun x hx=>?_)
  unfold gtK
  rw [h x hx];rfl
 unfold putL
 rw [e2]
 unfold insL
 rw [e3,List.take_length,List.drop_length]
theorem bl_irr:∀ a:List UInt8,Op.bytesLess a a=false
 | []=>rfl
 | x::a=>by
   have h:¬ x<x:=by rw [UInt8.lt_iff_toNat_lt];omega
   simp [Op.bytesLess,bl_irr a,h]
theorem bl_trans:∀ {a b c:List UInt8},Op.bytesLess a b=true->Op.bytesLess b c=true->Op.bytesLess a c=true
 | _,[],_,h,_=>by cases ‹List UInt8›<;>simp [Op.bytesLess] at h
 | _,_::_,[],_,h=>by simp [Op.bytesLess] at h
 | [],_::_,_::_,_,_=>rfl
 | x::a,y::b,z::c,h,g=>by
   simp only [Op.bytesLess,Bool.or_eq_true,Bool.and_eq_true,decide_eq_true_eq,beq_iff_eq] at h g ⊢
   rcases h with h|⟨rfl,h⟩
   ·rcases g with g|⟨rfl,g⟩
    ·exact .inl (UInt8.lt_trans h g)
    ·exact .inl h
   ·rcases g with g|⟨rfl,g⟩
    ·exact .inl g
    ·exact .inr ⟨rfl,bl_trans h g⟩
theorem sorted_all:∀ (l acc:List (ByteArray×V)) (p:Option ByteArray),keyE p l=0->(∀ x∈acc,∃ k,p=some k/\(x.1=k\/Op.bytesLess x.1.toList k.toList=true)) ->
 putAll acc l=acc++l/\∀ ks,(∀ k∈ks,k∈acc.map Prod.fst)->Once ks l
 | [],acc,p,_,_=>⟨by rw [List.append_nil];rfl,fun _ _=>trivial⟩
 | y::l,acc,p,h,ha=>by
   rw [keyE] at h
   split at h
   ·cases h
   split at h
   ·cases h
   split at h
   ·cases h
   rename_i h1 h2 h3
   have hlt:∀ x∈acc,Op.bytesLess x.1.toList y.1.toList=true:=by
    intro x hx
    obtain ⟨k,rfl,hk⟩:=ha x hx
    have hky:Op.bytesLess k.toList y.1.toList=true:=by
     unfold keyBad at h3
     simpa using h3
    rcases hk with hk|hk
    ·rw [hk];exact hky
    ·exact bl_trans hk hky
   have hne:∀ x∈acc,x.1≠y.1:=fun x hx e=>by
    have:=hlt x hx
    rw [e,bl_irr] at this;cases this
   have ih:=sorted_all l (acc++[y]) (some y.1) h (fun x hx=>by
    rcases List.mem_append.1 hx with hx|hx
    ·exact ⟨y.1,rfl,.inr (hlt x hx)⟩
    ·obtain rfl:=List.mem_singleton.1 hx
     exact ⟨x.1,rfl,.inl rfl⟩)
   refine ⟨?_,fun ks hks=>⟨fun hin=>?_,ih.2 _ (fun k hk=>?_)⟩⟩
   ·show putAll (putL acc y.1 y.2) l=_
    rw [put_last hlt hne,ih.1,List.append_assoc];rfl
   ·obtain ⟨x,hx,e⟩:=List.mem_map.1 (hks _ hin)
    exact hne x hx e
   ·rw [List.map_append]
    rcases List.mem_cons.1 hk with rfl|hk
    ·exact List.mem_append_right _ List.mem_cons_self
    ·exact List.mem_append_left _ (hks k hk)
theorem shape_of {v:V} (h:ownV v=0):(v.k=5->v=listV v.l)/\(v.k=6->v=tableV v.e):=by
 have hk:=(ownV_zero h).1
 obtain ⟨k,n,f,s,l,e⟩:=v
 constructor
 ·intro h5
  obtain rfl:k=5:=h5
  change kindBad 5 n f s l.length e.length=false at hk
  unfold kindBad at hk
  simp only [Bool.or_eq_false_iff,Bool.and_eq_false_iff] at hk
  obtain ⟨⟨⟨⟨⟨⟨⟨⟨-,-⟩,h3⟩,-⟩,h4⟩,-⟩,h5⟩,-⟩,h6⟩:=hk
  have hn:n=0:=by simpa using h3
  have hf:f=0:=by simpa using h4
  have hs:s=⟨#[]⟩:=empty_of (by simpa using h5)
  have he:e=[]:=by simpa using h6
  rw [hn,hf,hs,he];rfl
 ·intro h5
  obtain rfl:k=6:=h5
  change kindBad 6 n f s l.length e.length=false at hk
  unfold kindBad at hk
  simp only [Bool.or_eq_false_iff,Bool.and_eq_false_iff] at hk
  obtain ⟨⟨⟨⟨⟨⟨⟨⟨-,-⟩,h3⟩,-⟩,h4⟩,-⟩,h5⟩,h6⟩,-⟩:=hk
  have hn:n=0:=by simpa using h3
  have hf:f=0:=by simpa using h4
  have hs:s=⟨#[]⟩:=empty_of (by simpa using h5)
  have hl:l=[]:=by simpa using h6
  rw [hn,hf,hs,hl];rfl
theorem shw_toks {leafT:V->List UInt8} {keyT:ByteArray->List UInt8} {many:Bool} {Q:Nat->V->Prop} (hQl:∀ d v,Q (d+1) v->∀ x∈v.l,Q d x) (hQe:∀ d v,Q (d+1) v->∀ x∈v.e,Q d x.2)
 (hleaf:∀ d v,Gd (d+1) v->Q (d+1) v->v.k≠5->v.k≠6->∃ t:Kb,(t.1=4\/t.1=5)/\leafOf t.1 t.2=some v/\Toks (leafT v) [t])
 (hkey:∀ k:ByteArray,k.size<=100->okText k.data.toList->∃ t:Kb,(t.1=4\/t.1=5)/\keyOf t.1 t.2=some k/\∀ z,kbs (keyT k++58::z)=t::kbs (58::z)) :
 ∀ (d deep:Nat) (v:V),Gd d v->Q d v->∃ ts,Toks (shwD leafT keyT many d deep v) ts/\∀ r,G d (ts++r) v r
 | 0,deep,v,h,_=>h.elim
 | d+1,deep,v,h,hq=>by
   obtain ⟨ho,hke,hp⟩:=h
   by_cases h5:v.k=5
   ·have hv:=(shape_of ho).1 h5
    obtain ⟨ts,t1,t2⟩:=all_items (K:=G d) (E:=shwD leafT keyT many d (deep+1)) (many:=many) (deep:=deep) (cl:=93) (.inl rfl) v.l (fun a ha=>shw_toks hQl hQe hleaf hkey d (deep+1) a (hp a (List.mem_append_left _ ha)) (hQl d v hq a ha))
    refine ⟨(6,[91])::ts,fun z _=>?_,fun r=>.inr (.inl ⟨ts++r,v.l,rfl,t2 r,hv⟩)⟩
    rw [shwD,if_pos h5]
    have e:91::(elemsT many deep (shwD leafT keyT many d (deep+1)) 0 v.l++(tailT many deep v.l.length++[93]))++z=91::(elemsT many deep (shwD leafT keyT many d (deep+1)) 0 v.l++(tailT many deep v.l.length++93::z)):=by simp
    rw [e,kb_mark 91 _ (by decide),t1 z];rfl
   ·by_cases h6:v.k=6
    ·have hv:=(shape_of ho).2 h6
     have hpe:=sorted_all v.e [] none hke (fun x hx=>absurd hx List.not_mem_nil)
     have hks:=keyE_short v.e none hke
     obtain ⟨ts,t1,t2⟩:=all_items (K:=EntK (G d)) (E:=fun x:ByteArray×V=>keyT x.1++([58,32]++shwD leafT keyT many d (deep+1) x.2)) (many:=many) (deep:=deep) (cl:=125) (.inr rfl) v.e (fun a ha=>by
      obtain ⟨us,u1,u2⟩:=shw_toks hQl hQe hleaf hkey d (deep+1) a.2 (hp a.2 (List.mem_append_right _ (List.mem_map.2 ⟨a,ha,rfl⟩))) (hQe d v hq a ha)
      obtain ⟨t,k1,k2,k3⟩:=hkey a.1 (hks a ha).1 (hks a ha).2
      refine ⟨t::(6,[58])::us,fun z hz=>?_,fun r=>⟨t,58,us++r,rfl,k1,.inl rfl,k2,u2 r⟩⟩
      have e:keyT a.1++([58,32]++shwD leafT keyT many d (deep+1) a.2)++z=keyT a.1++58::32::(shwD leafT keyT many d (deep+1) a.2++z):=by simp
      rw [e,k3,kb_mark 58 _ (by decide),kbs_blank,u1 z hz];rfl)
     refine ⟨(6,[123])::ts,fun z _=>?_,fun r=>.inr (.inr ⟨ts++r,v.e,rfl,t2 r,hpe.2 [] (fun k hk=>absurd hk List.not_mem_nil),by rw [hpe.1];exact hv⟩)⟩
     rw [shwD,if_neg h5,if_pos h6]
     have e:123::(elemsT many deep (fun x:ByteArray×V=>keyT x.1++([58,32]++shwD leafT keyT many d (deep+1) x.2)) 0 v.e++(tailT many deep v.e.length++[125]))++z=123::(elemsT many deep (fun x:ByteArray×V=>keyT x.1++([58,32]++shwD leafT keyT many d (deep+1) x.2)) 0 v.e++(tailT many deep v.e.length++125::z)):=by simp
     rw [e,kb_mark 123 _ (by decide),t1 z];rfl
    ·obtain ⟨t,t1,t2,t3⟩:=hleaf d v ⟨ho,hke,hp⟩ hq h5 h6
     refine ⟨[t],?_,fun r=>.inl ⟨t,rfl,t1,t2⟩⟩
     rw [shwD,if_neg h5,if_neg h6]
     exact t3
set_option maxRecDepth 100000
def isNan (b:Nat):Prop:=b / 4503599627370496 % 2048=2047/\b % 4503599627370496≠0
theorem Rnd.same {Y D W E b:Nat} (h:Rnd Y D b) (hD:0<D) (hE:0<E) (he:Y * E=W * D):Rnd W E b :=
 Rnd.between h h hD hD hE (Nat.le_of_eq he) (Nat.le_of_eq he.symm)
theorem text_reads {b:Nat} {t:List UInt8} (hb:b<18446744073709551616) (ht:TextIs b t):ReadIs t (if b / 4503599627370496 % 2048=2047/\b % 4503599627370496≠0 then 9221120237041090561 else b) 0:=by
 have hs:b=b % 9223372036854775808+signBit (decide (9223372036854775808<=b)):=by
  unfold signBit
  by_cases h:9223372036854775808<=b
  ·rw [decide_eq_true h,if_pos rfl];omega
  ·rw [decide_eq_false h,if_neg (by decide)];omega
 rcases ht with ⟨h1,h2,rfl⟩|⟨h1,h2,rfl⟩|⟨h1,h2,rfl⟩|⟨h1,h2,c,m,z,kk,hS,hc,hm,hm0,hl,k1,k2,rfl⟩
 ·rw [if_pos ⟨h1,h2⟩]
  exact .inr ⟨by decide,.inl ⟨rfl,rfl,rfl⟩⟩
 ·rw [if_neg (fun h=>h.2 h2)]
  obtain ⟨f1,f2,f3,f4⟩:=sg_facts b 105 [110,102] (by decide)
  have e:sgOf b++infTxt=sgOf b++105::[110,102]:=rfl
  refine .inr ⟨?_,.inr (.inl ⟨?_,?_,?_,rfl⟩)⟩
  ·rw [List.length_append];have:infTxt.length=3:=rfl;omega
  ·rw [e];exact f3 (by decide)
  ·rw [e,f2];rfl
  ·rw [e,f1]
   have:b % 9223372036854775808=9218868437227405312:=by omega
   omega
 ·rw [if_neg (fun h=>h1 h.1)]
  obtain ⟨f1,f2,f3,f4⟩:=sg_facts b 48 [46,48] (by decide)
  refine .inr ⟨?_,.inr (.inr ⟨f3 (by decide),?_,?_⟩)⟩
  ·rw [List.length_append];simp;omega
  ·rw [f2];decide
  ·rw [f1,f2]
   have e:litOf [48,46,48]=some ([48,48],-1):=rfl
   refine .inr ⟨_,_,0,e,?_,.inr ⟨by omega,by omega,rfl⟩⟩
   have e2:decVal (Lib.trimLeftB [48,48] 48)=0:=rfl
   rw [e2]
   unfold Hits
   rw [Nat.zero_mul]
   exact rnd_zero75 _ (tenDn_pos _)
 ·rw [if_neg (fun h=>h1 h.1)]
  obtain ⟨hd,tl,hp,hdig⟩:=point_head (decText m) (kk+(z:Int)) (text_digits m) (text_ne m)
  have hpl:=point_len (decText m) (kk+(z:Int)) hl (by omega) (by omega)
  obtain ⟨a,y,hlit,hy⟩:=lit_point (decText m) (kk+(z:Int)) (text_digits m) (text_ne m) (dec_head m hm0) hl (by omega) (by omega)
  have hd45:hd≠45:=by rintro rfl;revert hdig;decide
  have hd110:hd≠110:=by rintro rfl;revert hdig;decide
  have hd105:hd≠105:=by rintro rfl;revert hdig;decide
  obtain ⟨f1,f2,f3,f4⟩:=sg_facts b hd tl hd45
  have hlen:(sgOf b++pointOf (decText m) (kk+(z:Int))).length<=30:=by rw [List.length_append];omega
  rw [hp] at hlen hlit ⊢
  refine .inr ⟨by omega,.inr (.inr ⟨f3 hd110,?_,?_⟩)⟩
  ·rw [f2];intro h3;exact hd105 (List.cons.inj h3).1
  ·rw [f1,f2]
   refine .inr ⟨_,_,b % 9223372036854775808,hlit,?_,.inr ⟨by omega,hs,rfl⟩⟩
   rw [trimLeft_point _ _ _ (text_ne m) (dec_head m hm0),decVal_noughts,decVal_text,show max (min (kk+(z:Int) - (y:Int)) 1000) (-1000)=kk+(z:Int) - (y:Int) by omega]
   have hit:Hits c kk (b % 9223372036854775808):=by
    obtain ⟨N,D,top,n0,-,-,-,-,-,-,-,rfl,-,g,-⟩:=hS
    exact g
   refine Rnd.same hit (tenDn_pos _) (tenDn_pos _) (y75_mul _ _ _ _ ?_)
   rw [hc]
   exact (same_num m z y kk _ rfl).symm
theorem text_uniq {b:Nat} {s t:List UInt8} (hb:TextIs b s) (hd:TextIs b t):s=t:=by
 rcases hb with ⟨h1,h2,rfl⟩|⟨h1,h2,rfl⟩|⟨h1,h2,rfl⟩|⟨h1,h2,c,m,z,kk,hS,hc,hm,hm0,hl,k1,k2,rfl⟩
 ·rcases hd with ⟨g1,g2,rfl⟩|⟨g1,g2,rfl⟩|⟨g1,g2,rfl⟩|⟨g1,g2,-⟩
  ·rfl
  ·omega
  ·omega
  ·omega
 ·rcases hd with ⟨g1,g2,rfl⟩|⟨g1,g2,rfl⟩|⟨g1,g2,rfl⟩|⟨g1,g2,-⟩
  ·omega
  ·rfl
  ·omega
  ·omega
 ·rcases hd with ⟨g1,g2,rfl⟩|⟨g1,g2,rfl⟩|⟨g1,g2,rfl⟩|⟨g1,g2,-⟩
  ·omega
  ·omega
  ·rfl
  ·omega
 ·rcases hd with ⟨g1,g2,rfl⟩|⟨g1,g2,rfl⟩|⟨g1,g2,rfl⟩|⟨g1,g2,c',m',z',kk',hS',hc',hm',hm0',hl',k1',k2',rfl⟩
  ·omega
  ·omega
  ·omega
  ·obtain ⟨rfl,rfl⟩:=shortIs_uniq hS hS'
   obtain ⟨rfl,rfl⟩:=ten_free (hc.symm.trans hc') hm hm'
   rfl
theorem text_tell {a b:Nat} {t:List UInt8} (ha:a<18446744073709551616) (hb:b<18446744073709551616) (h:TextIs a t) (g:TextIs b t) (na:isNan a->a=9221120237041090561) (nb:isNan b->b=9221120237041090561):a=b:=by
 unfold isNan at na nb
 have r:=text_reads ha h
 by_cases hn:b / 4503599627370496 % 2048=2047/\b % 4503599627370496≠0
 ·have r2:=text_reads hb g
  rw [if_pos hn] at r2
  by_cases hm:a / 4503599627370496 % 2048=2047/\a % 4503599627370496≠0
  ·rw [na hm,nb hn]
  ·have:=(text_back ha h r2 hm).1
   rw [nb hn,this]
 ·have:=(text_back hb g r hn).1
  by_cases hm:a / 4503599627370496 % 2048=2047/\a % 4503599627370496≠0
  ·rw [if_pos hm] at this;rw [na hm,this]
  ·rw [if_neg hm] at this;exact this
def fCh (c:UInt8):Bool:=isDigit c || c==45 || c==46 || c==101 || c==105 || c==110 || c==102 || c==97
def iCh (c:UInt8):Bool:=isDigit c || c==45
theorem iCh_f {c:UInt8} (h:iCh c=true):fCh c=true:=by unfold iCh at h;unfold fCh;simp only [Bool.or_eq_true] at h ⊢;rcases h with h|h<;>simp [h]
theorem itoa_ch (n:Int):∀ c∈Lib.itoa n,iCh c=true:=by
 intro c hc
 unfold Lib.itoa at hc
 unfold iCh
 by_cases h:n<0
 ·rw [if_pos h,decDigits_text] at hc
  rcases List.mem_cons.1 hc with rfl|hc
  ·rfl
  ·rw [text_digits _ c hc];rfl
 ·rw [if_neg h,decDigits_text] at hc
  rw [text_digits _ c hc];rfl
theorem itoa_ne (n:Int):Lib.itoa n≠[]:=by
 unfold Lib.itoa
 split
 ·simp
 ·rw [decDigits_text];exact text_ne _
theorem itoa_tell {n m:Int} (h:Lib.itoa n=Lib.itoa m):n=m:=by
 have hne:∀ u v,45::decText u≠decText v:=by
  intro u v e
  have:=text_digits v 45 (by rw [<-e];simp)
  exact absurd this (by decide)
 have hd:∀ u v,decText u=decText v->u=v:=fun u v e=>by
  have:=congrArg decVal e
  rwa [decVal_text,decVal_text] at this
 unfold Lib.itoa at h
 rw [decDigits_text,decDigits_text,decDigits_text,decDigits_text] at h
 by_cases h1:n<0
 ·rw [if_pos h1] at h
  by_cases h2:m<0
  ·rw [if_pos h2] at h
   have:=hd _ _ (List.cons.inj h).2
   omega
  ·rw [if_neg h2] at h;exact (hne _ _ h).elim
 ·rw [if_neg h1] at h
  by_cases h2:m<0
  ·rw [if_pos h2] at h;exact (hne _ _ h.symm).elim
  ·rw [if_neg h2] at h
   have:=hd _ _ h
   omega
theorem point_ch (d:List UInt8) (k:Int) (h1:∀ b∈d,isDigit b=true):(∀ c∈pointOf d k,fCh c=true)/\∃ c∈pointOf d k,iCh c=false:=by
 have hd:∀ c∈d,fCh c=true:=fun c hc=>iCh_f (by unfold iCh;rw [h1 c hc];rfl)
 have hr:∀ n,∀ c∈List.replicate n (48:UInt8),fCh c=true:=fun n c hc=>by rw [List.eq_of_mem_replicate hc];decide
 unfold pointOf
 split
 ·refine ⟨fun c hc=>?_,46,by simp,by decide⟩
  rcases List.mem_append.1 hc with hc|hc
  ·rcases List.mem_append.1 hc with hc|hc
   ·simp only [List.mem_cons,List.not_mem_nil,or_false] at hc
    rcases hc with rfl|rfl<;>decide
   ·exact hr _ c hc
  ·exact hd c hc
 split
 ·refine ⟨fun c hc=>?_,46,by simp,by decide⟩
  rcases List.mem_append.1 hc with hc|hc
  ·exact hd c (List.mem_of_mem_take hc)
  ·rcases List.mem_cons.1 hc with rfl|hc
   ·decide
   ·exact hd c (List.mem_of_mem_drop hc)
 split
 ·refine ⟨fun c hc=>?_,46,by simp,by decide⟩
  rcases List.mem_append.1 hc with hc|hc
  ·rcases List.mem_append.1 hc with hc|hc
   ·exact hd c hc
   ·exact hr _ c hc
  ·simp only [List.mem_cons,List.not_mem_nil,or_false] at hc
   rcases hc with rfl|rfl<;>decide
 ·refine ⟨fun c hc=>?_,101,by simp,by decide⟩
  rcases List.mem_append.1 hc with hc|hc
  ·rcases List.mem_append.1 hc with hc|hc
   ·exact hd c (List.mem_of_mem_take hc)
   ·split at hc
    ·rcases List.mem_cons.1 hc with rfl|hc
     ·decide
     ·exact hd c (List.mem_of_mem_drop hc)
    ·cases hc
  ·rcases List.mem_cons.1 hc with rfl|hc
   ·decide
   ·exact iCh_f (itoa_ch _ c hc)
theorem text_ch {b:Nat} {t:List UInt8} (h:TextIs b t):(∀ c∈t,fCh c=true)/\(∃ c∈t,iCh c=false)/\t.length<=30:=by
 have hsg:∀ c∈sgOf b,fCh c=true:=fun c hc=>by
  unfold sgOf at hc
  split at hc
  ·rw [List.mem_singleton.1 hc];decide
  ·cases hc
 have hsl:(sgOf b).length<=1:=by unfold sgOf;split<;>simp
 have app:∀ u,((∀ c∈u,fCh c=true)/\∃ c∈u,iCh c=false)->u.length<=29->(∀ c∈sgOf b++u,fCh c=true)/\(∃ c∈sgOf b++u,iCh c=false)/\(sgOf b++u).length<=30:=by
  rintro u ⟨h1,c,h2,h3⟩ h4
  refine ⟨fun c hc=>?_,⟨c,List.mem_append_right _ h2,h3⟩,by rw [List.length_append];omega⟩
  rcases List.mem_append.1 hc with hc|hc
  ·exact hsg c hc
  ·exact h1 c hc
 rcases h with ⟨h1,h2,rfl⟩|⟨h1,h2,rfl⟩|⟨h1,h2,rfl⟩|⟨h1,h2,c,m,z,kk,hS,hc,hm,hm0,hl,k1,k2,rfl⟩
 ·exact ⟨by decide,⟨110,by decide,by decide⟩,by decide⟩
 ·exact app _ ⟨by decide,105,by decide,by decide⟩ (by decide)
 ·exact app _ ⟨by decide,46,by decide,by decide⟩ (by decide)
 ·exact app _ (point_ch _ _ (text_digits m)) (point_len _ _ hl (by omega) (by omega))
def V.nodes (v:V):Nat:=1+((v.l.attach.map fun x=>V.nodes x.1).sum+(v.e.attach.map fun x=>V.nodes x.1.2).sum)
termination_by SizeOf.sizeOf v
decreasing_by
 ·exact V.lt_l x.2
 ·exact V.lt_e x.2
theorem attach_map' {α β:Type} (l:List α) (g:α->β):(l.attach.map fun x=>g x.1)=l.map g:=by
 have h:l.attach.map Subtype.val=l:=List.attach_map_subtype_val l
 calc (l.attach.map fun x=>g x.1)=(l.attach.map Subtype.val).map g:=by rw [List.map_map];rfl
  _=l.map g:=by rw [h]
def nodesL (l:List V):Nat:=(l.map V.nodes).sum
theorem nodes_eq (v:V):v.nodes=1+nodesL v.parts:=by
 rw [V.nodes,attach_map' v.l V.nodes,attach_map' v.e (fun x=>x.2.nodes)]
 unfold nodesL V.parts
 rw [List.map_append,List.map_map,List.sum_append]
 rfl
theorem nodesL_nil:nodesL []=0:=rfl
theorem nodesL_app (l m:List V):nodesL (l++m)=nodesL l+nodesL m:=by simp [nodesL]
theorem nodesL_cons (x:V) (l:List V):nodesL (x::l)=x.nodes+nodesL l:=by simp [nodesL]
set_option maxRecDepth 100000
def nullS:List UInt8:=[110,117,108,108]
def trueS:List UInt8:=[116,114,117,101]
def falseS:List UInt8:=[102,97,108,115,101]
open Classical in
noncomputable def fTxt (b:Nat):List UInt8:=if h:∃ t,TextIs b t then h.choose else []
theorem fTxt_is {b:Nat} {t:List UInt8} (h:TextIs b t):fTxt b=t:=by
 have h2:∃ t,TextIs b t:=⟨t,h⟩
 unfold fTxt
 rw [dif_pos h2]
 exact text_uniq h2.choose_spec h
open Classical in
noncomputable def runesT (l:List UInt8):List Int:=if h:okText l then h.choose else []
theorem runesT_ok {l:List UInt8} (h:okText l):(runesT l).all good=true/\l=encs (runesT l):=by
 unfold runesT
 rw [dif_pos h]
 exact h.choose_spec
noncomputable def quoteT (s:ByteArray):List UInt8:=quoteOf (runesT s.data.toList)
noncomputable def leafT (v:V):List UInt8 :=
 if v.k=0 then nullS else if v.k=1 then (if v.n=1 then trueS else falseS) else if v.k=2 then Lib.itoa v.n else if v.k=3 then fTxt v.f.toNat else quoteT v.s
noncomputable def keyT (k:ByteArray):List UInt8:=if bareOf k.data.toList=true then k.data.toList else quoteT k
def Tx:Nat->V->Prop
 | 0,_=>True
 | d+1,v=>v.wf/\(v.k=3->∃ t,TextIs v.f.toNat t)/\(∀ x∈v.l,Tx d x)/\∀ x∈v.e,Tx d x.2
def Gt (d:Nat) (v:V):Prop:=Gd d v/\Tx d v
theorem quote_tell {rs ts:List Int} (h1:rs.all good=true) (h2:ts.all good=true) {x y:List UInt8} (h:quoteOf rs++x=quoteOf ts++y):rs=ts/\x=y:=by
 have e1:=unquote_quote rs h1 x
 have e2:=unquote_quote ts h2 y
 rw [h,e2] at e1
 have e3:=(Prod.mk.inj (Option.some.inj e1)).1
 subst e3
 exact ⟨rfl,List.append_cancel_left h⟩
theorem quoteT_tell {a b:ByteArray} (h1:okText a.data.toList) (h2:okText b.data.toList) {x y:List UInt8} (h:quoteT a++x=quoteT b++y):a=b/\x=y:=by
 obtain ⟨a1,a2⟩:=runesT_ok h1
 obtain ⟨b1,b2⟩:=runesT_ok h2
 obtain ⟨h3,h4⟩:=quote_tell a1 b1 h
 refine ⟨ByteArray.ext (Array.toList_inj.1 ?_),h4⟩
 rw [a2,b2,h3]
theorem quoteT_cons (a:ByteArray):∃ t,quoteT a=34::t:=⟨_,rfl⟩
def nostop (c:UInt8):Bool:=c != 44 && c != 93 && c != 125 && c != 10
theorem front_tell {P:UInt8->Prop}:∀ (A B r s:List UInt8),(∀ c∈A,¬ P c)->(∀ c∈B,¬ P c)->(∀ c,r.head?=some c->P c)->(∀ c,s.head?=some c->P c)->A++r=B++s->A=B/\r=s
 | [],[],r,s,_,_,_,_,h=>⟨rfl,h⟩
 | [],b::B,r,s,_,hB,hr,_,h=>by
   have h1:r=b::(B++s):=h
   exact (hB b (by simp) (hr b (by rw [h1];rfl))).elim
 | a::A,[],r,s,hA,_,_,hs,h=>by
   have h1:s=a::(A++r):=h.symm
   exact (hA a (by simp) (hs a (by rw [h1];rfl))).elim
 | a::A,b::B,r,s,hA,hB,hr,hs,h=>by
   have h1:=List.cons.inj h
   obtain ⟨h2,h3⟩:=front_tell A B r s (fun c hc=>hA c (by simp [hc])) (fun c hc=>hB c (by simp [hc])) hr hs h1.2
   exact ⟨by rw [h1.1,h2],h3⟩
def StopC (c:UInt8):Prop:=c=44\/c=93\/c=125\/c=10
theorem fCh_stop {c:UInt8} (h:fCh c=true):¬ StopC c/\c≠34/\c≠117/\c≠116/\c≠108/\c≠91/\c≠123:=by
 refine ⟨?_,?_,?_,?_,?_,?_,?_⟩
 ·rintro (rfl|rfl|rfl|rfl)<;>exact absurd h (by decide)
 all_goals (rintro rfl;exact absurd h (by decide))
structure Plain (t:List UInt8):Prop where
 stop:∀ c∈t,¬ StopC c
 head:∃ c u,t=c::u/\c≠34/\c≠91/\c≠123/\c≠93/\c≠125
theorem Plain.of_f {t:List UInt8} (h:∀ c∈t,fCh c=true) (h0:t≠[]):Plain t:=by
 refine ⟨fun c hc=>(fCh_stop (h c hc)).1,?_⟩
 cases t with
 | nil=>exact absurd rfl h0
 | cons c u =>
   obtain ⟨h1,h2,-,-,-,h3,h4⟩:=fCh_stop (h c (by simp))
   exact ⟨c,u,rfl,h2,h3,h4,fun e=>h1 (.inr (.inl e)),fun e=>h1 (.inr (.inr (.inl e)))⟩
theorem nanBad_of {f:Int} (h0:0<=f) (h1:f<=18446744073709551615) (h:nanBad f=false):isNan f.toNat->f.toNat=9221120237041090561:=by
 rintro ⟨g1,g2⟩
 obtain ⟨b,rfl⟩:∃ b:Nat,f=b:=⟨f.toNat,by omega⟩
 simp only [Int.toNat_natCast] at g1 g2 ⊢
 unfold nanBad at h
 have e1:=and_mask (b / 4503599627370496) 11 (by omega) 2047 (by decide) (by decide)
 have e2:=and_mask b 52 (by omega) 4503599627370495 (by decide) (by decide)
 have c1:((b:Int) / 4503599627370496)=((b / 4503599627370496:Nat):Int):=by omega
 rw [c1,show ((2047:Int))=((2047:Nat):Int) from rfl,e1,show ((4503599627370495:Int))=((4503599627370495:Nat):Int) from rfl,e2] at h
 have d1:(2:Nat) ^ 11=2048:=by decide
 have d2:(2:Nat) ^ 52=4503599627370496:=by decide
 rw [d1,d2,g1] at h
 simp only [Bool.and_eq_false_iff,beq_eq_false_iff_ne,bne_eq_false_iff_eq] at h
 rcases h with (h|h)|h
 ·exact absurd rfl h
 ·omega
 ·omega
theorem leaf_plain {d:Nat} {v:V} (h:Gt (d+1) v) (h5:v.k≠5) (h6:v.k≠6) (h4:v.k≠4):Plain (leafT v):=by
 have ok:=h.1.ok
 have k0:=ok.k0
 have k6:=ok.k6
 unfold leafT
 by_cases c0:v.k=0
 ·rw [if_pos c0];exact ⟨by unfold StopC;decide,110,[117,108,108],rfl,by decide,by decide,by decide,by decide,by decide⟩
 rw [if_neg c0]
 by_cases c1:v.k=1
 ·rw [if_pos c1]
  split
  ·exact ⟨by unfold StopC;decide,116,[114,117,101],rfl,by decide,by decide,by decide,by decide,by decide⟩
  ·exact ⟨by unfold StopC;decide,102,[97,108,115,101],rfl,by decide,by decide,by decide,by decide,by decide⟩
 rw [if_neg c1]
 by_cases c2:v.k=2
 ·rw [if_pos c2];exact Plain.of_f (fun c hc=>iCh_f (itoa_ch _ c hc)) (itoa_ne _)
 rw [if_neg c2]
 have c3:v.k=3:=by omega
 rw [if_pos c3]
 obtain ⟨t,ht⟩:=h.2.2.1 c3
 rw [fTxt_is ht]
 obtain ⟨a1,⟨c,a2,-⟩,-⟩:=text_ch ht
 exact Plain.of_f a1 (fun e=>by rw [e] at a2;cases a2)
theorem leaf_same {d:Nat} {v w:V} (h:Gt (d+1) v) (g:Gt (d+1) w) (h5:v.k≠5) (h6:v.k≠6) (h4:v.k≠4) (g5:w.k≠5) (g6:w.k≠6) (g4:w.k≠4) (e:leafT v=leafT w):v=w:=by
 have ok:=h.1.ok
 have ok':=g.1.ok
 have k0:=ok.k0
 have k6:=ok.k6
 have k0':=ok'.k0
 have k6':=ok'.k6
 have hmem:∀ (v:V),Gt (d+1) v->v.k≠5->v.k≠6->v.k≠4 ->
  (v.k=0/\leafT v=nullS)\/(v.k=1/\v.n=1/\leafT v=trueS)\/(v.k=1/\v.n=0/\leafT v=falseS)\/(v.k=2/\leafT v=Lib.itoa v.n/\∀ c∈leafT v,iCh c=true) \/
  (v.k=3/\TextIs v.f.toNat (leafT v)/\(∀ c∈leafT v,fCh c=true)/\∃ c∈leafT v,iCh c=false):=by
  intro v h h5 h6 h4
  have ok:=h.1.ok
  have k0:=ok.k0
  have k6:=ok.k6
  unfold leafT
  by_cases c0:v.k=0
  ·rw [if_pos c0];exact .inl ⟨c0,rfl⟩
  rw [if_neg c0]
  by_cases c1:v.k=1
  ·rw [if_pos c1]
   rcases ok.n1 c1 with n|n
   ·rw [if_neg (by omega)];exact .inr (.inr (.inl ⟨c1,n,rfl⟩))
   ·rw [if_pos n];exact .inr (.inl ⟨c1,n,rfl⟩)
  rw [if_neg c1]
  by_cases c2:v.k=2
  ·rw [if_pos c2];exact .inr (.inr (.inr (.inl ⟨c2,rfl,itoa_ch _⟩)))
  rw [if_neg c2]
  have c3:v.k=3:=by omega
  rw [if_pos c3]
  obtain ⟨t,ht⟩:=h.2.2.1 c3
  rw [fTxt_is ht]
  obtain ⟨a1,a2,-⟩:=text_ch ht
  exact .inr (.inr (.inr (.inr ⟨c3,ht,a1,a2⟩)))
 have fin:v.k=w.k->v.n=w.n->v.f=w.f->v=w:=fun a b c=>by
  refine V.ext' a b c ?_ ?_ ?_
  ·rw [ok.s h4,ok'.s g4]
  ·rw [ok.l h5,ok'.l g5]
  ·rw [ok.e h6,ok'.e g6]
 have hn:∀ c:UInt8,fCh c=false->iCh c=false:=fun c hc=>by
  cases hi:iCh c with
  | false=>rfl
  | true=>rw [iCh_f hi] at hc;cases hc
 rcases hmem v h h5 h6 h4 with ⟨a,p⟩|⟨a,n,p⟩|⟨a,n,p⟩|⟨a,p,q⟩|⟨a,p,q,q2⟩<;>rcases hmem w g g5 g6 g4 with ⟨b,p'⟩|⟨b,n',p'⟩|⟨b,n',p'⟩|⟨b,p',q'⟩|⟨b,p',q',q2'⟩
 ·exact fin (by omega) (by rw [ok.n (by omega) (by omega),ok'.n (by omega) (by omega)]) (by rw [ok.f (by omega),ok'.f (by omega)])
 ·rw [p,p'] at e;exact absurd e (by decide)
 ·rw [p,p'] at e;exact absurd e (by decide)
 ·rw [<-e,p] at q';exact absurd (q' 117 (by decide)) (by decide)
 ·rw [<-e,p] at q';exact absurd (q' 117 (by decide)) (by decide)
 ·rw [p,p'] at e;exact absurd e (by decide)
 ·exact fin (by omega) (by omega) (by rw [ok.f (by omega),ok'.f (by omega)])
 ·rw [p,p'] at e;exact absurd e (by decide)
 ·rw [<-e,p] at q';exact absurd (q' 116 (by decide)) (by decide)
 ·rw [<-e,p] at q';exact absurd (q' 116 (by decide)) (by decide)
 ·rw [p,p'] at e;exact absurd e (by decide)
 ·rw [p,p'] at e;exact absurd e (by decide)
 ·exact fin (by omega) (by omega) (by rw [ok.f (by omega),ok'.f (by omega)])
 ·rw [<-e,p] at q';exact absurd (q' 108 (by decide)) (by decide)
 ·rw [<-e,p] at q';exact absurd (q' 108 (by decide)) (by decide)
 ·rw [e,p'] at q;exact absurd (q 117 (by decide)) (by decide)
 ·rw [e,p'] at q;exact absurd (q 116 (by decide)) (by decide)
 ·rw [e,p'] at q;exact absurd (q 108 (by decide)) (by decide)
 ·exact fin (by omega) (itoa_tell (by rw [<-p,<-p',e])) (by rw [ok.f (by omega),ok'.f (by omega)])
 ·obtain ⟨c,hc,hc2⟩:=q2'
  rw [<-e] at hc
  rw [q c hc] at hc2;cases hc2
 ·rw [e,p'] at q;exact absurd (q 117 (by decide)) (by decide)
 ·rw [e,p'] at q;exact absurd (q 116 (by decide)) (by decide)
 ·rw [e,p'] at q;exact absurd (q 108 (by decide)) (by decide)
 ·obtain ⟨c,hc,hc2⟩:=q2
  rw [e] at hc
  rw [q' c hc] at hc2;cases hc2
 ·rw [e] at p
  have w1:=h.2.1
  have w2:=g.2.1
  have:=text_tell (by have:=w1.f1;have:=w1.f0;omega) (by have:=w2.f1;have:=w2.f0;omega) p p' (nanBad_of w1.f0 w1.f1 ok.nan) (nanBad_of w2.f0 w2.f1 ok'.nan)
  exact fin (by omega) (by rw [ok.n (by omega) (by omega),ok'.n (by omega) (by omega)]) (by have:=w1.f0;have:=w2.f0;omega)
theorem leaf_text {d:Nat} {v:V} (h4:v.k=4):leafT v=quoteT v.s:=by
 unfold leafT
 rw [if_neg (by omega),if_neg (by omega),if_neg (by omega),if_neg (by omega)]
def KeyOk (k:ByteArray):Prop:=k.size<=100/\okText k.data.toList
theorem bare_stop {k:ByteArray} (h:bareOf k.data.toList=true):(∀ c∈k.data.toList,c≠58)/\∃ c t,k.data.toList=c::t/\c≠34/\c≠93/\c≠125:=by
 have hb:=bare_bytes h
 have hne:k.data.toList≠[]:=by
  intro e;rw [e] at h;exact absurd h (by decide)
 have key:∀ c:UInt8,(letterB c.toNat || moreB c.toNat)=true->c≠58/\c≠34/\c≠93/\c≠125:=by
  intro c hc
  refine ⟨?_,?_,?_,?_⟩<;>(rintro rfl;exact absurd hc (by decide))
 refine ⟨fun c hc=>(key c (hb c hc)).1,?_⟩
 cases hk:k.data.toList with
 | nil=>exact absurd hk hne
 | cons c t =>
   obtain ⟨-,a,b,d⟩:=key c (hb c (by rw [hk];simp))
   exact ⟨c,t,rfl,a,b,d⟩
theorem tells (d:Nat):Tells2 leafT keyT (Gt (d+1)) KeyOk where
 leaf:=by
  intro v w r s h g h5 h6 g5 g6 hr hs e
  by_cases h4:v.k=4
  ·by_cases g4:w.k=4
   ·rw [leaf_text (d:=d) h4,leaf_text (d:=d) g4] at e
    obtain ⟨e1,e2⟩:=quoteT_tell (ownV_zero h.1.1).2.2.2.2 (ownV_zero g.1.1).2.2.2.2 e
    have ok:=h.1.ok
    have ok':=g.1.ok
    refine ⟨V.ext' (by omega) ?_ ?_ e1 ?_ ?_,e2⟩
    ·rw [ok.n (by omega) (by omega),ok'.n (by omega) (by omega)]
    ·rw [ok.f (by omega),ok'.f (by omega)]
    ·rw [ok.l h5,ok'.l g5]
    ·rw [ok.e h6,ok'.e g6]
   ·exfalso
    rw [leaf_text (d:=d) h4] at e
    obtain ⟨t,ht⟩:=quoteT_cons v.s
    obtain ⟨-,c,u,hc,hc2,-⟩:=leaf_plain g g5 g6 g4
    rw [ht,hc] at e
    exact hc2 (List.cons.inj e).1.symm
  ·by_cases g4:w.k=4
   ·exfalso
    rw [leaf_text (d:=d) g4] at e
    obtain ⟨t,ht⟩:=quoteT_cons w.s
    obtain ⟨-,c,u,hc,hc2,-⟩:=leaf_plain h h5 h6 h4
    rw [ht,hc] at e
    exact hc2 (List.cons.inj e).1
   ·obtain ⟨e1,e2⟩:=front_tell (P:=StopC) _ _ r s (leaf_plain h h5 h6 h4).stop (leaf_plain g g5 g6 g4).stop hr hs e
    exact ⟨leaf_same h g h5 h6 h4 g5 g6 g4 e1,e2⟩
 head:=by
  intro v h h5 h6
  by_cases h4:v.k=4
  ·rw [leaf_text (d:=d) h4]
   exact ⟨34,_,rfl,by decide,by decide,by decide,by decide⟩
  ·obtain ⟨-,c,u,hc,-,a,b,e,f⟩:=leaf_plain h h5 h6 h4
   exact ⟨c,u,hc,e,f,a,b⟩
 key:=by
  intro k m r s hk hm e
  have ex:∀ a b:ByteArray,a.data.toList=b.data.toList->a=b:=fun a b h=>ByteArray.ext (Array.toList_inj.1 h)
  have h58:∀ (r:List UInt8),∀ c,(58::r).head?=some c->c=58:=fun r c h=>(Option.some.inj h).symm
  unfold keyT at e
  by_cases hb:bareOf k.data.toList=true
  ·rw [if_pos hb] at e
   by_cases gb:bareOf m.data.toList=true
   ·rw [if_pos gb] at e
    obtain ⟨e1,e2⟩:=front_tell (P:=fun c=>c=58) _ _ (58::r) (58::s) (bare_stop hb).1 (bare_stop gb).1 (h58 r) (h58 s) e
    exact ⟨ex _ _ e1,(List.cons.inj e2).2⟩
   ·exfalso
    rw [if_neg gb] at e
    obtain ⟨t,ht⟩:=quoteT_cons m
    obtain ⟨c,u,hc,hc2,-⟩:=(bare_stop hb).2
    rw [ht,hc] at e
    exact hc2 (List.cons.inj e).1
  ·rw [if_neg hb] at e
   by_cases gb:bareOf m.data.toList=true
   ·exfalso
    rw [if_pos gb] at e
    obtain ⟨t,ht⟩:=quoteT_cons k
    obtain ⟨c,u,hc,hc2,-⟩:=(bare_stop gb).2
    rw [ht,hc] at e
    exact hc2 (List.cons.inj e).1.symm
   ·rw [if_neg gb] at e
    obtain ⟨e1,e2⟩:=quoteT_tell hk.2 hm.2 e
    exact ⟨e1,(List.cons.inj e2).2⟩
 khead:=by
  intro k hk
  unfold keyT
  by_cases hb:bareOf k.data.toList=true
  ·rw [if_pos hb]
   obtain ⟨c,t,h1,-,h2,h3⟩:=(bare_stop hb).2
   exact ⟨c,t,h1,h2,h3⟩
  ·rw [if_neg hb]
   exact ⟨34,_,rfl,by decide,by decide⟩
end Go.Proofs.YtldhmfkojaekfaaGreatDoor
namespace Go.Proofs.YtldhmfkojaekfaaGreatDoor
open Go.RowKit Gx
def digBNm (d:Nat):UInt8:=if d<10 then UInt8.ofNat (48+d) else UInt8.ofNat (87+d)
def digFNm:Nat->Nat->Nat->List UInt8
 | 0,_,_=>[]
 | f+1,b,u=>if u<b then [digBNm u] else digFNm f b (u / b)++[digBNm (u % b)]
theorem digB_valNm (d:Nat) (h:d<16):digitOf ((digBNm d).toNat:Int)=d/\((digBNm d).toNat:Int)≠95/\(digBNm d).toNat<256:=by
 have key:∀ e:Fin 16,digitOf ((digBNm e.val).toNat:Int)=e.val/\((digBNm e.val).toNat:Int)≠95/\(digBNm e.val).toNat<256:=by decide +kernel
 exact key ⟨d,h⟩
theorem loop_append (b:Nat):∀ (A C:List Int) (y:Int) (n:Nat) (o:Int),
 numLoop b (A++C) y n o=match numLoop b A y n o with
  | none=>none
  | some (y2,n2,o2)=>numLoop b C y2 n2 o2
 | [],C,y,n,o=>rfl
 | c::A,C,y,n,o=>by
   rw [List.cons_append,numLoop,numLoop]
   split
   ·split
    ·rfl
    ·exact loop_append b A C _ _ _
   ·split
    ·rfl
    ·exact loop_append b A C _ _ _
theorem step_fits (b n d:Nat) (hb:b<=16) (h:n * b+d<18446744073709551616) (hd:d<16):numStep b n 0 (d:Int)=(n * b+d,0):=by
 have h1:n * b / 18446744073709551616=0:=Nat.div_eq_of_lt (by omega)
 have h2:n * b % 18446744073709551616=n * b:=Nat.mod_eq_of_lt (by omega)
 unfold numStep
 rw [h1,h2]
 have h3:(((n * b:Nat):Int)+(d:Int)+0) / 18446744073709551616=0:=by
  generalize n * b=m at *
  omega
 have h4:((((n * b:Nat):Int)+(d:Int)+0) % 18446744073709551616).toNat=n * b+d:=by
  generalize n * b=m at *
  omega
 rw [h3,h4]
 have h5:bits BinOp.or IntKind.u64 0 (bits BinOp.or IntKind.u64 ((0:Nat):Int) 0)=0:=by decide +kernel
 rw [h5]
theorem loop_digits (b:Nat) (hb:2<=b) (hb16:b<=16):∀ (f u:Nat),u<f->u<18446744073709551616 ->
 ∃ y,y≠95/\numLoop b (intsNm (digFNm f b u)) 95 0 0=some (y,u,0)
 | 0,u,h,_=>by omega
 | f+1,u,h,h64=>by
   unfold digFNm
   by_cases hu:u<b
   ·rw [if_pos hu]
    obtain ⟨e1,e2,-⟩:=digB_valNm u (by omega)
    refine ⟨((digBNm u).toNat:Int),e2,?_⟩
    show numLoop b [((digBNm u).toNat:Int)] 95 0 0=_
    rw [numLoop,if_neg e2,e1,if_neg (by omega),step_fits b 0 u hb16 (by omega) (by omega)]
    simp [numLoop]
   ·rw [if_neg hu]
    have hdiv:u / b<u:=Nat.div_lt_self (by omega) (by omega)
    obtain ⟨y,hy,ih⟩:=loop_digits b hb hb16 f (u / b) (by omega) (by omega)
    have hm:u % b<b:=Nat.mod_lt _ (by omega)
    have hdm:u / b * b+u % b=u:=by rw [Nat.mul_comm];exact Nat.div_add_mod u b
    obtain ⟨e1,e2,-⟩:=digB_valNm (u % b) (by omega)
    refine ⟨((digBNm (u % b)).toNat:Int),e2,?_⟩
    have e3:intsNm (digFNm f b (u / b)++[digBNm (u % b)])=intsNm (digFNm f b (u / b))++[((digBNm (u % b)).toNat:Int)]:=by
     unfold intsNm;rw [List.map_append];rfl
    rw [e3,loop_append,ih]
    simp only
    rw [numLoop,if_neg e2,e1,if_neg (by omega),step_fits b (u / b) (u % b) hb16 (by rw [hdm];exact h64) (by omega),hdm]
    rfl
theorem digFNm_first (b:Nat) (hb:2<=b) (hb16:b<=16):∀ (f u:Nat),u<f->u≠0->∃ d t,d≠0/\d<b/\digFNm f b u=digBNm d::t
 | 0,u,h,_=>by omega
 | f+1,u,h,h0=>by
   unfold digFNm
   by_cases hu:u<b
   ·rw [if_pos hu];exact ⟨u,[],h0,hu,rfl⟩
   ·rw [if_neg hu]
    have hdiv:u / b<u:=Nat.div_lt_self (by omega) (by omega)
    have hpos:1<=u / b:=(Nat.le_div_iff_mul_le (by omega)).2 (by omega)
    obtain ⟨d,t,h1,h2,h3⟩:=digFNm_first b hb hb16 f (u / b) (by omega) (by omega)
    exact ⟨d,t++[digBNm (u % b)],h1,h2,by rw [h3];rfl⟩
theorem digFNm_len (b k:Nat) (hb:2<=b):∀ (f u m:Nat),u<f->u<b ^ m->1<=m->(digFNm f b u).length<=m
 | 0,u,m,h,_,_=>by omega
 | f+1,u,m,h,hm,h1=>by
   unfold digFNm
   by_cases hu:u<b
   ·rw [if_pos hu];simpa using h1
   ·rw [if_neg hu,List.length_append]
    have hdiv:u / b<u:=Nat.div_lt_self (by omega) (by omega)
    obtain ⟨j,rfl⟩:∃ j,m=j+1:=⟨m - 1,by omega⟩
    have hj:1<=j:=by
     rcases Nat.eq_zero_or_pos j with h0|h0
     ·subst h0;rw [Nat.zero_add,Nat.pow_one] at hm;omega
     ·exact h0
    have:=digFNm_len b k hb f (u / b) j (by omega) (by rw [Nat.pow_succ,Nat.mul_comm] at hm;exact Nat.div_lt_of_lt_mul hm) hj
    simpa using this
theorem dec_digF:∀ (f u:Nat),u<f->Lib.decDigits u=digFNm f 10 u
 | 0,u,h=>by omega
 | f+1,u,h=>by
   rw [Lib.decDigits]
   unfold digFNm
   by_cases hu:u<10
   ·rw [dif_pos hu,if_pos hu]
    unfold digBNm;rw [if_pos hu]
   ·rw [dif_neg hu,if_neg hu,dec_digF f (u / 10) (by omega)]
    have:u % 10<10:=Nat.mod_lt _ (by decide)
    unfold digBNm;rw [if_pos this]
def hexB (c:Int):Bool:=decide (48<=c/\c<=57) || decide (97<=c/\c<=102) || decide (65<=c/\c<=70)
def preLen (l:List UInt8):Nat:=if 1<l.length/\l.getD 0 0=48/\(l.getD 1 0=120\/l.getD 1 0=111\/l.getD 1 0=98) then 2 else 0
theorem two_prefix (c d:UInt8):∀ l:List UInt8,Lib.hasPrefix l [c,d]=decide (1<l.length/\l.getD 0 0=c/\l.getD 1 0=d)
 | []=>by simp [Lib.hasPrefix,List.isPrefixOf]
 | [a]=>by simp [Lib.hasPrefix,List.isPrefixOf]
 | a::b::t=>by
   unfold Lib.hasPrefix
   simp only [List.isPrefixOf]
   rw [Bool.eq_iff_iff]
   simp
   constructor
   ·rintro ⟨rfl,rfl⟩;exact ⟨rfl,rfl⟩
   ·rintro ⟨rfl,rfl⟩;exact ⟨rfl,rfl⟩
def signLen (l:List UInt8):Nat:=if l.getD 0 0=45 then 1 else 0
def frontOf (b:Nat):List UInt8:=if b=16 then [48,120] else if b=8 then [48,111] else if b=2 then [48,98] else []
def toldOf (neg:Bool) (b u:Nat):List UInt8:=(if neg then [45] else [])++(frontOf b++digFNm (u+1) b u)
theorem digB_ne (d:Nat) (h:d<16):digBNm d≠45/\(d≠0->digBNm d≠48):=by
 have key:∀ e:Fin 16,digBNm e.val≠45/\(e.val≠0->digBNm e.val≠48):=by decide +kernel
 exact key ⟨d,h⟩
theorem digFNm_zero (b:Nat) (hb:2<=b):digFNm (0+1) b 0=[48]:=by
 unfold digFNm
 rw [if_pos (by omega)]
 rfl
theorem base_told (b u:Nat) (hb:b=2\/b=8\/b=10\/b=16):baseOf (frontOf b++digFNm (u+1) b u)=(b,digFNm (u+1) b u):=by
 rcases hb with rfl|rfl|rfl|rfl
 ·have e:frontOf 2=[48,98]:=rfl
  rw [e]
  unfold baseOf Lib.trimPrefix
  simp [two_prefix]
 ·have e:frontOf 8=[48,111]:=rfl
  rw [e]
  unfold baseOf Lib.trimPrefix
  simp [two_prefix]
 ·have e:frontOf 10=[]:=rfl
  rw [e,List.nil_append]
  have hno:∀ c,Lib.hasPrefix (digFNm (u+1) 10 u) [48,c]=false:=by
   intro c
   rw [two_prefix]
   refine decide_eq_false ?_
   rintro ⟨h1,h2,-⟩
   by_cases hu:u=0
   ·subst hu
    rw [digFNm_zero 10 (by omega)] at h1
    simp at h1
   ·obtain ⟨d,t,h3,h4,h5⟩:=digFNm_first 10 (by omega) (by omega) (u+1) u (by omega) hu
    rw [h5] at h2
    exact (digB_ne d (by omega)).2 h3 h2
  unfold baseOf
  rw [hno,hno,hno]
  rfl
 ·have e:frontOf 16=[48,120]:=rfl
  rw [e]
  unfold baseOf Lib.trimPrefix
  simp [two_prefix]
theorem told_first (b u:Nat) (hb:b=2\/b=8\/b=10\/b=16):∃ c t,c≠45/\frontOf b++digFNm (u+1) b u=c::t:=by
 have h10:∃ c t,c≠45/\digFNm (u+1) b u=c::t:=by
  by_cases hu:u=0
  ·subst hu
   rw [digFNm_zero b (by omega)]
   exact ⟨48,[],by decide,rfl⟩
  ·obtain ⟨d,t,h3,h4,h5⟩:=digFNm_first b (by omega) (by omega) (u+1) u (by omega) hu
   exact ⟨_,t,(digB_ne d (by omega)).1,h5⟩
 rcases hb with rfl|rfl|rfl|rfl
 ·exact ⟨48,_,by decide,rfl⟩
 ·exact ⟨48,_,by decide,rfl⟩
 ·obtain ⟨c,t,h1,h2⟩:=h10
  exact ⟨c,t,h1,by rw [show frontOf 10=[] from rfl,List.nil_append,h2]⟩
 ·exact ⟨48,_,by decide,rfl⟩
theorem told_len (neg:Bool) (b u:Nat) (hb:b=2\/b=8\/b=10\/b=16) (hu:u<=9223372036854775808):(toldOf neg b u).length<=67:=by
 have hd:(digFNm (u+1) b u).length<=64:=by
  refine digFNm_len b 0 (by omega) (u+1) u 64 (by omega) ?_ (by omega)
  have:2 ^ 64<=b ^ 64:=Nat.pow_le_pow_left (by omega) 64
  have h2:(2:Nat) ^ 64=18446744073709551616:=by decide
  omega
 have hf:(frontOf b).length<=2:=by rcases hb with rfl|rfl|rfl|rfl<;>decide
 unfold toldOf
 rw [List.length_append,List.length_append]
 have:(if neg then ([45]:List UInt8) else []).length<=1:=by cases neg<;>decide
 omega
theorem read_told (neg:Bool) (b u:Nat) (hb:b=2\/b=8\/b=10\/b=16) (hu:u<=limitOf neg):readOf (toldOf neg b u)=(if neg then -(u:Int) else u,0):=by
 have hlim:u<=9223372036854775808:=by cases neg<;>(unfold limitOf at hu;simp at hu;omega)
 have hlen:=told_len neg b u hb hlim
 obtain ⟨c,t,hc,hct⟩:=told_first b u hb
 have hp:Lib.hasPrefix (toldOf neg b u) [45]=neg:=by
  unfold toldOf
  rw [hct]
  cases neg with
  | true=>simp [Lib.hasPrefix,List.isPrefixOf]
  | false =>
    simp [Lib.hasPrefix,List.isPrefixOf]
    intro e;exact hc e.symm
 have ht:Lib.trimPrefix (toldOf neg b u) [45]=frontOf b++digFNm (u+1) b u:=by
  unfold Lib.trimPrefix
  rw [hp]
  unfold toldOf
  cases neg<;>rfl
 unfold readOf
 rw [if_neg (by omega),hp,ht,base_told b u hb]
 unfold readBy
 simp only
 have hz:¬ (b=10/\1<(digFNm (u+1) b u).length/\(digFNm (u+1) b u).getD 0 0=48):=by
  rintro ⟨rfl,h1,h2⟩
  by_cases hu0:u=0
  ·subst hu0
   rw [digFNm_zero 10 (by omega)] at h1
   simp at h1
  ·obtain ⟨d,t2,h3,h4,h5⟩:=digFNm_first 10 (by omega) (by omega) (u+1) u (by omega) hu0
   rw [h5] at h2
   exact (digB_ne d (by omega)).2 h3 h2
 rw [if_neg hz]
 obtain ⟨y,hy,hl⟩:=loop_digits b (by omega) (by omega) (u+1) u (by omega) (by omega)
 rw [hl]
 unfold readEnd
 simp only
 rw [if_neg hy,if_neg (by intro h;rcases h with h|h<;>omega)]
theorem itoa_told (n:Int):Lib.itoa n=toldOf (decide (n<0)) 10 n.natAbs:=by
 unfold Lib.itoa toldOf
 by_cases h:n<0
 ·rw [if_pos h,decide_eq_true h,dec_digF (n.natAbs+1) n.natAbs (by omega)];rfl
 ·rw [if_neg h,decide_eq_false h,dec_digF (n.natAbs+1) n.toNat (by omega),show n.toNat=n.natAbs by omega];rfl
theorem read_itoa (n:Int) (h0:-9223372036854775808<=n) (h1:n<=9223372036854775807):readOf (Lib.itoa n)=(n,0):=by
 rw [itoa_told]
 by_cases h:n<0
 ·rw [decide_eq_true h,read_told true 10 n.natAbs (by omega) (by show n.natAbs<=9223372036854775808;omega)]
  show (-(n.natAbs:Int),(0:Int))=(n,0)
  congr 1;omega
 ·rw [decide_eq_false h,read_told false 10 n.natAbs (by omega) (by show n.natAbs<=9223372036854775807;omega)]
  show ((n.natAbs:Int),(0:Int))=(n,0)
  congr 1;omega
end Go.Proofs.YtldhmfkojaekfaaGreatDoor
