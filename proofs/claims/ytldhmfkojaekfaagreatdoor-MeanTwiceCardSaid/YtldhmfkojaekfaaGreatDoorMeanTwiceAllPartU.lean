/-
  Lemmas for the statement: plain laws, and what functions answer; the conditions stand in each.
-/
import Derived.Lib.OwnKind
import Derived.Lib.UnsafeStr
import Derived.Lib.AppendStr
import Derived.Deep.DeepFit
import Derived.WalkLawsBesides
import Derived.Deep.DeepCutAuto
import Derived.Deep.CutBlock
import Derived.Outline
import Derived.StillTailTactics
import Derived.Deep.RegionLaw
import Derived.Deep.RegionHeld3
import Derived.Laws.EntriesVeiled
import Derived.Test.YtldhmfkojaekfaaGreatDoorMeanTwiceAllPartT
set_option linter.unusedVariables false
set_option linter.unusedSimpArgs false
namespace Go.Proofs.YtldhmfkojaekfaaGreatDoor
open Go.RowKit Gx
set_option maxRecDepth 100000
def nullS:List UInt8:=[110,117,108,108]
def trueS:List UInt8:=[116,114,117,101]
def falseS:List UInt8:=[102,97,108,115,101]
open Classical in
noncomputable def fTxt (b:Nat):List UInt8:=if h:∃ t,TextIs b t then h.choose else []
theorem fTxt_is {b:Nat} {t:List UInt8} (h:TextIs b t):fTxt b=t:=by
 have h2:∃ t,TextIs b t:=⟨t,h⟩
 unfold fTxt
 rw [dif_pos h2]
 exact text_uniq h2.choose_spec h
open Classical in
noncomputable def runesT (l:List UInt8):List Int:=if h:okText l then h.choose else []
theorem runesT_ok {l:List UInt8} (h:okText l):(runesT l).all good=true/\l=encs (runesT l):=by
 unfold runesT
 rw [dif_pos h]
 exact h.choose_spec
noncomputable def quoteT (s:ByteArray):List UInt8:=quoteOf (runesT s.data.toList)
noncomputable def leafT (v:V):List UInt8 :=
 if v.k=0 then nullS else if v.k=1 then (if v.n=1 then trueS else falseS) else if v.k=2 then Lib.itoa v.n else if v.k=3 then fTxt v.f.toNat else quoteT v.s
noncomputable def keyT (k:ByteArray):List UInt8:=if bareOf k.data.toList=true then k.data.toList else quoteT k
def Tx:Nat->V->Prop
 | 0,_=>True
 | d+1,v=>v.wf/\(v.k=3->∃ t,TextIs v.f.toNat t)/\(∀ x∈v.l,Tx d x)/\∀ x∈v.e,Tx d x.2
def Gt (d:Nat) (v:V):Prop:=Gd d v/\Tx d v
theorem quote_tell {rs ts:List Int} (h1:rs.all good=true) (h2:ts.all good=true) {x y:List UInt8} (h:quoteOf rs++x=quoteOf ts++y):rs=ts/\x=y:=by
 have e1:=unquote_quote rs h1 x
 have e2:=unquote_quote ts h2 y
 rw [h,e2] at e1
 have e3:=(Prod.mk.inj (Option.some.inj e1)).1
 subst e3
 exact ⟨rfl,List.append_cancel_left h⟩
theorem quoteT_tell {a b:ByteArray} (h1:okText a.data.toList) (h2:okText b.data.toList) {x y:List UInt8} (h:quoteT a++x=quoteT b++y):a=b/\x=y:=by
 obtain ⟨a1,a2⟩:=runesT_ok h1
 obtain ⟨b1,b2⟩:=runesT_ok h2
 obtain ⟨h3,h4⟩:=quote_tell a1 b1 h
 refine ⟨ByteArray.ext (Array.toList_inj.1 ?_),h4⟩
 rw [a2,b2,h3]
theorem quoteT_cons (a:ByteArray):∃ t,quoteT a=34::t:=⟨_,rfl⟩
def nostop (c:UInt8):Bool:=c != 44 && c != 93 && c != 125 && c != 10
theorem front_tell {P:UInt8->Prop}:∀ (A B r s:List UInt8),(∀ c∈A,¬ P c)->(∀ c∈B,¬ P c)->(∀ c,r.head?=some c->P c)->(∀ c,s.head?=some c->P c)->A++r=B++s->A=B/\r=s
 | [],[],r,s,_,_,_,_,h=>⟨rfl,h⟩
 | [],b::B,r,s,_,hB,hr,_,h=>by
   have h1:r=b::(B++s):=h
   exact (hB b (by simp) (hr b (by rw [h1];rfl))).elim
 | a::A,[],r,s,hA,_,_,hs,h=>by
   have h1:s=a::(A++r):=h.symm
   exact (hA a (by simp) (hs a (by rw [h1];rfl))).elim
 | a::A,b::B,r,s,hA,hB,hr,hs,h=>by
   have h1:=List.cons.inj h
   obtain ⟨h2,h3⟩:=front_tell A B r s (fun c hc=>hA c (by simp [hc])) (fun c hc=>hB c (by simp [hc])) hr hs h1.2
   exact ⟨by rw [h1.1,h2],h3⟩
def StopC (c:UInt8):Prop:=c=44\/c=93\/c=125\/c=10
theorem fCh_stop {c:UInt8} (h:fCh c=true):¬ StopC c/\c≠34/\c≠117/\c≠116/\c≠108/\c≠91/\c≠123:=by
 refine ⟨?_,?_,?_,?_,?_,?_,?_⟩
 ·rintro (rfl|rfl|rfl|rfl)<;>exact absurd h (by decide)
 all_goals (rintro rfl;exact absurd h (by decide))
structure Plain (t:List UInt8):Prop where
 stop:∀ c∈t,¬ StopC c
 head:∃ c u,t=c::u/\c≠34/\c≠91/\c≠123/\c≠93/\c≠125
theorem Plain.of_f {t:List UInt8} (h:∀ c∈t,fCh c=true) (h0:t≠[]):Plain t:=by
 refine ⟨fun c hc=>(fCh_stop (h c hc)).1,?_⟩
 cases t with
 | nil=>exact absurd rfl h0
 | cons c u =>
   obtain ⟨h1,h2,-,-,-,h3,h4⟩:=fCh_stop (h c (by simp))
   exact ⟨c,u,rfl,h2,h3,h4,fun e=>h1 (.inr (.inl e)),fun e=>h1 (.inr (.inr (.inl e)))⟩
theorem nanBad_of {f:Int} (h0:0<=f) (h1:f<=18446744073709551615) (h:nanBad f=false):isNan f.toNat->f.toNat=9221120237041090561:=by
 rintro ⟨g1,g2⟩
 obtain ⟨b,rfl⟩:∃ b:Nat,f=b:=⟨f.toNat,by omega⟩
 simp only [Int.toNat_natCast] at g1 g2 ⊢
 unfold nanBad at h
 have e1:=and_mask (b / 4503599627370496) 11 (by omega) 2047 (by decide) (by decide)
 have e2:=and_mask b 52 (by omega) 4503599627370495 (by decide) (by decide)
 have c1:((b:Int) / 4503599627370496)=((b / 4503599627370496:Nat):Int):=by omega
 rw [c1,show ((2047:Int))=((2047:Nat):Int) from rfl,e1,show ((4503599627370495:Int))=((4503599627370495:Nat):Int) from rfl,e2] at h
 have d1:(2:Nat) ^ 11=2048:=by decide
 have d2:(2:Nat) ^ 52=4503599627370496:=by decide
 rw [d1,d2,g1] at h
 simp only [Bool.and_eq_false_iff,beq_eq_false_iff_ne,bne_eq_false_iff_eq] at h
 rcases h with (h|h)|h
 ·exact absurd rfl h
 ·omega
 ·omega
theorem leaf_plain {d:Nat} {v:V} (h:Gt (d+1) v) (h5:v.k≠5) (h6:v.k≠6) (h4:v.k≠4):Plain (leafT v):=by
 have ok:=h.1.ok
 have k0:=ok.k0
 have k6:=ok.k6
 unfold leafT
 by_cases c0:v.k=0
 ·rw [if_pos c0];exact ⟨by unfold StopC;decide,110,[117,108,108],rfl,by decide,by decide,by decide,by decide,by decide⟩
 rw [if_neg c0]
 by_cases c1:v.k=1
 ·rw [if_pos c1]
  split
  ·exact ⟨by unfold StopC;decide,116,[114,117,101],rfl,by decide,by decide,by decide,by decide,by decide⟩
  ·exact ⟨by unfold StopC;decide,102,[97,108,115,101],rfl,by decide,by decide,by decide,by decide,by decide⟩
 rw [if_neg c1]
 by_cases c2:v.k=2
 ·rw [if_pos c2];exact Plain.of_f (fun c hc=>iCh_f (itoa_ch _ c hc)) (itoa_ne _)
 rw [if_neg c2]
 have c3:v.k=3:=by omega
 rw [if_pos c3]
 obtain ⟨t,ht⟩:=h.2.2.1 c3
 rw [fTxt_is ht]
 obtain ⟨a1,⟨c,a2,-⟩,-⟩:=text_ch ht
 exact Plain.of_f a1 (fun e=>by rw [e] at a2;cases a2)
theorem leaf_same {d:Nat} {v w:V} (h:Gt (d+1) v) (g:Gt (d+1) w) (h5:v.k≠5) (h6:v.k≠6) (h4:v.k≠4) (g5:w.k≠5) (g6:w.k≠6) (g4:w.k≠4) (e:leafT v=leafT w):v=w:=by
 have ok:=h.1.ok
 have ok':=g.1.ok
 have k0:=ok.k0
 have k6:=ok.k6
 have k0':=ok'.k0
 have k6':=ok'.k6
 have hmem:∀ (v:V),Gt (d+1) v->v.k≠5->v.k≠6->v.k≠4 ->
  (v.k=0/\leafT v=nullS)\/(v.k=1/\v.n=1/\leafT v=trueS)\/(v.k=1/\v.n=0/\leafT v=falseS)\/(v.k=2/\leafT v=Lib.itoa v.n/\∀ c∈leafT v,iCh c=true) \/
  (v.k=3/\TextIs v.f.toNat (leafT v)/\(∀ c∈leafT v,fCh c=true)/\∃ c∈leafT v,iCh c=false):=by
  intro v h h5 h6 h4
  have ok:=h.1.ok
  have k0:=ok.k0
  have k6:=ok.k6
  unfold leafT
  by_cases c0:v.k=0
  ·rw [if_pos c0];exact .inl ⟨c0,rfl⟩
  rw [if_neg c0]
  by_cases c1:v.k=1
  ·rw [if_pos c1]
   rcases ok.n1 c1 with n|n
   ·rw [if_neg (by omega)];exact .inr (.inr (.inl ⟨c1,n,rfl⟩))
   ·rw [if_pos n];exact .inr (.inl ⟨c1,n,rfl⟩)
  rw [if_neg c1]
  by_cases c2:v.k=2
  ·rw [if_pos c2];exact .inr (.inr (.inr (.inl ⟨c2,rfl,itoa_ch _⟩)))
  rw [if_neg c2]
  have c3:v.k=3:=by omega
  rw [if_pos c3]
  obtain ⟨t,ht⟩:=h.2.2.1 c3
  rw [fTxt_is ht]
  obtain ⟨a1,a2,-⟩:=text_ch ht
  exact .inr (.inr (.inr (.inr ⟨c3,ht,a1,a2⟩)))
 have fin:v.k=w.k->v.n=w.n->v.f=w.f->v=w:=fun a b c=>by
  refine V.ext' a b c ?_ ?_ ?_
  ·rw [ok.s h4,ok'.s g4]
  ·rw [ok.l h5,ok'.l g5]
  ·rw [ok.e h6,ok'.e g6]
 have hn:∀ c:UInt8,fCh c=false->iCh c=false:=fun c hc=>by
  cases hi:iCh c with
  | false=>rfl
  | true=>rw [iCh_f hi] at hc;cases hc
 rcases hmem v h h5 h6 h4 with ⟨a,p⟩|⟨a,n,p⟩|⟨a,n,p⟩|⟨a,p,q⟩|⟨a,p,q,q2⟩<;>rcases hmem w g g5 g6 g4 with ⟨b,p'⟩|⟨b,n',p'⟩|⟨b,n',p'⟩|⟨b,p',q'⟩|⟨b,p',q',q2'⟩
 ·exact fin (by omega) (by rw [ok.n (by omega) (by omega),ok'.n (by omega) (by omega)]) (by rw [ok.f (by omega),ok'.f (by omega)])
 ·rw [p,p'] at e;exact absurd e (by decide)
 ·rw [p,p'] at e;exact absurd e (by decide)
 ·rw [<-e,p] at q';exact absurd (q' 117 (by decide)) (by decide)
 ·rw [<-e,p] at q';exact absurd (q' 117 (by decide)) (by decide)
 ·rw [p,p'] at e;exact absurd e (by decide)
 ·exact fin (by omega) (by omega) (by rw [ok.f (by omega),ok'.f (by omega)])
 ·rw [p,p'] at e;exact absurd e (by decide)
 ·rw [<-e,p] at q';exact absurd (q' 116 (by decide)) (by decide)
 ·rw [<-e,p] at q';exact absurd (q' 116 (by decide)) (by decide)
 ·rw [p,p'] at e;exact absurd e (by decide)
 ·rw [p,p'] at e;exact absurd e (by decide)
 ·exact fin (by omega) (by omega) (by rw [ok.f (by omega),ok'.f (by omega)])
 ·rw [<-e,p] at q';exact absurd (q' 108 (by decide)) (by decide)
 ·rw [<-e,p] at q';exact absurd (q' 108 (by decide)) (by decide)
 ·rw [e,p'] at q;exact absurd (q 117 (by decide)) (by decide)
 ·rw [e,p'] at q;exact absurd (q 116 (by decide)) (by decide)
 ·rw [e,p'] at q;exact absurd (q 108 (by decide)) (by decide)
 ·exact fin (by omega) (itoa_tell (by rw [<-p,<-p',e])) (by rw [ok.f (by omega),ok'.f (by omega)])
 ·obtain ⟨c,hc,hc2⟩:=q2'
  rw [<-e] at hc
  rw [q c hc] at hc2;cases hc2
 ·rw [e,p'] at q;exact absurd (q 117 (by decide)) (by decide)
 ·rw [e,p'] at q;exact absurd (q 116 (by decide)) (by decide)
 ·rw [e,p'] at q;exact absurd (q 108 (by decide)) (by decide)
 ·obtain ⟨c,hc,hc2⟩:=q2
  rw [e] at hc
  rw [q' c hc] at hc2;cases hc2
 ·rw [e] at p
  have w1:=h.2.1
  have w2:=g.2.1
  have:=text_tell (by have:=w1.f1;have:=w1.f0;omega) (by have:=w2.f1;have:=w2.f0;omega) p p' (nanBad_of w1.f0 w1.f1 ok.nan) (nanBad_of w2.f0 w2.f1 ok'.nan)
  exact fin (by omega) (by rw [ok.n (by omega) (by omega),ok'.n (by omega) (by omega)]) (by have:=w1.f0;have:=w2.f0;omega)
theorem leaf_text {d:Nat} {v:V} (h4:v.k=4):leafT v=quoteT v.s:=by
 unfold leafT
 rw [if_neg (by omega),if_neg (by omega),if_neg (by omega),if_neg (by omega)]
def KeyOk (k:ByteArray):Prop:=k.size<=100/\okText k.data.toList
theorem bare_stop {k:ByteArray} (h:bareOf k.data.toList=true):(∀ c∈k.data.toList,c≠58)/\∃ c t,k.data.toList=c::t/\c≠34/\c≠93/\c≠125:=by
 have hb:=bare_bytes h
 have hne:k.data.toList≠[]:=by
  intro e;rw [e] at h;exact absurd h (by decide)
 have key:∀ c:UInt8,(letterB c.toNat || moreB c.toNat)=true->c≠58/\c≠34/\c≠93/\c≠125:=by
  intro c hc
  refine ⟨?_,?_,?_,?_⟩<;>(rintro rfl;exact absurd hc (by decide))
 refine ⟨fun c hc=>(key c (hb c hc)).1,?_⟩
 cases hk:k.data.toList with
 | nil=>exact absurd hk hne
 | cons c t =>
   obtain ⟨-,a,b,d⟩:=key c (hb c (by rw [hk];simp))
   exact ⟨c,t,rfl,a,b,d⟩
theorem tells (d:Nat):Tells2 leafT keyT (Gt (d+1)) KeyOk where
 leaf:=by
  intro v w r s h g h5 h6 g5 g6 hr hs e
  by_cases h4:v.k=4
  ·by_cases g4:w.k=4
   ·rw [leaf_text (d:=d) h4,leaf_text (d:=d) g4] at e
    obtain ⟨e1,e2⟩:=quoteT_tell (ownV_zero h.1.1).2.2.2.2 (ownV_zero g.1.1).2.2.2.2 e
    have ok:=h.1.ok
    have ok':=g.1.ok
    refine ⟨V.ext' (by omega) ?_ ?_ e1 ?_ ?_,e2⟩
    ·rw [ok.n (by omega) (by omega),ok'.n (by omega) (by omega)]
    ·rw [ok.f (by omega),ok'.f (by omega)]
    ·rw [ok.l h5,ok'.l g5]
    ·rw [ok.e h6,ok'.e g6]
   ·exfalso
    rw [leaf_text (d:=d) h4] at e
    obtain ⟨t,ht⟩:=quoteT_cons v.s
    obtain ⟨-,c,u,hc,hc2,-⟩:=leaf_plain g g5 g6 g4
    rw [ht,hc] at e
    exact hc2 (List.cons.inj e).1.symm
  ·by_cases g4:w.k=4
   ·exfalso
    rw [leaf_text (d:=d) g4] at e
    obtain ⟨t,ht⟩:=quoteT_cons w.s
    obtain ⟨-,c,u,hc,hc2,-⟩:=leaf_plain h h5 h6 h4
    rw [ht,hc] at e
    exact hc2 (List.cons.inj e).1
   ·obtain ⟨e1,e2⟩:=front_tell (P:=StopC) _ _ r s (leaf_plain h h5 h6 h4).stop (leaf_plain g g5 g6 g4).stop hr hs e
    exact ⟨leaf_same h g h5 h6 h4 g5 g6 g4 e1,e2⟩
 head:=by
  intro v h h5 h6
  by_cases h4:v.k=4
  ·rw [leaf_text (d:=d) h4]
   exact ⟨34,_,rfl,by decide,by decide,by decide,by decide⟩
  ·obtain ⟨-,c,u,hc,-,a,b,e,f⟩:=leaf_plain h h5 h6 h4
   exact ⟨c,u,hc,e,f,a,b⟩
 key:=by
  intro k m r s hk hm e
  have ex:∀ a b:ByteArray,a.data.toList=b.data.toList->a=b:=fun a b h=>ByteArray.ext (Array.toList_inj.1 h)
  have h58:∀ (r:List UInt8),∀ c,(58::r).head?=some c->c=58:=fun r c h=>(Option.some.inj h).symm
  unfold keyT at e
  by_cases hb:bareOf k.data.toList=true
  ·rw [if_pos hb] at e
   by_cases gb:bareOf m.data.toList=true
   ·rw [if_pos gb] at e
    obtain ⟨e1,e2⟩:=front_tell (P:=fun c=>c=58) _ _ (58::r) (58::s) (bare_stop hb).1 (bare_stop gb).1 (h58 r) (h58 s) e
    exact ⟨ex _ _ e1,(List.cons.inj e2).2⟩
   ·exfalso
    rw [if_neg gb] at e
    obtain ⟨t,ht⟩:=quoteT_cons m
    obtain ⟨c,u,hc,hc2,-⟩:=(bare_stop hb).2
    rw [ht,hc] at e
    exact hc2 (List.cons.inj e).1
  ·rw [if_neg hb] at e
   by_cases gb:bareOf m.data.toList=true
   ·exfalso
    rw [if_pos gb] at e
    obtain ⟨t,ht⟩:=quoteT_cons k
    obtain ⟨c,u,hc,hc2,-⟩:=(bare_stop gb).2
    rw [ht,hc] at e
    exact hc2 (List.cons.inj e).1.symm
   ·rw [if_neg gb] at e
    obtain ⟨e1,e2⟩:=quoteT_tell hk.2 hm.2 e
    exact ⟨e1,(List.cons.inj e2).2⟩
 khead:=by
  intro k hk
  unfold keyT
  by_cases hb:bareOf k.data.toList=true
  ·rw [if_pos hb]
   obtain ⟨c,t,h1,-,h2,h3⟩:=(bare_stop hb).2
   exact ⟨c,t,h1,h2,h3⟩
  ·rw [if_neg hb]
   exact ⟨34,_,rfl,by decide,by decide⟩
end Go.Proofs.YtldhmfkojaekfaaGreatDoor
namespace Go.Proofs.YtldhmfkojaekfaaGreatDoor
open Go.RowKit Gx
def digBNm (d:Nat):UInt8:=if d<10 then UInt8.ofNat (48+d) else UInt8.ofNat (87+d)
def digFNm:Nat->Nat->Nat->List UInt8
 | 0,_,_=>[]
 | f+1,b,u=>if u<b then [digBNm u] else digFNm f b (u / b)++[digBNm (u % b)]
def hexB (c:Int):Bool:=decide (48<=c/\c<=57) || decide (97<=c/\c<=102) || decide (65<=c/\c<=70)
def preLen (l:List UInt8):Nat:=if 1<l.length/\l.getD 0 0=48/\(l.getD 1 0=120\/l.getD 1 0=111\/l.getD 1 0=98) then 2 else 0
def signLen (l:List UInt8):Nat:=if l.getD 0 0=45 then 1 else 0
def frontOf (b:Nat):List UInt8:=if b=16 then [48,120] else if b=8 then [48,111] else if b=2 then [48,98] else []
def toldOf (neg:Bool) (b u:Nat):List UInt8:=(if neg then [45] else [])++(frontOf b++digFNm (u+1) b u)
set_option maxRecDepth 100000
theorem scan_calm:∀ (x y:List UInt8) (i:Nat),(∀ c∈x,c≠10/\c≠34/\c≠92)->textScan (x++y) false i=textScan y false (i+x.length)
 | [],y,i,_=>by simp
 | c::x,y,i,h=>by
   obtain ⟨h1,h2,h3⟩:=h c List.mem_cons_self
   have e:(c==92)=false:=beq_eq_false_iff_ne.2 h3
   rw [List.cons_append,textScan,if_neg h1,if_neg (by decide),if_neg h2,e,scan_calm x y (i+1) (fun d hd=>h d (List.mem_cons_of_mem _ hd)),List.length_cons]
   congr 1;omega
theorem scan_esc (c:UInt8) (y:List UInt8) (i:Nat) (hc:c≠10):textScan (92::c::y) false i=textScan y false (i+2):=by
 have e:((92:UInt8)==92)=true:=rfl
 rw [textScan,if_neg (by decide),if_neg (by decide),if_neg (by decide),e,textScan,if_neg hc,if_pos rfl]
theorem hex_calm (n:Nat) (h:n<128):∀ c∈hexText n,c≠10/\c≠34/\c≠92:=by
 have key:∀ e:Fin 128,∀ c∈hexText e.val,c≠10/\c≠34/\c≠92:=by decide +kernel
 exact key ⟨n,h⟩
theorem scan_quoteR (r:Int) (hg:good r=true) (y:List UInt8) (i:Nat):textScan (quoteR r++y) false i=textScan y false (i+(quoteR r).length):=by
 have hg2:=hg
 rw [good_iff] at hg2
 unfold quoteR
 by_cases c1:r=34\/r=92
 ·rw [if_pos c1]
  rcases c1 with rfl|rfl
  ·rw [enc_ascii 34 (by decide) (by decide)];exact scan_esc _ y i (by decide)
  ·rw [enc_ascii 92 (by decide) (by decide)];exact scan_esc _ y i (by decide)
 rw [if_neg c1]
 by_cases c2:r=10
 ·rw [if_pos c2];exact scan_esc _ y i (by decide)
 rw [if_neg c2]
 by_cases c3:r=9
 ·rw [if_pos c3];exact scan_esc _ y i (by decide)
 rw [if_neg c3]
 by_cases c4:r=13
 ·rw [if_pos c4];exact scan_esc _ y i (by decide)
 rw [if_neg c4]
 by_cases c5:r<32\/r=127
 ·rw [if_pos c5]
  have hx:=hex_calm r.natAbs (by omega)
  have e:[92,117,123]++hexText r.natAbs++[125]++y=92::117::((123::(hexText r.natAbs++[125]))++y):=by simp
  rw [e,scan_esc 117 _ i (by decide),scan_calm _ _ _ (fun c hc=>?_)]
  ·congr 1;simp;omega
  ·rcases List.mem_cons.1 hc with rfl|hc
   ·decide
   ·rcases List.mem_append.1 hc with hc|hc
    ·exact hx c hc
    ·obtain rfl:=List.mem_singleton.1 hc;decide
 rw [if_neg c5]
 refine scan_calm _ _ _ (fun c hc=>?_)
 rcases Int.lt_or_le r 128 with h|h
 ·rw [enc_ascii r (by omega) (by omega),List.mem_singleton] at hc
  have hn:=byteNat r (by omega) (by omega)
  rw [<-hc] at hn
  have key:∀ m:UInt8,(m.toNat:Int)≠r->c≠m:=fun m hm e=>hm (by rw [<-e];omega)
  exact ⟨key 10 (fun e=>c2 e.symm),key 34 (fun e=>c1 (.inl e.symm)),key 92 (fun e=>c1 (.inr e.symm))⟩
 ·have hh:=enc_high r hg h c hc
  have key:∀ m:UInt8,m.toNat<128->c≠m:=fun m hm e=>by rw [e] at hh;omega
  exact ⟨key 10 (by decide),key 34 (by decide),key 92 (by decide)⟩
theorem scan_quotes:∀ (rs:List Int),rs.all good=true->∀ (y:List UInt8) (i:Nat),textScan (quotes rs++y) false i=textScan y false (i+(quotes rs).length)
 | [],_,y,i=>rfl
 | r::rs,hg,y,i=>by
   rw [List.all_cons,Bool.and_eq_true] at hg
   have e:quotes (r::rs)=quoteR r++quotes rs:=rfl
   rw [e,List.append_assoc,scan_quoteR r hg.1,scan_quotes rs hg.2,List.length_append]
   congr 1;omega
theorem next_quote (p:List UInt8) (h:textLen (34::p)≠0):nextTok (34::p)=(5,textLen (34::p)):=by
 have e5:classOf ((34:UInt8).toNat:Int)=5:=by decide
 unfold nextTok
 simp only [e5]
 rw [if_neg (by omega),if_neg (by omega),if_pos trivial,if_neg h]
theorem quote_tok (rs:List Int) (hg:rs.all good=true):nextTok (quoteOf rs)=(5,(quoteOf rs).length):=by
 have ht:textLen (quoteOf rs)=(quoteOf rs).length:=by
  unfold textLen quoteOf
  rw [List.drop_succ_cons,List.drop_zero,scan_quotes rs hg,textScan,if_neg (by decide),if_neg (by decide),if_pos rfl]
  simp;omega
 have hn:textLen (quoteOf rs)≠0:=by rw [ht];unfold quoteOf;simp
 have:=next_quote (quotes rs++[34]) hn
 rw [show (34::(quotes rs++[34]):List UInt8)=quoteOf rs from rfl,ht] at this
 exact this
theorem quote_ne (rs:List Int):quoteOf rs≠[]:=by unfold quoteOf;simp
theorem said_quote {s:ByteArray} (h:okText s.data.toList):saidOf (quoteT s)=some s:=by
 obtain ⟨h1,h2⟩:=runesT_ok h
 have hq:=unquote_quote (runesT s.data.toList) h1 []
 rw [List.append_nil] at hq
 unfold saidOf quoteT
 rw [hq]
 refine congrArg some (ByteArray.ext (Array.toList_inj.1 ?_))
 show encs (runesT s.data.toList)=s.data.toList
 exact h2.symm
end Go.Proofs.YtldhmfkojaekfaaGreatDoor
namespace Go.Proofs.YtldhmfkojaekfaaGreatDoor
open Go.RowKit Go.Shelf Gx
set_option maxRecDepth 100000
structure Prn (b:Nat) (many:Bool) (l:List UInt8) (w:World):Prop where
 ex:∃ p v,(p=.pointer none\/p=.pointer (some ⟨b,0,none⟩))/\w.heap[b]?=some (.cells #[p,v,.bool many] 76)/\w.ownsRow (b+1) 5 1 v l.length (Lib.byteCells l)
theorem Prn.lt {b:Nat} {many:Bool} {l:List UInt8} {w:World} (h:Prn b many l w):b<w.heap.size:=by
 obtain ⟨p,v,-,hb,-⟩:=h.ex
 exact (Array.getElem?_eq_some_iff.1 hb).1
theorem Prn.many_ {b:Nat} {many:Bool} {l:List UInt8} {w:World} (h:Prn b many l w):w.cell? ⟨b,2,none⟩=some (.bool many):=by
 obtain ⟨p,v,-,hb,-⟩:=h.ex
 rw [Lib.cell_of_heap hb];rfl
theorem Prn.keep {b:Nat} {many:Bool} {l:List UInt8} {w w':World} (h:Prn b many l w) (hb:Below w.heap.size w w'):Prn b many l w':=by
 obtain ⟨p,v,hp,hb',ho⟩:=h.ex
 exact ⟨p,v,hp,(hb.block _ h.lt).trans hb',own_keep ho hb⟩
def PrnPost (v:Value) (b:Nat) (many:Bool) (l:List UInt8) (w:World) (e:Ending) (w':World):Prop:=e=.returned v/\Prn b many l w'/\Below b w w'/\Lib.OthersKept 5 (some b) w w'/\w.heap.size<=w'.heap.size
def UsedPost (b:Nat) (many:Bool) (l:List UInt8) (w:World) (e:Ending) (w':World):Prop :=
 e=.returned (.tuple #[])/\(∃ v,w'.heap[b]?=some (.cells #[.pointer (some ⟨b,0,none⟩),v,.bool many] 76)/\w'.ownsRow (b+1) 5 1 v l.length (Lib.byteCells l))/\Below b w w'/\Lib.OthersKept 5 (some b) w w'/\w'.heap.size=w.heap.size
theorem info_builder:∃ j,Tryz.prog.info? 74=some j/\j.size=2:=Option.map_eq_some_iff.1 (show (Tryz.prog.info? 74).map (·.size)=some 2 by kernel_rfl)
set_option maxHeartbeats 2000000 in
theorem copyCheck_prn (b:Nat) (many:Bool) (l:List UInt8) (w:World) (h:Prn b many l w):Calls Tryz.prog 63 #[.pointer (some ⟨b,0,none⟩)] w (UsedPost b many l w):=by
 obtain ⟨p,v,hp,hb,ho⟩:=h.ex
 obtain ⟨j,hj,hjs⟩:=info_builder
 have hlt:=h.lt
 have c0:w.cell? ⟨b,0,none⟩=some p:=by rw [Lib.cell_of_heap hb];rfl
 have f0:w.frozen? ⟨b,0,none⟩=false:=Lib.frozen_of_heap hb 0
 have hsh:w.shape? b=some (76,3):=by simp [World.shape?,hb]
 rcases hp with rfl|rfl
 ·have hb2:(w.setCell ⟨b,0,none⟩ (.pointer (some ⟨b,0,none⟩))).heap[b]?=some (.cells #[.pointer (some ⟨b,0,none⟩),v,.bool many] 76):=by simp [World.setCell,Array.getElem?_modify,hb]
  have ho2:(w.setCell ⟨b,0,none⟩ (.pointer (some ⟨b,0,none⟩))).ownsRow (b+1) 5 1 v l.length (Lib.byteCells l):=ho.kept (row:=some b) ⟨rfl,rfl,rfl,by simp [World.setCell],fun k _ hk=>Below.heap_setCell _ _ _ _ (fun e=>hk (by simp [e]))⟩ (by
   cases hv:v.ownBlock with
   | none=>exact .inl rfl
   | some g=>exact .inr (fun e=>by have:=(ho.lt g hv).1;have:=Option.some.inj e;omega))
  have HB:=Lib.hid hb2
  have HO:=Lib.hid ho2
  clear hb hb2 ho ho2 h
  go_enter Tryz.func63,Tryz.ntmps63
  go_wp2
  rw [Lib.run_to_unsafe w ⟨b,0,none⟩ Tryz.underlying71 Tryz.underlying135 hj (by rw [hjs];decide) hsh (show (0:Nat)<3 by decide)]
  simp only [Result.andThen]
  rw [Oper.upon_value]
  go_wp2
  rw [run_callFunc_extern Tryz.func97 (by kernel_rfl) (by kernel_rfl) (by kernel_rfl) (e:=Extern.AbiNoEscape.same) (by kernel_rfl)]
  rw [Lib.run_noEscape]
  simp only [Result.andThen]
  rw [Oper.upon_value]
  go_wp2
  rw [Lib.run_from_unsafe w ⟨b,0,none⟩ Tryz.underlying135 Tryz.underlying71 hj hsh (by kernel_rfl)]
  simp only [Result.andThen]
  rw [Oper.upon_value]
  go_wp2
  go_end0
  exact ⟨rfl,⟨v,HB.out,HO.out⟩,(Below.refl b w).setCell (p:=⟨b,0,none⟩) (Nat.le_refl _) _,(Lib.OthersKept.refl _ _ w).setCell ⟨b,0,none⟩ rfl _,by simp [World.setCell]⟩
 ·refine (Any.Builder_copyCheck_used (P:=Tryz.prog) (ρ:=YtldhmfkojaekfaaGreatDoor.lays166_ren) { YtldhmfkojaekfaaGreatDoor.lays166 with } YtldhmfkojaekfaaGreatDoor.Builder_Extra_166.toX72 b w c0).mono ?_
  rintro e w' ⟨rfl,rfl⟩
  exact ⟨rfl,⟨v,hb,ho⟩,Below.refl _ _,Lib.OthersKept.refl _ _ _,rfl⟩
theorem Tryz.info_u8p:(Tryz.prog.info? 5).map (fun i=>(i.zero,i.size,i.bytes))=some (some (.int .u8 0),1,1):=by kernel_rfl
theorem prn_after {b:Nat} {many:Bool} {n:Nat} {xs:List Value} {p v:Value} {w1 w2:World} (hbk:w1.heap[b]?=some (.cells #[p,v,.bool many] 76)) (hown:w1.ownsRow (b+1) 5 1 v n xs) (hg:w1.grownBy w2 v.ownBlock) :
 w2.heap[b]?=some (.cells #[p,v,.bool many] 76)/\w2.cell? ⟨b,1,none⟩=some v/\w2.frozen? ⟨b,1,none⟩=false:=by
 have hlt:=(Array.getElem?_eq_some_iff.1 hbk).1
 have hne:v.ownBlock≠some b:=fun e=>by have:=(hown.lt b e).1;omega
 have hb2:=(hg.block b hlt (fun e=>hne e.symm)).trans hbk
 exact ⟨hb2,by rw [Lib.cell_of_heap hb2];rfl,Lib.frozen_of_heap hb2 1⟩
set_option maxHeartbeats 4000000 in
theorem writeByteP (b:Nat) (many:Bool) (l:List UInt8) (c:UInt8) (w:World) (h:Prn b many l w) (hlen:l.length+1<=140737488355328) :
 Calls Tryz.prog 33 #[.pointer (some ⟨b,0,none⟩),.int .u8 (c.toNat:Nat)] w (PrnPost .nilIface b many (l++[c]) w):=by
 have HCC:=Lib.hid (copyCheck_prn b many l w h)
 have hlt:=h.lt
 clear h
 go_enter Tryz.func33,Tryz.ntmps33
 go_wp2_with fail
 (with_reducible refine HCC.out.mono ?_)
 rintro e w1 ⟨rfl,⟨v,hbk,hown⟩,hb1,hk1,hz1⟩
 have c0:w1.cell? ⟨b,0,none⟩=some (.pointer (some ⟨b,0,none⟩)):=by rw [Lib.cell_of_heap hbk];rfl
 have c1:w1.cell? ⟨b,1,none⟩=some v:=by rw [Lib.cell_of_heap hbk];rfl
 have HBK:=Lib.hid hbk
 have HOW:=Lib.hid hown
 have HB1:=Lib.hid hb1
 have HK1:=Lib.hid hk1
 have HZ1:=Lib.hid hz1
 clear hbk hown hb1 hk1 hz1 HCC
 go_wp2_with (at_builtin;refine Gx.wpList_push w1 rfl (.tmp 11) (.tmp 13) 72 rfl (b+1) 5 (.int .u8 0) 1 1 Tryz.underlying72 Tryz.info_u8p rfl (by decide) v l.length (Lib.byteCells l) [.int .u8 (c.toNat:Nat)] _ rfl rfl HOW.out rfl rfl (fun u hu=>by rw [List.mem_singleton.1 hu];rfl) (by omega) (by omega) (by have:=HZ1.out;omega) ?_;intro v' w2 hown' hg' _ _;obtain ⟨ao,cc,rfl⟩:=own_form hown';have hx:=prn_after HBK.out HOW.out hg';obtain ⟨hb2,d1,f1⟩:=hx)
 have hb3:(w2.setCell ⟨b,1,none⟩ (.slice ao (l.length+1) cc)).heap[b]?=some (.cells #[.pointer (some ⟨b,0,none⟩),.slice ao (l.length+1) cc,.bool many] 76):=by simp [World.setCell,Array.getElem?_modify,hb2]
 have ho3:(w2.setCell ⟨b,1,none⟩ (.slice ao (l.length+1) cc)).ownsRow (b+1) 5 1 (.slice ao (l.length+1) cc) (l.length+1) (Lib.byteCells l++[.int .u8 (c.toNat:Nat)]):=hown'.kept (row:=some b) ⟨rfl,rfl,rfl,by simp [World.setCell],fun k _ hk=>Below.heap_setCell _ _ _ _ (fun e=>hk (by simp [e]))⟩ (by
  cases hv:Value.ownBlock (.slice ao (l.length+1) cc) with
  | none=>exact .inl rfl
  | some g=>exact .inr (fun e=>by have:=(hown'.lt g hv).1;have:=Option.some.inj e;omega))
 have HF:Hid (PrnPost .nilIface b many (l++[c]) w (.returned .nilIface) (w2.setCell ⟨b,1,none⟩ (.slice ao (l.length+1) cc))):=Lib.hid ⟨rfl,⟨_,_,.inr rfl,hb3,by rw [List.length_append,Lib.byteCells_append];exact ho3⟩,
  (HB1.out.grown hg' (by have:=HZ1.out;omega) (fun k e=>by have:=(HOW.out.lt k e).1;omega)).setCell (p:=⟨b,1,none⟩) (Nat.le_refl _) _,
  (HK1.out.grown hg' (Lib.ownsRow_kind HOW.out)).setCell ⟨b,1,none⟩ rfl _,by have:=hg'.size;have:=HZ1.out;simp [World.setCell];omega⟩
 clear hb2 hb3 ho3 hown' hg' HBK HOW HB1 HK1
 try go_wp2_with fail
 try go_ret
 exact HF.out
set_option maxHeartbeats 4000000 in
theorem writeStrP (b:Nat) (many:Bool) (l:List UInt8) (s:ByteArray) (w:World) (h:Prn b many l w) (hlen:l.length+s.size<=140737488355328) :
 Calls Tryz.prog 61 #[.pointer (some ⟨b,0,none⟩),.string s] w (PrnPost (.tuple #[.int .i64 s.size,.nilIface]) b many (l++s.data.toList) w):=by
 have HCC:=Lib.hid (copyCheck_prn b many l w h)
 have hlt:=h.lt
 obtain ⟨i0,hi,hz0,hz1,hz2⟩:=info_parts Tryz.info_u8p
 clear h
 go_enter Tryz.func61,Tryz.ntmps61
 go_wp2_with fail
 (with_reducible refine HCC.out.mono ?_)
 rintro e w1 ⟨rfl,⟨v,hbk,hown⟩,hb1,hk1,hz1'⟩
 have c0:w1.cell? ⟨b,0,none⟩=some (.pointer (some ⟨b,0,none⟩)):=by rw [Lib.cell_of_heap hbk];rfl
 have c1:w1.cell? ⟨b,1,none⟩=some v:=by rw [Lib.cell_of_heap hbk];rfl
 have HBK:=Lib.hid hbk
 have HOW:=Lib.hid hown
 have HB1:=Lib.hid hb1
 have HK1:=Lib.hid hk1
 have HZ1:=Lib.hid hz1'
 clear hbk hown hb1 hk1 hz1' HCC
 go_wp2_with (at_builtin;refine Lib.wpList_append_own_string _ rfl _ _ 72 9 rfl (b+1) 5 i0 Tryz.underlying72 Tryz.underlying9 hi hz0 hz1 hz2 v l.length (Lib.byteCells l) rfl HOW.out s rfl (by unfold maxLen;omega) (by omega) (by have:=HZ1.out;omega) ?_;intro v' w2 hown' hg' _;obtain ⟨ao,cc,rfl⟩:=own_form hown';have hx:=prn_after HBK.out HOW.out hg';obtain ⟨hb2,d1,f1⟩:=hx)
 have hb3:(w2.setCell ⟨b,1,none⟩ (.slice ao (l.length+s.size) cc)).heap[b]?=some (.cells #[.pointer (some ⟨b,0,none⟩),.slice ao (l.length+s.size) cc,.bool many] 76):=by simp [World.setCell,Array.getElem?_modify,hb2]
 have ho3:(w2.setCell ⟨b,1,none⟩ (.slice ao (l.length+s.size) cc)).ownsRow (b+1) 5 1 (.slice ao (l.length+s.size) cc) (l.length+s.size) (Lib.byteCells l++Lib.strCells s):=hown'.kept (row:=some b) ⟨rfl,rfl,rfl,by simp [World.setCell],fun k _ hk=>Below.heap_setCell _ _ _ _ (fun e=>hk (by simp [e]))⟩ (by
  cases hv:Value.ownBlock (.slice ao (l.length+s.size) cc) with
  | none=>exact .inl rfl
  | some g=>exact .inr (fun e=>by have:=(hown'.lt g hv).1;have:=Option.some.inj e;omega))
 have HF:Hid (PrnPost (.tuple #[.int .i64 s.size,.nilIface]) b many (l++s.data.toList) w (.returned (.tuple #[.int .i64 s.size,.nilIface])) (w2.setCell ⟨b,1,none⟩ (.slice ao (l.length+s.size) cc))):=Lib.hid ⟨rfl,⟨_,_,.inr rfl,hb3,by
  rw [List.length_append,Lib.byteCells_append,<-Lib.size_eq];exact ho3⟩,
  (HB1.out.grown hg' (by have:=HZ1.out;omega) (fun k e=>by have:=(HOW.out.lt k e).1;omega)).setCell (p:=⟨b,1,none⟩) (Nat.le_refl _) _,
  (HK1.out.grown hg' (Lib.ownsRow_kind HOW.out)).setCell ⟨b,1,none⟩ rfl _,by have:=hg'.size;have:=HZ1.out;simp [World.setCell];omega⟩
 clear hb2 hb3 ho3 hown' hg' HBK HOW HB1 HK1
 try go_wp2_with fail
 try go_ret2
 exact HF.out
set_option maxHeartbeats 2000000 in
theorem builtP (b:Nat) (many:Bool) (l:List UInt8) (w:World) (h:Prn b many l w) (h0:l≠[]) :
 Calls Tryz.prog 34 #[.pointer (some ⟨b,0,none⟩)] w fun e w'=>e=.returned (.string ⟨l.toArray⟩)/\Below b w w':=by
 obtain ⟨p,v,hp,hbk,hown⟩:=h.ex
 have hl0:l.length≠0:=by simpa using h0
 obtain ⟨g,cap,cur,rfl,hbg,hg,hnc,hcm,hcs,htake⟩:∃ g cap cur,v=.slice (some ⟨g,0,none⟩) l.length cap/\b+1<=g/\w.heap[g]?=some (.cells cur 5 (0,0))/\l.length<=cap/\cap<=maxLen/\cur.size=cap * 1/\cur.toList.take (l.length * 1)=Lib.byteCells l:=by
  rcases hown.2 with ⟨_,hz⟩|⟨g,cap,cur,hv,r⟩
  ·exact absurd hz hl0
  ·exact ⟨g,cap,cur,hv,r⟩
 have c1:w.drew.cell? ⟨b,1,none⟩=some (.slice (some ⟨g,0,none⟩) l.length cap):=by
  have:w.drew.heap[b]?=some (.cells #[p,.slice (some ⟨g,0,none⟩) l.length cap,.bool many] 76):=hbk
  rw [Lib.cell_of_heap this];rfl
 have c1':w.cell? ⟨b,1,none⟩=some (.slice (some ⟨g,0,none⟩) l.length cap):=by rw [Lib.cell_of_heap hbk];rfl
 have hSD:(Builtin.unsafeSliceData_ #[72] 106 #[.slice (some ⟨g,0,none⟩) l.length cap]).run Tryz.prog w.drew=.ok (.pointer (some ⟨g,0,none⟩)) w.drew :=
  Lib.run_unsafeSliceData_row _ _ _ _ _ _ (by omega)
 have hUS:(Builtin.unsafeString_ #[106,3] 9 #[.pointer (some ⟨g,0,none⟩),.int .i64 l.length]).run Tryz.prog w.drew=.ok (.string ⟨l.toArray⟩) (w.drew.freeze ⟨g,0,none⟩ l.length):=by
  refine Lib.run_unsafeString_row w.drew 106 3 9 5 Tryz.underlying106 (by kernel_rfl) g cur.size (by have hg':w.drew.heap[g]?=some (.cells cur 5 (0,0)):=hg;simp [World.shape?,hg']) l h0 (by omega) (by unfold maxLen at hcm;omega) ?_
  intro j x hx
  have:=hown.cells (g:=g) rfl j (.int .u8 x.toNat) (by simp [Lib.byteCells,hx])
  exact this
 have HB:Hid (Below b w (w.drew.freeze ⟨g,0,none⟩ l.length)):=Lib.hid (Lib.below_freeze (Below.drew (Below.refl b w)) (p:=⟨g,0,none⟩) (show b<=g by omega) _)
 clear hg hnc hcm hcs htake hbk hown h
 go_enter Tryz.func34,Tryz.ntmps34
 go_wp2
 go_region
 all_goals (go_wp2;go_ret;exact ⟨rfl,HB.out⟩)
end Go.Proofs.YtldhmfkojaekfaaGreatDoor
namespace Go.Proofs.YtldhmfkojaekfaaGreatDoor
open Go.RowKit Gx
set_option maxRecDepth 100000
structure KeepP (b:Nat) (w w':World):Prop where
 below:Below b w w'
 oth:Lib.OthersKept 5 (some b) w w'
 size:w.heap.size<=w'.heap.size
theorem KeepP.refl (b:Nat) (w:World):KeepP b w w:=⟨Below.refl _ _,Lib.OthersKept.refl _ _ _,Nat.le_refl _⟩
theorem KeepP.trans {b:Nat} {w w1 w2:World} (h:KeepP b w w1) (k:KeepP b w1 w2):KeepP b w w2:=⟨h.below.trans k.below,h.oth.trans k.oth,Nat.le_trans h.size k.size⟩
theorem KeepP.of_below {b:Nat} {w w':World} (h:Below w.heap.size w w') (hb:b<=w.heap.size):KeepP b w w' :=
 ⟨h.mono hb,fun k o hk _ _=>(h.block k (Array.getElem?_eq_some_iff.1 hk).1).trans hk,h.size⟩
theorem PrnPost.keep {v:Value} {b:Nat} {many:Bool} {l:List UInt8} {w w':World} {e:Ending} (h:PrnPost v b many l w e w'):KeepP b w w':=⟨h.2.2.1,h.2.2.2.1,h.2.2.2.2⟩
def PrnP (b:Nat) (many:Bool) (l:List UInt8) (w:World) (e:Ending) (w':World):Prop:=(∃ v,e=.returned v)/\Prn b many l w'/\KeepP b w w'
def PrnQ (b:Nat) (many:Bool) (l:List UInt8) (Q:Prop) (w:World) (e:Ending) (w':World):Prop:=PrnP b many l w e w'/\Q
theorem repeat_two (j:Nat):Lib.repeatL [32,32] j=List.replicate (2 * j) 32:=by
 induction j with
 | zero=>rfl
 | succ j ih=>rw [Lib.repeatL,ih,show 2 * (j+1)=2+2 * j by omega,<-List.replicate_append_replicate];rfl
def StrPostP (x:List UInt8) (w:World) (e:Ending) (w':World):Prop:=e=.returned (.string ⟨x.toArray⟩)/\Below w.heap.size w w'
theorem rep2_any (j:Nat) (hj:j<=100000) (D:Int) (hD:D=j) (w:World):Calls Tryz.prog 93 #[.string ⟨#[32,32]⟩,.int .i64 D] w (StrPostP (indentT j) w):=by
 subst hD
 have h:=Tryz.strings_Repeat ⟨#[32,32]⟩ j w (by omega) (by show 2 * j<=_;omega)
 rw [show (⟨#[32,32]⟩:ByteArray).data.toList=[32,32] from rfl,repeat_two] at h
 exact h
theorem elemsT_app {α:Type} (many:Bool) (deep:Nat) (E:α->List UInt8):∀ (l m:List α) (i:Nat),elemsT many deep E i (l++m)=elemsT many deep E i l++elemsT many deep E (i+l.length) m
 | [],m,i=>by simp [elemsT]
 | y::l,m,i=>by
   rw [List.cons_append,elemsT,elemsT,elemsT_app many deep E l m (i+1),show i+1+l.length=i+(y::l).length by simp;omega]
   simp
theorem elemsT_map {α β:Type} (many:Bool) (deep:Nat) (E:β->List UInt8) (g:α->β):∀ (l:List α) (i:Nat),elemsT many deep E i (l.map g)=elemsT many deep (fun x=>E (g x)) i l
 | [],_=>rfl
 | y::l,i=>by rw [List.map_cons,elemsT,elemsT,elemsT_map many deep E g l (i+1)]
def partsT (many:Bool) (deep:Nat) (xs:List (List UInt8)):List UInt8:=elemsT many deep (fun x=>x) 0 xs
theorem partsT_take {many:Bool} {deep k:Nat} {xs:List (List UInt8)} {x:List UInt8} (h:xs[k]?=some x):partsT many deep (xs.take (k+1))=partsT many deep (xs.take k)++preT many deep k++x++postT many:=by
 obtain ⟨hk,rfl⟩:=List.getElem?_eq_some_iff.1 h
 unfold partsT
 rw [List.take_succ_eq_append_getElem hk,elemsT_snoc,List.length_take,Nat.min_eq_left (by omega),Nat.zero_add]
 simp
theorem partsT_le {many:Bool} {deep:Nat} {xs:List (List UInt8)} (k:Nat):(partsT many deep (xs.take k)).length<=(partsT many deep xs).length:=by
 unfold partsT
 have e:xs=xs.take k++xs.drop k:=(List.take_append_drop k xs).symm
 conv=>rhs;rw [e]
 rw [elemsT_app,List.length_append]
 omega
theorem nl_size (l:List UInt8):((⟨#[10]⟩:ByteArray)++⟨l.toArray⟩).size=1+l.length:=by
 rw [ByteArray.size_append];rfl
theorem nl_list (l:List UInt8):((⟨#[10]⟩:ByteArray)++⟨l.toArray⟩).data.toList=10::l:=by
 rw [ByteArray.data_append];simp
theorem tailT_le (many:Bool) (deep n:Nat):(tailT many deep n).length<=1+2 * deep:=by
 unfold tailT indentT
 split<;>simp<;>omega
set_option maxRecDepth 100000
def TextPostF (b:Nat) (w:World) (e:Ending) (w':World):Prop:=∃ s:ByteArray,e=.returned (.string s)/\TextIs b s.data.toList/\s.size<=100/\Below w.heap.size w w'
set_option maxHeartbeats 4000000 in
theorem text_f (b:Nat) (w:World) (hb:b<18446744073709551616) (hT:FTab w):Calls Tryz.prog 96 #[.int .u64 b] w (TextPostF b w):=by
 have hsg:∃ sg:ByteArray,sg.data.toList=sgOf b/\((sg=⟨#[45]⟩/\decide ((9223372036854775808:Int)<=(b:Int))=true)\/(sg=⟨#[]⟩/\decide ((9223372036854775808:Int)<=(b:Int))=false)):=by
  unfold sgOf
  by_cases h:9223372036854775808<=b
  ·exact ⟨⟨#[45]⟩,by rw [if_pos h],.inl ⟨rfl,decide_eq_true (by omega)⟩⟩
  ·exact ⟨⟨#[]⟩,by rw [if_neg h],.inr ⟨rfl,decide_eq_false (by omega)⟩⟩
 obtain ⟨sg,hs0,hsg⟩:=hsg
 have HSG:=Lib.hid hs0
 have hfin:∀ (u:List UInt8) (s:ByteArray) w',s.data.toList=sg.data.toList++u->TextIs b (sgOf b++u)->u.length<=30->Below w.heap.size w w'->TextPostF b w (.returned (.string s)) w':=by
  intro u s w' h1 h2 h3 h4
  refine ⟨s,rfl,by rw [h1,hs0];exact h2,?_,h4⟩
  rw [Lib.size_eq,h1,List.length_append,<-Lib.size_eq]
  have:sg.size<=1:=by rcases hsg with ⟨rfl,-⟩|⟨rfl,-⟩<;>decide
  omega
 have hnan:b / 4503599627370496 % 2048=2047->b % 4503599627370496≠0->∀ w',Below w.heap.size w w'->TextPostF b w (.returned (.string ⟨#[110,97,110]⟩)) w':=by
  intro h1 h2 w' h4
  exact ⟨_,rfl,.inl ⟨h1,h2,rfl⟩,by decide,h4⟩
 have HFIN:=Lib.hid hfin
 have HNAN:=Lib.hid hnan
 have hP:=parts_anyFl b w hb
 have hS:=fun w0=>short_any b w0 hb
 unfold PartsPostFl at hP
 unfold ShortPost at hS
 have HP:=Lib.hid hP
 have HS:=Lib.hid hS
 have HT:=Lib.hid hT
 have hI:b / 4503599627370496 % 2048=2047->b % 4503599627370496=0->TextIs b (sgOf b++infTxt):=fun h1 h2=>.inr (.inl ⟨h1,h2,rfl⟩)
 have hZ:b / 4503599627370496 % 2048≠2047->b % 9223372036854775808=0->TextIs b (sgOf b++[48,46,48]):=fun h1 h2=>.inr (.inr (.inl ⟨h1,h2,rfl⟩))
 have HI:=Lib.hid hI
 have HZ:=Lib.hid hZ
 have hN:b / 4503599627370496 % 2048≠2047->b % 9223372036854775808≠0->∀ (c m z:Nat) (kk:Int),ShortIs (b % 9223372036854775808) c kk->c=m * 10 ^ z->m % 10≠0->m≠0->(decText m).length<=17->-500<=kk+(z:Int)->kk+(z:Int)<=500->TextIs b (sgOf b++pointOf (decText m) (kk+(z:Int))) :=
  fun h1 h2 c m z kk a1 a2 a3 a4 a5 a6 a7=>.inr (.inr (.inr ⟨h1,h2,c,m,z,kk,a1,a2,a3,a4,a5,a6,a7,rfl⟩))
 have HN:=Lib.hid hN
 generalize TextPostF b w=POST at *
 have hq1:∃ q,q=b / 4503599627370496 % 2048:=⟨_,rfl⟩
 obtain ⟨q,hq⟩:=hq1
 obtain ⟨f,hf⟩:∃ f,f=b % 4503599627370496:=⟨_,rfl⟩
 obtain ⟨B,hB⟩:∃ B,B=b % 9223372036854775808:=⟨_,rfl⟩
 rw [<-hq] at HP HS HNAN HI HZ HN
 rw [<-hf] at HP HNAN HI
 rw [<-hB] at HP HS HZ HN
 clear hfin hnan hP hS hT hI hZ hN hs0 hq hf hB
 rcases hsg with ⟨rfl,hsd⟩|⟨rfl,hsd⟩
 all_goals
  go_enter Tryz.func96,Tryz.ntmps96
  go_wp2_with fail
  refine HP.out.mono ?_
  rintro e0 w1 ⟨m,x,k,rfl,hcase,rfl⟩
  rcases hcase with ⟨h1,rfl,⟨h2,rfl⟩|⟨h2,rfl⟩⟩|⟨h1,rfl,h3,E,rfl,h5,h6,h7⟩
  ·have N:=Lib.hid (fun s hs=>HFIN.out infTxt s w hs (HI.out h1 h2) (by decide) (Below.refl _ _))
   clear h1 h2
   go_wp2_with fail
   try go_ret
   exact N.out _ rfl
  ·have N:=Lib.hid (HNAN.out h1 h2 w (Below.refl _ _))
   clear h1 h2
   go_wp2_with fail
   try go_ret
   exact N.out
  ·rcases Nat.eq_zero_or_pos m with rfl|hm
   ·have hz:B=0:=by omega
    have N:=Lib.hid (fun s hs=>HFIN.out [48,46,48] s w hs (HZ.out h1 hz) (by decide) (Below.refl _ _))
    clear h1 hz h3 h5 h6 h7
    go_wp2_with fail
    try go_ret
    exact N.out _ rfl
   ·have hz:B≠0:=by omega
    have tm:((m:Int)==0)=false:=by rw [beq_eq_false_iff_ne];omega
    have tm2:decide ((m:Int)=0)=false:=decide_eq_false (by omega)
    have H1:=Lib.hid h1
    have H2:=Lib.hid hz
    have HS2:=Lib.hid (HS.out w)
    clear h1 hz h3 h5 h6 h7
    go_wp2_with fail
    refine HS2.out.mono ?_
    rintro e0 w2 (⟨hbad,-,-⟩|⟨-,-,c,kk,hc,rfl,hb2⟩)
    ·exfalso
     rcases hbad with h|h
     ·exact H1.out h
     ·exact H2.out h
    ·have hc0:=shortIs_pos hc H2.out
     have hlen:=shortIs_len hc
     obtain ⟨M,z,e1,e2,e3,e4⟩:=short_parts c hc0
     have hdl:(decText c).length<=30:=dec_len c (by omega)
     have hM0:M≠0:=by intro h;rw [h,Nat.zero_mul] at e1;exact hc0 e1
     have hpos:=text_pos M
     have hkk:kk+((decText c).length:Int) - ((shortOf c).length:Int)=kk+(z:Int):=by rw [e3,e4];omega
     have hkr:-420<=kk/\kk<=400:=by
      obtain ⟨N,D,top,n0,-,-,-,g1,g2,⟨g3,-⟩,g4,rfl,-⟩:=hc
      omega
     rw [e3] at hlen
     have TI:=HN.out H1.out H2.out c M z kk hc e1 e2 hM0 hlen.2 (by omega) (by omega)
     obtain ⟨s,hs⟩:∃ s:ByteArray,s=⟨(shortOf c).toArray⟩:=⟨_,rfl⟩
     have hsl:s.data.toList=decText M:=by rw [hs,e3]
     have hsz:s.size=(decText M).length:=by rw [Lib.size_eq,hsl]
     rw [hkk,<-hs]
     have B2:=Lib.hid hb2
     have T2:=HT.out.keep hb2
     have hPT:=point_any s (kk+(z:Int)) w2 (by omega) (by omega) (by omega) (by omega) T2
     rw [hsl] at hPT
     have hpl:=point_len (decText M) (kk+(z:Int)) hlen.2 (by omega) (by omega)
     generalize pointOf (decText M) (kk+(z:Int))=PT at *
     have HPT:=Lib.hid hPT
     unfold StrPostFl at HPT
     have HTI:=Lib.hid TI
     generalize kk+(z:Int)=K at *
     clear hc hc0 e1 e2 e3 e4 hdl hM0 hpos hkk hkr TI hsl hsz hb2 T2 hPT hs hlen
     go_wp2_with fail
     refine HPT.out.mono ?_
     rintro e0 w3 ⟨rfl,hb3⟩
     have N:=Lib.hid (fun s hs=>HFIN.out PT s w3 hs HTI.out (by omega) (B2.out.trans (hb3.mono B2.out.size)))
     clear hb3
     go_wp2_with fail
     try go_ret
     exact N.out _ (by simp)
set_option maxRecDepth 100000
def STabs (w:World):Prop:=QTabs w/\FTab w
theorem STabs.keep {w w':World} (h:STabs w) (hb:Below w.heap.size w w'):STabs w':=⟨h.1.keep hb,h.2.keep hb⟩
def LeafPost (v:V) (w:World) (e:Ending) (w':World):Prop:=e=.returned (.string ⟨(leafT v).toArray⟩)/\Below w.heap.size w w'/\(v.k=3->∃ t,TextIs v.f.toNat t)
set_option maxHeartbeats 400000 in
theorem text_n (n:Int) (h0:-9223372036854775808<=n) (h1:n<=9223372036854775807) (w:World) (hT:FTab w):Calls Tryz.prog 95 #[.int .i64 n] w (StrPostFl (Lib.itoa n) w):=by
 have hf:Calls Tryz.prog 113 #[.int .i64 n,.int .i64 10] w (StrPostFl (Lib.itoa n) w):=by
  refine (Tryz.strconv_FormatInt_10 n h0 h1 w hT).mono ?_
  rintro e w2 ⟨rfl,k,os,rfl⟩
  exact ⟨rfl,below_growFl w k os⟩
 have HF:=Lib.hid hf
 clear hf hT
 go_enter Tryz.func95,Tryz.ntmps95
 go_wp2_with fail
 refine HF.out.mono ?_
 rintro e w2 ⟨rfl,hb⟩
 go_wp2
 go_ret
 exact ⟨rfl,hb⟩
theorem bytes_self (s:ByteArray):s=⟨s.data.toList.toArray⟩:=by
 apply ByteArray.ext;simp
theorem und_two:∃ S,Tryz.prog.underlying 132=some (.array 2 S)/\S=9:=⟨_,by kernel_rfl,rfl⟩
theorem index_two (x y:Value) (w:World):(Instr.index 132 (.agg #[x,y]) (.int .i64 0)).run Tryz.prog w=.ok x w/\(Instr.index 132 (.agg #[x,y]) (.int .i64 1)).run Tryz.prog w=.ok y w:=by
 obtain ⟨S,h,rfl⟩:=und_two
 constructor<;>simp [Instr.index,run_underlying h,asIntOf,go_sem]
set_option maxHeartbeats 4000000 in
theorem leafSh_any (d:Nat) (q:Loc) (w:World) (hT:STabs w) (hg:Gd (d+1) q.v) (hw:q.v.wf) (h5:q.v.k≠5) (h6:q.v.k≠6):Calls Tryz.prog 62 #[q.val] w (LeafPost q.v w):=by
 have hb0:Below w.heap.size w (w.alloc (.cells #[.int .i64 q.v.k,.int .i64 q.v.n,.int .u64 q.v.f,.string q.v.s,.slice q.ad q.v.l.length q.cap,.slice q.bd q.v.e.length q.dap] 26)):=(Below.refl w.heap.size w).alloc (Nat.le_refl _) _
 have hc:=CellsAt.box (q:=q) (heap_alloc_new w (.cells #[.int .i64 q.v.k,.int .i64 q.v.n,.int .u64 q.v.f,.string q.v.s,.slice q.ad q.v.l.length q.cap,.slice q.bd q.v.e.length q.dap] 26))
 unfold Loc.val
 have ok:=hg.ok
 have k0:=ok.k0
 have k6:=ok.k6
 have hos:=(ownV_zero hg.1).2.2.2.2
 have hoz:=(ownV_zero hg.1).2.1
 have hw0:=hw.n0
 have hw1:=hw.n1
 have hw2:=hw.f0
 have hw3:=hw.f1
 have HT:=Lib.hid (hT.keep hb0)
 clear hw hT hg
 obtain ⟨a0,a1,a2,a3,a4,a5⟩:=hc
 have HB0:=Lib.hid hb0
 clear hb0
 by_cases c0:q.v.k=0
 ·have HR:Hid (∀ w',Below w.heap.size w w'->LeafPost q.v w (.returned (.string ⟨#[110,117,108,108]⟩)) w'):=Lib.hid (fun w' hb=>⟨by unfold leafT;rw [if_pos c0];rfl,hb,fun h=>by omega⟩)
  clear ok hos k0 k6
  rw [c0] at a0 HB0 HT ⊢
  go_enter Tryz.func62,Tryz.ntmps62
  go_wp2_with fail
  try go_ret
  exact HR.out _ HB0.out
 by_cases c1:q.v.k=1
 ·rcases ok.n1 c1 with n|n
  ·have HR:Hid (∀ w',Below w.heap.size w w'->LeafPost q.v w (.returned (.string ⟨#[102,97,108,115,101]⟩)) w'):=Lib.hid (fun w' hb=>⟨by unfold leafT;rw [if_neg c0,if_pos c1,if_neg (by omega)];rfl,hb,fun h=>by omega⟩)
   have hbit:bits BinOp.and IntKind.i64 0 1=0:=by decide
   clear ok hos k0 k6
   rw [c1,n] at HB0 HT a0 a1 a2 a3 a4 a5 ⊢
   go_enter Tryz.func62,Tryz.ntmps62
   go_wp2_with fail
   rw [(index_two _ _ _).1]
   simp only [Result.andThen]
   rw [Oper.upon_value]
   go_wp2_with fail
   try go_ret
   exact HR.out _ HB0.out
  ·have HR:Hid (∀ w',Below w.heap.size w w'->LeafPost q.v w (.returned (.string ⟨#[116,114,117,101]⟩)) w'):=Lib.hid (fun w' hb=>⟨by unfold leafT;rw [if_neg c0,if_pos c1,if_pos n];rfl,hb,fun h=>by omega⟩)
   have hbit:bits BinOp.and IntKind.i64 1 1=1:=by decide
   clear ok hos k0 k6
   rw [c1,n] at HB0 HT a0 a1 a2 a3 a4 a5 ⊢
   go_enter Tryz.func62,Tryz.ntmps62
   go_wp2_with fail
   rw [(index_two _ _ _).2]
   simp only [Result.andThen]
   rw [Oper.upon_value]
   go_wp2_with fail
   try go_ret
   exact HR.out _ HB0.out
 by_cases c2:q.v.k=2
 ·have HR:Hid (∀ w',Below w.heap.size w w'->LeafPost q.v w (.returned (.string ⟨(Lib.itoa q.v.n).toArray⟩)) w'):=Lib.hid (fun w' hb=>⟨by unfold leafT;rw [if_neg c0,if_neg c1,if_pos c2],hb,fun h=>by omega⟩)
  have HN:=Lib.hid (text_n q.v.n hw0 hw1 _ HT.out.2)
  clear ok hos k0 k6
  rw [c2] at HB0 HT HN a0 a1 a2 a3 a4 a5 ⊢
  go_enter Tryz.func62,Tryz.ntmps62
  go_wp2_with fail
  (with_reducible refine HN.out.mono ?_)
  rintro e w2 ⟨rfl,hb⟩
  have HB2:=Lib.hid (HB0.out.trans (hb.mono HB0.out.size))
  clear hb HB0 HT HN a0 a1 a2 a3 a4 a5
  go_wp2_with fail
  try go_ret
  exact HR.out _ HB2.out
 by_cases c3:q.v.k=3
 ·obtain ⟨b,hb⟩:∃ b:Nat,q.v.f=b:=⟨q.v.f.toNat,by omega⟩
  have hbt:q.v.f.toNat=b:=by omega
  have HR:Hid (∀ w' (s:ByteArray),TextIs b s.data.toList->Below w.heap.size w w'->LeafPost q.v w (.returned (.string s)) w'):=Lib.hid (fun w' s ht hbw=>⟨by
   unfold leafT;rw [if_neg c0,if_neg c1,if_neg c2,if_pos c3,hbt,fTxt_is ht,<-bytes_self],hbw,fun h=>⟨_,by rw [hbt];exact ht⟩⟩)
  have HN:=Lib.hid (text_f b (w.alloc (.cells #[.int .i64 q.v.k,.int .i64 q.v.n,.int .u64 q.v.f,.string q.v.s,.slice q.ad q.v.l.length q.cap,.slice q.bd q.v.e.length q.dap] 26)) (by omega) HT.out.2)
  clear ok hos k0 k6 hbt hw2 hw3
  rw [c3,hb] at HB0 HT HN a0 a1 a2 a3 a4 a5 ⊢
  go_enter Tryz.func62,Tryz.ntmps62
  go_wp2_with fail
  (with_reducible refine HN.out.mono ?_)
  rintro e w2 ⟨s,rfl,ht,-,hb2⟩
  have HB2:=Lib.hid (HB0.out.trans (hb2.mono HB0.out.size))
  have HTI:=Lib.hid ht
  clear hb2 HB0 HT HN a0 a1 a2 a3 a4 a5 ht
  go_wp2_with fail
  try go_ret
  exact HR.out _ s HTI.out HB2.out
 ·have c4:q.v.k=4:=by omega
  obtain ⟨r1,r2⟩:=runesT_ok hos
  have HR:Hid (∀ w',Below w.heap.size w w'->LeafPost q.v w (.returned (.string ⟨(quoteOf (runesT q.v.s.data.toList)).toArray⟩)) w'):=Lib.hid (fun w' hb=>⟨by unfold leafT;rw [if_neg c0,if_neg c1,if_neg c2,if_neg c3];rfl,hb,fun h=>by omega⟩)
  have HN:=Lib.hid (quote_yes q.v.s (runesT q.v.s.data.toList) _ HT.out.1 (by omega) r1 r2)
  clear ok hos k0 k6 r1 r2
  rw [c4] at HB0 HT HN a0 a1 a2 a3 a4 a5 ⊢
  go_enter Tryz.func62,Tryz.ntmps62
  go_wp2_with fail
  (with_reducible refine HN.out.mono ?_)
  rintro e w2 ⟨rfl,hb⟩
  have HB2:=Lib.hid (HB0.out.trans (hb.mono HB0.out.size))
  clear hb HB0 HT HN a0 a1 a2 a3 a4 a5
  go_wp2_with fail
  try go_ret
  exact HR.out _ HB2.out
theorem key_any (s:ByteArray) (w:World) (hT:STabs w) (hk:KeyOk s):Calls Tryz.prog 60 #[.string s] w (StrErr (keyT s) 0 w):=by
 unfold keyT
 by_cases hb:bareOf s.data.toList=true
 ·rw [if_pos hb]
  refine (key_bare s w (by have:=hk.1;omega) hb).mono ?_
  rintro e w' ⟨rfl,h⟩
  exact ⟨by rw [<-bytes_self],h⟩
 ·rw [if_neg hb]
  obtain ⟨r1,r2⟩:=runesT_ok hk.2
  exact key_quote s _ 0 w (by have:=hk.1;omega) hT.1 (by simpa using hb) (fun w0 h0=>quote_yes s _ w0 h0 (by have:=hk.1;omega) r1 r2)
set_option maxRecDepth 100000
structure Bx (b n0 deep:Nat) (q:Loc) (W:World):Prop where
 lt:b<n0
 p:W.heap[n0]?=some (.cells #[.pointer (some ⟨b,0,none⟩)] 70)
 v:W.heap[n0+1]?=some (.cells q.cs.toArray 26)
 d:W.heap[n0+2]?=some (.cells #[.int .i64 deep] 3)
theorem Bx.keep {b n0 deep:Nat} {q:Loc} {W W':World} (h:Bx b n0 deep q W) (k:KeepP b W W'):Bx b n0 deep q W':=by
 have hb:=h.lt
 refine ⟨hb,k.oth _ _ h.p (fun e=>by have:=Option.some.inj e;omega) (fun c fz e=>?_),k.oth _ _ h.v (fun e=>by have:=Option.some.inj e;omega) (fun c fz e=>?_),k.oth _ _ h.d (fun e=>by have:=Option.some.inj e;omega) (fun c fz e=>?_)⟩<;>(injection e with e1 e2;exact absurd e2 (by decide))
theorem Bx.cp {b n0 deep:Nat} {q:Loc} {W:World} (h:Bx b n0 deep q W):W.cell? ⟨n0,0,none⟩=some (.pointer (some ⟨b,0,none⟩)):=by rw [Lib.cell_of_heap h.p];rfl
theorem Bx.cd {b n0 deep:Nat} {q:Loc} {W:World} (h:Bx b n0 deep q W):W.cell? ⟨n0+2,0,none⟩=some (.int .i64 deep):=by rw [Lib.cell_of_heap h.d];rfl
theorem Bx.cv {b n0 deep:Nat} {q:Loc} {W:World} (h:Bx b n0 deep q W):CellsAt W (n0+1) 0 q:=CellsAt.box h.v
theorem vat_keep {W W':World} {b:Nat} {q:Loc} (h:VAt W (fun k=>k<b) q) (k:KeepP b W W'):VAt W' (fun k=>k<b) q :=
 h.through k.size (fun i hi _=>k.below.block i hi) (fun _ h _=>h)
theorem KeepP.drew {b:Nat} {W:World} (h:b<=W.heap.size):KeepP b W W.drew:=KeepP.of_below (Gx.drewN_below W 1 _) h
def ValOkS (many:Bool) (b d:Nat) (deep:Nat):Prop:=∀ (q:Loc) (W:World) (l:List UInt8),Prn b many l W->VAt W (fun k=>k<b) q->Gd d q.v->l.length+(shwD leafT keyT many d deep q.v).length+100 * d<=1000000000000 ->
 ∀ wt:World,wt.heap.size=b->STabs wt->Below b wt W->Calls Tryz.prog 32 #[.pointer (some ⟨b,0,none⟩),q.val,.int .i64 deep] W (PrnQ b many (l++shwD leafT keyT many d deep q.v) (Tx d q.v) W)
set_option maxHeartbeats 4000000 in
theorem one1_any (many:Bool) (b d deep n0:Nat) (q:Loc) (HV:ValOkS many b d (deep+1)) (wt:World) (hwt:wt.heap.size=b) (hT:STabs wt) (hd:deep<=20) (hg:Gd (d+1) q.v) (i:Nat) (x:V) (hx:q.v.l[i]?=some x) (W:World) (l:List UInt8) (hp:Prn b many l W) (hbx:Bx b n0 deep q W) (hq:VAt W (fun k=>k<b) q) (hbw:Below b wt W)
 (hl:l.length+(shwD leafT keyT many d (deep+1) x).length+100 * d<=1000000000000) :
 Calls Tryz.prog 58 #[.int .i64 i,.pointer (some ⟨n0,0,none⟩),.pointer (some ⟨n0+1,0,none⟩),.pointer (some ⟨n0+2,0,none⟩)] W (PrnQ b many (l++shwD leafT keyT many d (deep+1) x) (Tx d x) W):=by
 have hil:i<q.v.l.length:=(List.getElem?_eq_some_iff.1 hx).1
 obtain ⟨blk,off,had,hB,hlt,hel⟩:=hq.l.elem (by omega)
 obtain ⟨xq,hxv,hxa,hxc⟩:=hel i x hx
 subst hxv
 have hk0:KeepP b W W.drew:=KeepP.drew (Nat.le_of_lt hp.lt)
 have hw:IntKind.i64.wrap ((deep:Int)+1)=((deep+1:Nat):Int):=by rw [IntKind.wrap_i64];omega
 have hc:Calls Tryz.prog 32 #[.pointer (some ⟨b,0,none⟩),xq.val,.int .i64 (IntKind.i64.wrap ((deep:Int)+1))] W.drew (PrnQ b many (l++shwD leafT keyT many d (deep+1) xq.v) (Tx d xq.v) W.drew):=by
  rw [hw]
  exact HV xq W.drew l (hp.keep (Gx.drewN_below W 1 _)) (vat_keep hxa hk0) (hg.l _ (List.mem_of_getElem? hx)) hl wt hwt hT (hbw.trans hk0.below)
 unfold Loc.val at hc
 have HC:=Lib.hid hc
 have HK0:=Lib.hid hk0
 obtain ⟨e0,e1,e2,e3,e4,e5⟩:=hxc
 obtain ⟨v0,v1,v2,v3,v4,v5⟩:=hbx.cv
 have cp:=hbx.cp
 have cd:=hbx.cd
 rw [had] at v4
 have hi0:(0:Int)<=(i:Int):=by omega
 have hi1:(i:Int)<(q.v.l.length:Int):=by omega
 have hi2:(i:Int).toNat=i:=by omega
 clear hc hk0 hw HV hwt hT hg hx hp hbx hq hbw hl hel hxa hlt hB had v0 v1 v2 v3 v5 hd
 go_enter Tryz.func58,Tryz.ntmps58
 go_wp2_with fail
 go_region_law (first|(go_simp;(with_reducible refine HC.out.mono ?_);rintro e w2 ⟨⟨⟨v,rfl⟩,h2,hk2⟩,ht⟩;have HR:Hid (PrnQ b many (l++shwD leafT keyT many d (deep+1) xq.v) (Tx d xq.v) W (.returned (.tuple #[])) w2):=Lib.hid ⟨⟨⟨_,rfl⟩,h2,HK0.out.trans hk2⟩,ht⟩;clear h2 hk2 ht))
 all_goals
  go_wp2_with fail
  try go_end0
  exact HR.out
theorem cat_size (l m:List UInt8):((⟨l.toArray⟩:ByteArray)++⟨m.toArray⟩).size=l.length+m.length:=by
 rw [ByteArray.size_append];rfl
theorem cat_list (l m:List UInt8):((⟨l.toArray⟩:ByteArray)++⟨m.toArray⟩).data.toList=l++m:=by
 rw [ByteArray.data_append];simp
set_option maxHeartbeats 4000000 in
theorem one2_any (many:Bool) (b d deep n0:Nat) (q:Loc) (HV:ValOkS many b d (deep+1)) (wt:World) (hwt:wt.heap.size=b) (hT:STabs wt) (hd:deep<=20) (hg:Gd (d+1) q.v) (i:Nat) (x:ByteArray×V) (hx:q.v.e[i]?=some x) (W:World) (l:List UInt8) (hp:Prn b many l W) (hbx:Bx b n0 deep q W) (hq:VAt W (fun k=>k<b) q) (hbw:Below b wt W)
 (hl:l.length+(keyT x.1++([58,32]++shwD leafT keyT many d (deep+1) x.2)).length+100 * d<=1000000000000) :
 Calls Tryz.prog 59 #[.int .i64 i,.pointer (some ⟨n0+1,0,none⟩),.pointer (some ⟨n0,0,none⟩),.pointer (some ⟨n0+2,0,none⟩)] W (PrnQ b many (l++(keyT x.1++([58,32]++shwD leafT keyT many d (deep+1) x.2))) (Tx d x.2) W):=by
 have hil:i<q.v.e.length:=(List.getElem?_eq_some_iff.1 hx).1
 have hq0:=hq
 obtain ⟨blk,off,had,hB,hlt,hel⟩:=hq0.e.entry (by omega)
 obtain ⟨-,hkc,xq,hxv,hxa,hxc⟩:=hel i x hx
 obtain ⟨key,xv⟩:=x
 simp only at hxv hkc hl ⊢
 subst hxv
 have hko:KeyOk key:=keyE_short _ _ hg.2.1 _ (List.mem_of_getElem? hx)
 obtain ⟨v0,v1,v2,v3,v4,v5⟩:=hbx.cv
 rw [had] at v5
 have hi0:(0:Int)<=(i:Int):=by omega
 have hi1:(i:Int)<(q.v.e.length:Int):=by omega
 have hi2:(i:Int).toNat=i:=by omega
 have hsz:=hbw.size
 rw [hwt] at hsz
 have hTW:∀ W2:World,Below b wt W2->STabs W2:=fun W2 hb=>hT.keep (by rw [hwt];exact hb)
 obtain ⟨KT,hKT⟩:∃ KT,KT=keyT key:=⟨_,rfl⟩
 have HK:=Lib.hid (key_any key W (hTW W hbw) hko)
 rw [<-hKT] at HK hl ⊢
 have HBX:=Lib.hid hbx
 have HXA:=Lib.hid hxa
 have HP:=Lib.hid hp
 have HVV:=Lib.hid HV
 have HTW:=Lib.hid hTW
 have HBW:=Lib.hid hbw
 have HGD:=Lib.hid (hg.e _ (List.mem_of_getElem? hx))
 have hle:l.length+KT.length+2+(shwD leafT keyT many d (deep+1) xq.v).length+100 * d<=1000000000000:=by
  simp only [List.length_append,List.length_cons,List.length_nil] at hl;omega
 have HL:=Lib.hid hle
 have hcat:¬ 9223372036854775807<KT.length+2:=by omega
 have HXC:=Lib.hid hxc
 have HV5:=Lib.hid v5
 have hbs:blk<b:=hB
 clear hbx hxa hp HV hTW hbw hg hl hle hx hxc hq hq0 hel hko hKT v0 v1 v2 v3 v4 hlt hB had
 go_enter Tryz.func59,Tryz.ntmps59
 go_wp2_with fail
 unfold StrErr at HK
 (with_reducible refine HK.out.mono ?_)
 rintro e w2 ⟨rfl,hb2⟩
 have hk2:KeepP b W w2:=KeepP.of_below hb2 hsz
 have HK2:=Lib.hid hk2
 have HP2:=Lib.hid (HP.out.keep hb2)
 have HBX2:=Lib.hid (HBX.out.keep hk2)
 have cp:=HBX2.out.cp
 have HWS:=Lib.hid (writeStrP b many l ((⟨KT.toArray⟩:ByteArray)++⟨#[58,32]⟩) w2 HP2.out (by have:=cat_size KT [58,32];have:=HL.out;simp only [List.length_cons,List.length_nil] at *;omega))
 clear hb2 hk2 HK hkc v5
 go_wp2_with fail
 (with_reducible refine HWS.out.mono ?_)
 rintro e w3 ⟨rfl,h3,hb3,ho3,hz3⟩
 have hk3:KeepP b W w3:=HK2.out.trans ⟨hb3,ho3,hz3⟩
 have h3':Prn b many (l++(KT++[58,32])) w3:=by
  have:=cat_list KT [58,32]
  rw [show ((⟨KT.toArray⟩:ByteArray)++⟨#[58,32]⟩).data.toList=KT++[58,32] from this] at h3
  exact h3
 have hk0:KeepP b w3 w3.drew:=KeepP.drew (Nat.le_of_lt h3.lt)
 have hk4:=hk3.trans hk0
 have hw:IntKind.i64.wrap ((deep:Int)+1)=((deep+1:Nat):Int):=by rw [IntKind.wrap_i64];omega
 have hc:Calls Tryz.prog 32 #[.pointer (some ⟨b,0,none⟩),xq.val,.int .i64 (IntKind.i64.wrap ((deep:Int)+1))] w3.drew (PrnQ b many ((l++(KT++[58,32]))++shwD leafT keyT many d (deep+1) xq.v) (Tx d xq.v) w3.drew):=by
  rw [hw]
  exact HVV.out xq w3.drew _ (h3'.keep (Gx.drewN_below w3 1 _)) (vat_keep HXA.out hk4) HGD.out (by have:=HL.out;simp only [List.length_append,List.length_cons,List.length_nil];omega) wt hwt (HTW.out wt (Below.refl _ _)) (HBW.out.trans hk4.below)
 unfold Loc.val at hc
 have HC:=Lib.hid hc
 have HK4:=Lib.hid hk4
 have hcell:∀ o,w3.cell? ⟨blk,o,none⟩=W.cell? ⟨blk,o,none⟩:=fun o=>World.cell?_of_block (hk3.below.block blk hbs)
 obtain ⟨e0,e1,e2,e3,e4,e5⟩:=HXC.out
 rw [<-hcell] at e0 e1 e2 e3 e4 e5
 have hbx3:=HBX.out.keep hk3
 have v5:=hbx3.cv.c5
 have cp:=hbx3.cp
 have cd:=hbx3.cd
 have had:q.bd=some ⟨blk,off,none⟩:=by
  have h1:=HBX.out.cv.c5
  rw [HV5.out] at h1
  injection h1 with h1
  injection h1 with h1
  exact h1.symm
 rw [had] at v5
 clear h3 hb3 ho3 hz3 hk3 h3' hk0 hk4 hw hc hcell hbx3 had HWS HK2 HP2 HBX2 HBX HXA HP HVV HTW HBW HGD HXC HV5 hcat hd
 go_wp2_with fail
 go_region_law (first|(go_simp;(with_reducible refine HC.out.mono ?_);rintro e w5 ⟨⟨⟨v,rfl⟩,h5,hk5⟩,ht⟩;have HR:Hid (PrnQ b many (l++(KT++([58,32]++shwD leafT keyT many d (deep+1) xq.v))) (Tx d xq.v) W (.returned (.tuple #[])) w5):=Lib.hid ⟨⟨⟨_,rfl⟩,by simpa using h5,HK4.out.trans hk5⟩,ht⟩;clear h5 hk5 ht))
 all_goals
  go_wp2_with fail
  try go_end0
  exact HR.out
set_option maxRecDepth 100000
set_option maxHeartbeats 8000000 in
theorem all1_any (b:Nat) (many:Bool) (l:List UInt8) (deep:Nat) (xs:List (List UInt8)) (c1 c2 c3:Value) (Q:Nat->Prop) (w:World) (h:Prn b many l w) (hdp:deep<=20) (hn:xs.length<=1000) (M:Nat) (hM:M<=1000000000000) (hop:l.length+1+(partsT many deep xs).length+100<=M)
 (hone:∀ (i:Nat) (x:List UInt8),xs[i]?=some x->∀ (W:World) (l':List UInt8),Prn b many l' W->KeepP b w W->l'.length+x.length+100<=M->Calls Tryz.prog 58 #[.int .i64 i,c1,c2,c3] W (PrnQ b many (l'++x) (Q i) W)) :
 Calls Tryz.prog 57 #[.pointer (some ⟨b,0,none⟩),.string ⟨#[91,93]⟩,.int .i64 xs.length,.int .i64 deep,.func (.func 58) #[] #[c1,c2,c3]] w
  (PrnQ b many (l++91::(partsT many deep xs++(tailT many deep xs.length++[93]))) (∀ i,i<xs.length->Q i) w):=by
 have HP:=Lib.hid h
 have HONE:=Lib.hid hone
 have HOP:=Lib.hid hop
 obtain ⟨n,hnn⟩:∃ n,xs.length=n:=⟨_,rfl⟩
 rw [hnn] at hn ⊢
 have HN:=Lib.hid hnn
 clear h hone hop hnn
 go_enter Tryz.func57,Tryz.ntmps57
 have HWB:Hid (Calls Tryz.prog 33 #[.pointer (some ⟨b,0,none⟩),.int .u8 (((⟨#[91,93]⟩:ByteArray)[0]'(by decide)).toNat:Nat)] w.drew (PrnPost .nilIface b many (l++[91]) w.drew)):=Lib.hid (writeByteP b many l 91 w.drew (HP.out.keep (Gx.drewN_below w 1 _)) (by have:=HOP.out;omega))
 go_wp2_with fail
 go_region_law (first|(go_simp;(with_reducible refine HWB.out.mono ?_);rintro e w2 ⟨rfl,h2,hb2,ho2,hz2⟩;have H2:=Lib.hid h2;have HK2:=Lib.hid (KeepP.mk hb2 ho2 hz2);clear h2 hb2 ho2 hz2))
 have HK:Hid (KeepP b w w2):=Lib.hid ((KeepP.of_below (Gx.drewN_below w 1 _) (Nat.le_of_lt HP.out.lt)).trans HK2.out)
 have H2':Hid (Prn b many (l++91::partsT many deep (xs.take 0)) w2):=Lib.hid (by have:=H2.out;simpa [partsT,elemsT] using this)
 clear HWB H2 HK2
 go_wp2_with fail
 go_loopw [18] (fun i wr=>∃ j:Nat,j<=n/\i=.int .i64 j/\Hid (Prn b many (l++91::partsT many deep (xs.take j)) wr)/\Hid (KeepP b w wr)/\Hid (∀ i,i<j->Q i)) (fun i _=>n - (intOf i).toNat)
 case atStart=>exact ⟨0,Nat.zero_le _,rfl,H2',HK,Lib.hid (fun i hi=>absurd hi (Nat.not_lt_zero i))⟩
 case round =>
  obtain ⟨j,hj,rfl,hP,hK,hQ⟩:=hrel
  by_cases hlt:j<n
  ·obtain ⟨x,hx⟩:∃ x,xs[j]?=some x:=⟨_,List.getElem?_eq_getElem (by have:=HN.out;omega)⟩
   have hlen:(l++91::partsT many deep (xs.take (j+1))).length+100<=M:=by
    have h1:=HOP.out
    have h2:=partsT_le (many:=many) (deep:=deep) (xs:=xs) (j+1)
    simp only [List.length_append,List.length_cons]
    omega
   have hnx:=partsT_take (many:=many) (deep:=deep) hx
   have e1:l++91::partsT many deep (xs.take (j+1))=((l++91::partsT many deep (xs.take j))++preT many deep j)++x++postT many:=by rw [hnx];simp
   rw [e1] at hlen
   have HX:=Lib.hid hx
   have HE:=Lib.hid e1
   obtain ⟨l',hl'⟩:∃ l',l'=l++91::partsT many deep (xs.take j):=⟨_,rfl⟩
   rw [<-hl'] at hlen
   have HL':=Lib.hid hl'
   have HLEN:=Lib.hid hlen
   rw [<-hl'] at hP
   clear hx hnx e1 hlen hl' H2'
   have hm:=hP.out.many_
   cases many with
   | true =>
     have hlb:((l'++preT true deep j)++x++postT true).length=l'.length+(preT true deep j).length+x.length+1:=by simp [postT];omega
     have HLB:=Lib.hid hlb
     have HRP:=Lib.hid (rep2_any (deep+1) (by omega) (IntKind.i64.wrap ((deep:Int)+1)) (by rw [IntKind.wrap_i64];omega))
     clear hlb
     have hcat:¬ 9223372036854775807<1+(indentT (deep+1)).length:=by simp [indentT];omega
     have HPW:Hid (Prn b true l' wr.drew):=Lib.hid (hP.out.keep (Gx.drewN_below wr 1 _))
     have HKW:Hid (KeepP b w wr.drew):=Lib.hid (hK.out.trans (KeepP.of_below (Gx.drewN_below wr 1 _) (Nat.le_of_lt hP.out.lt)))
     have HLS:Hid (l'.length+((⟨#[10]⟩:ByteArray)++⟨(indentT (deep+1)).toArray⟩).size<=140737488355328):=Lib.hid (by
      have:=HLEN.out;rw [HLB.out] at this;rw [nl_size];simp [indentT];omega)
     have HLX:Hid ((l'++preT true deep j).length+x.length+100<=M):=Lib.hid (by
      have:=HLEN.out;rw [HLB.out] at this;rw [List.length_append];omega)
     have HLY:Hid (((l'++preT true deep j)++x).length+1<=140737488355328):=Lib.hid (by
      have:=HLEN.out;rw [HLB.out] at this;rw [List.length_append,List.length_append];omega)
     clear hP hK HLB
     go_wp2_with fail
     clear hm
     go_region_law (first|(go_simp;(with_reducible refine (HRP.out _).mono ?_);rintro e w3 ⟨rfl,hb3⟩;have HB3:=Lib.hid hb3;clear hb3)|(go_simp;(with_reducible refine (writeStrP b true l' _ w3 (HPW.out.keep HB3.out) HLS.out).mono ?_);rintro e w4 ⟨rfl,h4,hb4,ho4,hz4⟩;have H4:=Lib.hid h4;have HK4:=Lib.hid (KeepP.mk hb4 ho4 hz4);clear h4 hb4 ho4 hz4))
     have H5:Hid (Prn b true (l'++preT true deep j) w4):=Lib.hid (by have:=H4.out;rw [nl_list] at this;exact this)
     have HK5:Hid (KeepP b w w4):=Lib.hid ((HKW.out.trans (KeepP.of_below HB3.out (Nat.le_of_lt HPW.out.lt))).trans HK4.out)
     clear H4 HK4 HB3 HKW HPW HLS HRP hcat
     go_wp2_with fail
     refine (HONE.out j x HX.out w4 _ H5.out HK5.out HLX.out).mono ?_
     rintro e w6 ⟨⟨⟨v6,rfl⟩,h6,hk6⟩,hq6⟩
     have HQ6:Hid (∀ i,i<j+1->Q i):=Lib.hid (fun i hi=>by rcases Nat.lt_succ_iff_lt_or_eq.1 hi with h|h;exact hQ.out i h;rw [h];exact hq6)
     have hm6:=h6.many_
     have HWB:Hid (Calls Tryz.prog 33 #[.pointer (some ⟨b,0,none⟩),.int .u8 44] w6 (PrnPost .nilIface b true (((l'++preT true deep j)++x)++[44]) w6)):=Lib.hid (writeByteP b true _ 44 w6 h6 HLY.out)
     have HK6:=Lib.hid (HK5.out.trans hk6)
     clear h6 hk6 H5 HK5 HLX HLY
     go_wp2_with fail
     (with_reducible refine HWB.out.mono ?_)
     rintro e w7 ⟨rfl,h7,hb7,ho7,hz7⟩
     have H7:Hid (Prn b true (l++91::partsT true deep (xs.take (j+1))) w7):=Lib.hid (by rw [HE.out,<-HL'.out];exact h7)
     have HK7:=Lib.hid (HK6.out.trans (KeepP.mk hb7 ho7 hz7))
     clear h7 hb7 ho7 hz7 HWB HK6 HE HL' HLEN
     go_wp2_with fail
     go_roundw
     case rel=>exact ⟨j+1,by omega,by go_num,H7,HK7,HQ6⟩
     case measure=>simp [intOf];omega
   | false =>
     have hlb:((l'++preT false deep j)++x++postT false).length=l'.length+(preT false deep j).length+x.length:=by simp [postT];omega
     have HLB:=Lib.hid hlb
     clear hlb
     have HLX:Hid ((l'++preT false deep j).length+x.length+100<=M):=Lib.hid (by
      have:=HLEN.out;rw [HLB.out] at this;rw [List.length_append];omega)
     have HEND:Hid (∀ l2:List UInt8,l2=(l'++preT false deep j)++x->l2=l++91::partsT false deep (xs.take (j+1))):=Lib.hid (fun l2 h2=>by rw [HE.out,<-HL'.out,h2];simp [postT])
     by_cases hj0:0<j
     ·have hji:(0:Int)<(j:Int):=by omega
      have HPR:Hid (preT false deep j=[44,32]):=Lib.hid (by simp only [preT,Bool.false_eq_true,if_false];rw [if_neg (by omega)])
      have HWS:=Lib.hid (writeStrP b false l' ⟨#[44,32]⟩ wr hP.out (by have:=HLEN.out;rw [HLB.out,HPR.out] at this;show l'.length+2<=_;simp only [List.length_cons,List.length_nil] at this;omega))
      clear HLB
      go_wp2_with fail
      (with_reducible refine HWS.out.mono ?_)
      rintro e w4 ⟨rfl,h4,hb4,ho4,hz4⟩
      have H5:Hid (Prn b false (l'++preT false deep j) w4):=Lib.hid (by rw [HPR.out];exact h4)
      have HK5:=Lib.hid (hK.out.trans (KeepP.mk hb4 ho4 hz4))
      clear h4 hb4 ho4 hz4 HWS HPR hm hji hP hK
      go_wp2_with fail
      refine (HONE.out j x HX.out w4 _ H5.out HK5.out HLX.out).mono ?_
      rintro e w6 ⟨⟨⟨v6,rfl⟩,h6,hk6⟩,hq6⟩
      have HQ6:Hid (∀ i,i<j+1->Q i):=Lib.hid (fun i hi=>by rcases Nat.lt_succ_iff_lt_or_eq.1 hi with h|h;exact hQ.out i h;rw [h];exact hq6)
      have hm6:=h6.many_
      have H7:Hid (Prn b false (l++91::partsT false deep (xs.take (j+1))) w6):=Lib.hid (by rw [<-HEND.out _ rfl];exact h6)
      have HK7:=Lib.hid (HK5.out.trans hk6)
      clear h6 hk6 H5 HK5 HLX HEND HE HL' HLEN
      go_wp2_with fail
      go_roundw
      case rel=>exact ⟨j+1,by omega,by go_num,H7,HK7,HQ6⟩
      case measure=>simp [intOf];omega
     ·obtain rfl:j=0:=by omega
      have H5:Hid (Prn b false (l'++preT false deep 0) wr):=Lib.hid (by simp only [preT,Bool.false_eq_true,if_false,if_true,List.append_nil];exact hP.out)
      clear HLB
      go_wp2_with fail
      refine (HONE.out 0 x HX.out wr _ H5.out hK.out HLX.out).mono ?_
      rintro e w6 ⟨⟨⟨v6,rfl⟩,h6,hk6⟩,hq6⟩
      have HQ6:Hid (∀ i,i<0+1->Q i):=Lib.hid (fun i hi=>by rcases Nat.lt_succ_iff_lt_or_eq.1 hi with h|h;exact hQ.out i h;rw [h];exact hq6)
      have hm6:=h6.many_
      have H7:Hid (Prn b false (l++91::partsT false deep (xs.take (0+1))) w6):=Lib.hid (by rw [<-HEND.out _ rfl];exact h6)
      have HK7:=Lib.hid (hK.out.trans hk6)
      clear h6 hk6 H5 hP hK HLX HEND HE HL' HLEN hm
      go_wp2_with fail
      go_roundw
      case rel=>exact ⟨0+1,by omega,by go_num,H7,HK7,HQ6⟩
      case measure=>simp [intOf];omega
  ·obtain rfl:j=n:=by omega
   have hT:xs.take j=xs:=by rw [<-HN.out,List.take_length]
   rw [hT] at hP
   have hm:=hP.out.many_
   have HW':=hP
   clear hT H2'
   cases many with
   | true =>
     by_cases hj0:0<j
     ·have hji:(0:Int)<(j:Int):=by omega
      have HTL:Hid (tailT true deep j=10::indentT deep):=Lib.hid (by simp [tailT,hj0])
      have HWC:Hid (∀ W:World,Prn b true (l++91::(partsT true deep xs++tailT true deep j)) W->Calls Tryz.prog 33 #[.pointer (some ⟨b,0,none⟩),.int .u8 (((⟨#[91,93]⟩:ByteArray)[1]'(by decide)).toNat:Nat)] W (PrnPost .nilIface b true ((l++91::(partsT true deep xs++tailT true deep j))++[93]) W)):=Lib.hid (fun W hW=>writeByteP b true _ 93 W hW (by
       have h1:=HOP.out;have h2:=tailT_le true deep j
       simp only [List.length_append,List.length_cons];omega))
      have hcat:¬ 9223372036854775807<1+(indentT deep).length:=by simp [indentT];omega
      have HRP:=Lib.hid (rep2_any deep (by omega) (deep:Int) rfl)
      have HPW:Hid (Prn b true (l++91::partsT true deep xs) wr.drew):=Lib.hid (hP.out.keep (Gx.drewN_below wr 1 _))
      have HKW:Hid (KeepP b w wr.drew):=Lib.hid (hK.out.trans (KeepP.of_below (Gx.drewN_below wr 1 _) (Nat.le_of_lt hP.out.lt)))
      have HLS:Hid ((l++91::partsT true deep xs).length+((⟨#[10]⟩:ByteArray)++⟨(indentT deep).toArray⟩).size<=140737488355328):=Lib.hid (by
       have h1:=HOP.out;rw [nl_size];simp only [List.length_append,List.length_cons,indentT,List.length_replicate];omega)
      clear hP hK HW'
      go_wp2_with fail
      clear hm
      go_region_law (first|(go_simp;(with_reducible refine (HRP.out _).mono ?_);rintro e w3 ⟨rfl,hb3⟩;have HB3:=Lib.hid hb3;clear hb3)|(go_simp;(with_reducible refine (writeStrP b true _ _ w3 (HPW.out.keep HB3.out) HLS.out).mono ?_);rintro e w4 ⟨rfl,h4,hb4,ho4,hz4⟩;have H4:=Lib.hid h4;have HK4:=Lib.hid (KeepP.mk hb4 ho4 hz4);clear h4 hb4 ho4 hz4))
      have HQ:Hid (Prn b true (l++91::(partsT true deep xs++tailT true deep j)) w4.drew):=Lib.hid (by
       have:=H4.out;rw [nl_list] at this;rw [HTL.out];exact (by simpa using this:Prn b true _ w4).keep (Gx.drewN_below w4 1 _))
      have HKQ:Hid (KeepP b w w4.drew):=Lib.hid (((HKW.out.trans (KeepP.of_below HB3.out (Nat.le_of_lt HPW.out.lt))).trans HK4.out).trans (KeepP.of_below (Gx.drewN_below w4 1 _) (Nat.le_of_lt H4.out.lt)))
      clear H4 HK4 HB3 HKW HPW HLS HRP hcat
      go_wp2_with fail
      go_region_law (first|(go_simp;(with_reducible refine (HWC.out _ HQ.out).mono ?_);rintro e w9 ⟨rfl,h9,hb9,ho9,hz9⟩;have H9:=Lib.hid h9;have HK9:=Lib.hid (KeepP.mk hb9 ho9 hz9);clear h9 hb9 ho9 hz9))
      go_wp2_with fail
      try go_end0
      exact ⟨⟨⟨_,rfl⟩,by have:=H9.out;simpa using this,HKQ.out.trans HK9.out⟩,hQ.out⟩
     ·obtain rfl:j=0:=by omega
      have HWC:Hid (∀ W:World,Prn b true (l++91::(partsT true deep xs++tailT true deep 0)) W->Calls Tryz.prog 33 #[.pointer (some ⟨b,0,none⟩),.int .u8 (((⟨#[91,93]⟩:ByteArray)[1]'(by decide)).toNat:Nat)] W (PrnPost .nilIface b true ((l++91::(partsT true deep xs++tailT true deep 0))++[93]) W)):=Lib.hid (fun W hW=>writeByteP b true _ 93 W hW (by
       have h1:=HOP.out;have h2:=tailT_le true deep 0
       simp only [List.length_append,List.length_cons];omega))
      have HQ:Hid (Prn b true (l++91::(partsT true deep xs++tailT true deep 0)) wr.drew):=Lib.hid (by
       have:Prn b true _ wr.drew:=hP.out.keep (Gx.drewN_below wr 1 _);simpa [tailT] using this)
      have HKQ:Hid (KeepP b w wr.drew):=Lib.hid (hK.out.trans (KeepP.of_below (Gx.drewN_below wr 1 _) (Nat.le_of_lt hP.out.lt)))
      clear hP hK HW'
      go_wp2_with fail
      go_region_law (first|(go_simp;(with_reducible refine (HWC.out _ HQ.out).mono ?_);rintro e w9 ⟨rfl,h9,hb9,ho9,hz9⟩;have H9:=Lib.hid h9;have HK9:=Lib.hid (KeepP.mk hb9 ho9 hz9);clear h9 hb9 ho9 hz9))
      go_wp2_with fail
      try go_end0
      exact ⟨⟨⟨_,rfl⟩,by have:=H9.out;simpa using this,HKQ.out.trans HK9.out⟩,hQ.out⟩
   | false =>
     have HWC:Hid (∀ W:World,Prn b false (l++91::(partsT false deep xs++tailT false deep j)) W->Calls Tryz.prog 33 #[.pointer (some ⟨b,0,none⟩),.int .u8 (((⟨#[91,93]⟩:ByteArray)[1]'(by decide)).toNat:Nat)] W (PrnPost .nilIface b false ((l++91::(partsT false deep xs++tailT false deep j))++[93]) W)):=Lib.hid (fun W hW=>writeByteP b false _ 93 W hW (by
      have h1:=HOP.out;have h2:=tailT_le false deep j
      simp only [List.length_append,List.length_cons];omega))
     have HQ:Hid (Prn b false (l++91::(partsT false deep xs++tailT false deep j)) wr.drew):=Lib.hid (by
      have:Prn b false _ wr.drew:=hP.out.keep (Gx.drewN_below wr 1 _);simpa [tailT] using this)
     have HKQ:Hid (KeepP b w wr.drew):=Lib.hid (hK.out.trans (KeepP.of_below (Gx.drewN_below wr 1 _) (Nat.le_of_lt hP.out.lt)))
     clear hP hK HW'
     go_wp2_with fail
     go_region_law (first|(go_simp;(with_reducible refine (HWC.out _ HQ.out).mono ?_);rintro e w9 ⟨rfl,h9,hb9,ho9,hz9⟩;have H9:=Lib.hid h9;have HK9:=Lib.hid (KeepP.mk hb9 ho9 hz9);clear h9 hb9 ho9 hz9))
     go_wp2_with fail
     try go_end0
     exact ⟨⟨⟨_,rfl⟩,by have:=H9.out;simpa using this,HKQ.out.trans HK9.out⟩,hQ.out⟩
end Go.Proofs.YtldhmfkojaekfaaGreatDoor
