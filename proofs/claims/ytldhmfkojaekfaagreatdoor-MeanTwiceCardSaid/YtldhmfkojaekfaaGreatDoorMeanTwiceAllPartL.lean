/-
  Lemmas for the statement: plain laws, and what functions answer; the conditions stand in each.
-/
import Derived.Laws.Externs
import Derived.Test.YtldhmfkojaekfaaGreatDoorProg
import Derived.Lib.IndexBytes
import Derived.WalkLawsBesides
import Derived.Deep.DeepFit
import Derived.Test.YtldhmfkojaekfaaGreatDoorMeanTwiceAllPartK
set_option linter.unusedVariables false
set_option linter.unusedSimpArgs false
namespace Go.Proofs.YtldhmfkojaekfaaGreatDoor
open Go.RowKit Gx
noncomputable def floatOf (l:List UInt8):Option Nat:=open Classical in if h:∃ x,ReadIs l x 0 then some (Classical.choose h) else none
theorem numIs_uniq {l:List UInt8} {x y:Nat} {a b:Int} {m:Bool} (h:NumIs l x a m) (g:NumIs l y b m):x=y/\(a=0↔b=0):=by
 rcases h with ⟨h1,h2,h3⟩|⟨d,e,p,h1,h2,h3⟩
 ·rcases g with ⟨g1,g2,g3⟩|⟨d',e',p',g1,-⟩
  ·exact ⟨by rw [h2,g2],⟨fun h=>absurd h h3,fun h=>absurd h g3⟩⟩
  ·rw [h1] at g1;cases g1
 ·rcases g with ⟨g1,-⟩|⟨d',e',p',g1,g2,g3⟩
  ·rw [h1] at g1;cases g1
  ·rw [h1] at g1
   obtain ⟨rfl,rfl⟩:=Prod.mk.inj (Option.some.inj g1)
   obtain rfl:p=p':=Rnd.uniq h2 g2 (tenDn_pos _) (tenDn_pos _) rfl
   rcases h3 with ⟨h3,h4,h5⟩|⟨h3,h4,h5⟩<;>rcases g3 with ⟨g3,g4,g5⟩|⟨g3,g4,g5⟩
   ·exact ⟨by rw [h4,g4],⟨fun h=>absurd h h5,fun h=>absurd h g5⟩⟩
   ·omega
   ·omega
   ·exact ⟨by rw [h4,g4],⟨fun _=>g5,fun _=>h5⟩⟩
theorem readIs_uniq {l:List UInt8} {x y:Nat} {a b:Int} (h:ReadIs l x a) (g:ReadIs l y b):x=y/\(a=0↔b=0):=by
 rcases h with ⟨h1,h2,h3⟩|⟨h1,h⟩
 ·rcases g with ⟨g1,g2,g3⟩|⟨g1,-⟩
  ·exact ⟨by rw [h2,g2],⟨fun h=>absurd h h3,fun h=>absurd h g3⟩⟩
  ·omega
 ·rcases g with ⟨g1,-⟩|⟨-,g⟩
  ·omega
  rcases h with ⟨h1,h2,h3⟩|⟨h1,h2,h3,h4⟩|⟨h1,h2,h3⟩<;>rcases g with ⟨g1,g2,g3⟩|⟨g1,g2,g3,g4⟩|⟨g1,g2,g3⟩
  ·exact ⟨by rw [h2,g2],⟨fun _=>g3,fun _=>h3⟩⟩
  ·exact absurd h1 g1
  ·exact absurd h1 g1
  ·exact absurd g1 h1
  ·exact ⟨by rw [h3,g3],⟨fun _=>g4,fun _=>h4⟩⟩
  ·exact absurd h2 g2
  ·exact absurd g1 h1
  ·exact absurd g2 h2
  ·exact numIs_uniq h3 g3
theorem float_yes {l:List UInt8} {x:Nat} (h:ReadIs l x 0):floatOf l=some x:=by
 have he:∃ x,ReadIs l x 0:=⟨x,h⟩
 unfold floatOf
 rw [dif_pos he,(readIs_uniq (Classical.choose_spec he) h).1]
theorem float_no {l:List UInt8} {x:Nat} {er:Int} (h:ReadIs l x er) (hn:er≠0):floatOf l=none:=by
 unfold floatOf
 rw [dif_neg]
 rintro ⟨y,hy⟩
 exact hn ((readIs_uniq h hy).2.2 rfl)
def nullT:List UInt8:=[110,117,108,108]
def trueT:List UInt8:=[116,114,117,101]
def falseT:List UInt8:=[102,97,108,115,101]
noncomputable def wordOf (l:List UInt8):Option V :=
 if l=nullT then some .zero else if l=trueT then some (.mk 1 1 0 ⟨#[]⟩ [] []) else if l=falseT then some (.mk 1 0 0 ⟨#[]⟩ [] [])
 else if (readOf l).2=0 then some (.mk 2 (readOf l).1 0 ⟨#[]⟩ [] [])
 else if (readOf l).2=4 then (floatOf l).map fun x:Nat=>V.mk 3 0 (x:Int) ⟨#[]⟩ [] []
 else none
def saidOf (l:List UInt8):Option ByteArray:=(unquote l).map fun p=>⟨(encs p.1).toArray⟩
noncomputable def leafOf (k:Int) (l:List UInt8):Option V:=if k=5 then (saidOf l).map fun s=>.mk 4 0 0 s [] [] else wordOf l
def keyOf (k:Int) (l:List UInt8):Option ByteArray:=if k=5 then saidOf l else if bareOf l=true then some ⟨l.toArray⟩ else none
def TS.end_ (X:TS) (i:Nat):Nat:=match X.T[i]? with|some t=>t.2.2|none=>X.l.length
def TS.bytes (X:TS) (i:Nat):List UInt8:=(X.l.drop (X.pos i)).take (X.end_ i - X.pos i)
abbrev Flt:=Nat×Bool
noncomputable def leafN (X:TS) (i:Nat):Except Flt V:=match leafOf (X.kind i) (X.bytes i) with|some v=>.ok v|none=>.error (X.pos i,false)
def keyN (X:TS) (i:Nat) (acc:List (ByteArray×V)):Except Flt ByteArray:=match keyOf (X.kind i) (X.bytes i) with
 | none=>.error (X.pos i,false)
 | some s=>if fidx s acc<acc.length then .error (X.pos i,true) else .ok s
def listN (f:Nd->Except Flt V):List V->List Nd->Except Flt (List V)
 | acc,[]=>.ok acc
 | acc,n::r=>match f n with
   | .error e=>.error e
   | .ok v=>listN f (acc++[v]) r
def tableN (X:TS) (f:Nd->Except Flt V):List (ByteArray×V)->List Nd->Except Flt (List (ByteArray×V))
 | acc,[]=>.ok acc
 | acc,n::r=>match keyN X (n.kids.getD 0 Nd.none).a acc with
   | .error e=>.error e
   | .ok s=>match f (n.kids.getD 1 Nd.none) with
     | .error e=>.error e
     | .ok v=>tableN X f (putL acc s v) r
def listV (l:List V):V:=.mk 5 0 0 ⟨#[]⟩ l []
def tableV (l:List (ByteArray×V)):V:=.mk 6 0 0 ⟨#[]⟩ [] l
noncomputable def meanN (X:TS):Nat->Nd->Except Flt V
 | 0,_=>.error (0,false)
 | d+1,n =>
   if n.k=5 then (match listN (meanN X d) [] n.kids with|.ok l=>.ok (listV l)|.error e=>.error e)
   else if n.k=3 then (match tableN X (meanN X d) [] n.kids with|.ok l=>.ok (tableV l)|.error e=>.error e)
   else leafN X n.a
def Wn (X:TS):Nat->Nd->Prop
 | 0,_=>False
 | d+1,n=>n.kids.length<=X.T.length/\((n.k=5/\∀ x∈n.kids,Wn X d x)\/(n.k=3/\∀ x∈n.kids,∃ k y,x.kids=[k,y]/\k.a<X.T.length/\Wn X d y)\/(n.k≠5/\n.k≠3/\n.a<X.T.length))
theorem many_all {X:TS} {P:Nd->Prop} {kid:PS->PS×Nd} (hs:Stays fun s=>(kid s).1) (hk:∀ s,s.i<=X.T.length->(kid s).1.bad=0->P (kid s).2/\(kid s).1.i<=X.T.length) (e:UInt8):∀ (f:Nat) (s:PS) (ks:List Nd),s.i<=X.T.length->(∀ n∈ks,P n)->(manyS X kid e f s ks).1.bad=0->∀ n∈(manyS X kid e f s ks).2,P n
 | 0,s,ks,hi,h,hb=>(fail_not (X:=X) (e:=4) (by decide) hb).elim
 | f+1,s,ks,hi,h,hb=>by
   have hs0:s.bad=0:=good_of (f:=fun u=>(manyS X kid e (f+1) u ks).1) (fun u hu=>many_stays X kid e (f+1) u ks hu) hb
   by_cases hm:(s.skip X).mark X=e
   ·have e1:manyS X kid e (f+1) s ks=(s.skip X,ks):=by rw [manyS,if_pos (.inl hm)]
    rw [e1];exact h
   ·have hn:¬ ((s.skip X).mark X=e\/s.bad≠0):=fun h=>h.elim hm (fun h=>h hs0)
    have hgo:=manyS_go (kid:=kid) (ks:=ks) (Nat.succ_le_succ (Nat.zero_le f)) hn
    rw [hgo] at hb ⊢
    rw [show f+1 - 1=f from rfl] at hb ⊢
    have hr0:(roundS X e ((kid (s.skip X)).1.skip X)).bad=0:=good_of (f:=fun u=>(manyS X kid e f u (ks++[(kid (s.skip X)).2])).1) (fun u hu=>many_stays X kid e f u _ hu) hb
    have hr:(kid (s.skip X)).1.bad=0:=by
     unfold roundS at hr0
     split at hr0
     ·exact hr0
     ·split at hr0
      ·exact hr0
      ·exact (fail_not (by decide) hr0).elim
    have h1:=hk (s.skip X) ((skip_fine X s).2.1 hi) hr
    refine many_all hs hk e f _ _ ?_ (fun n hn=>?_) hb
    ·have h2:=(skip_fine X (kid (s.skip X)).1).2.1 h1.2
     unfold roundS at hr0 ⊢
     split at hr0
     ·rename_i h44
      rw [if_pos h44]
      exact mark_lt h44 (by decide)
     ·rename_i h44
      rw [if_neg h44]
      split at hr0
      ·rename_i h5
       rw [if_pos h5];exact h2
      ·exact (fail_not (by decide) hr0).elim
    ·rcases List.mem_append.1 hn with hn|hn
     ·exact h n hn
     ·obtain rfl:n=(kid (s.skip X)).2:=by simpa using hn
      exact h1.1
theorem covers_len {X:TS} {n:Nd} (h:Covers X n):n.kids.length<=X.T.length:=by cases n with|mk k a b kids=>exact h.len
theorem leaf_row {X:TS} {k:Int} {s:PS} (hb:(leafS X k s).1.bad=0):(leafS X k s).2=.mk k (s.skip X).i ((s.skip X).i+1) []/\(s.skip X).i<X.T.length:=by
 unfold leafS at hb ⊢
 split at hb
 ·rename_i h3
  rw [if_pos h3]
  refine ⟨rfl,?_⟩
  rcases Nat.lt_or_ge (s.skip X).i X.T.length with h4|h4
  ·exact h4
  ·exfalso
   unfold TS.kind at h3
   rw [List.getElem?_eq_none h4] at h3
   exact absurd h3 (by decide)
 ·exact (fail_not (by decide) hb).elim
theorem leaf_wn {X:TS} {s:PS} {d:Nat} (hb:(leafS X 1 s).1.bad=0):Wn X (d+1) (leafS X 1 s).2:=by
 obtain ⟨h1,h2⟩:=leaf_row hb
 rw [h1]
 exact ⟨Nat.zero_le _,.inr (.inr ⟨show ¬ (1:Int)=5 by decide,show ¬ (1:Int)=3 by decide,h2⟩)⟩
theorem value_wn (X:TS):∀ d s,s.i<=X.T.length->(valueS X d s).1.bad=0->Wn X (d+1) (valueS X d s).2
 | 0,s,hi,hb=>by
   unfold valueS at hb ⊢
   split at hb
   ·exact (fail_not (by decide) hb).elim
   ·rename_i h
    rw [if_neg h]
    exact leaf_wn hb
 | d+1,s,hi,hb=>by
   have hc:=(value_cov X (d+1) s hb hi).cov
   have hl:=covers_len hc
   have hi2:=(skip_fine X s).2.1 hi
   unfold valueS at hb hl ⊢
   split at hb
   ·rename_i h
    rw [if_pos h] at hl ⊢
    refine ⟨hl,.inr (.inl ⟨rfl,?_⟩)⟩
    refine many_all (X:=X) (kid:=entryS X (valueS X d)) (P:=fun x=>∃ k y,x.kids=[k,y]/\k.a<X.T.length/\Wn X (d+1) y) (entry_stays X _) (fun u hu hub=>?_) 125 X.F _ [] (mark_lt h (by decide)) (fun n hn=>by cases hn) hb
    have hr:=entry_cov (value_cov X d) (value_stays X d) u hub hu
    refine ⟨?_,hr.le⟩
    unfold entryS at hub ⊢
    split at hub
    ·rename_i h1;exact absurd hub h1
    ·rename_i h1
     rw [if_neg h1]
     have hcb:(colonS X ((leafS X 2 u).1.skip X)).bad=0:=by
      by_cases h0:(colonS X ((leafS X 2 u).1.skip X)).bad=0
      ·exact h0
      ·exact absurd h0 h1
     obtain ⟨c1,c2,c3,c4⟩:=colon_good hcb
     have hlf:=leaf_row (k:=2) (s:=u) c2
     refine ⟨_,_,rfl,by rw [hlf.1];exact hlf.2,value_wn X d _ ?_ hub⟩
     rw [c1];exact c4
   ·rename_i h
    rw [if_neg h] at hl ⊢
    split at hb
    ·rename_i h2
     rw [if_pos h2] at hl ⊢
     refine ⟨hl,.inl ⟨rfl,?_⟩⟩
     exact many_all (X:=X) (kid:=valueS X d) (P:=Wn X (d+1)) (value_stays X d) (fun u hu hub=>⟨value_wn X d u hu hub,(value_cov X d u hub hu).le⟩) 93 X.F _ [] (mark_lt h2 (by decide)) (fun n hn=>by cases hn) hb
    ·rename_i h2
     rw [if_neg h2] at hl ⊢
     exact leaf_wn hb
abbrev Tk:=Int×Nat×List UInt8
def solO (l:List UInt8) (o:Nat):List Tk:=((toksFrom l 0).filter fun t=>solidK t.1).map fun t=>(t.1,o+t.2.1,(l.drop t.2.1).take (t.2.2 - t.2.1))
theorem solO_nil (o:Nat):solO [] o=[]:=rfl
theorem sol_shift (l:List UInt8) (o n:Nat):∀ T:List Tok,(∀ t∈T,n<=t.2.1)->(T.filter fun t=>solidK t.1).map (fun t=>((t.1,o+t.2.1,(l.drop t.2.1).take (t.2.2 - t.2.1)):Tk)) =
 ((T.map fun t=>((t.1,t.2.1 - n,t.2.2 - n):Tok)).filter fun t=>solidK t.1).map fun t=>(t.1,o+n+t.2.1,((l.drop n).drop t.2.1).take (t.2.2 - t.2.1))
 | [],_=>rfl
 | t::T,h=>by
   have ih:=sol_shift l o n T (fun t ht=>h t (List.mem_cons_of_mem _ ht))
   have h1:=h t List.mem_cons_self
   rw [List.filter_cons,List.map_cons,List.filter_cons]
   cases hk:solidK t.1 with
   | false=>simp only [Bool.false_eq_true,if_false];exact ih
   | true =>
     simp only [if_true,List.map_cons]
     rw [ih,List.drop_drop,show n+(t.2.1 - n)=t.2.1 by omega,show t.2.2 - n - (t.2.1 - n)=t.2.2 - t.2.1 by omega,show o+n+(t.2.1 - n)=o+t.2.1 by omega]
theorem solO_step (l:List UInt8) (o:Nat) (h:l≠[]):solO l o=(if solidK (nextTok l).1=true then [((nextTok l).1,o,l.take (nextTok l).2)] else [])++solO (l.drop (nextTok l).2) (o+(nextTok l).2):=by
 have hl:0<l.length:=List.length_pos_iff.2 h
 have hd:=toks_drop l (nextTok l).2 l.length 0 (by omega)
 rw [Nat.add_zero] at hd
 have e:=sol_shift l o (nextTok l).2 (toksFrom l (nextTok l).2) (fun t ht=>(toksFrom_low l l.length _ (by omega) t ht).1)
 unfold solO
 rw [toksFrom_step l 0 hl,List.drop_zero,Nat.zero_add,hd,List.filter_cons,<-e]
 cases hk:solidK (nextTok l).1 with
 | false=>simp only [Bool.false_eq_true,if_false,List.nil_append]
 | true=>simp only [if_true,List.map_cons,List.drop_zero,Nat.sub_zero,Nat.add_zero,List.cons_append,List.nil_append]
theorem solO_tok {p r:List UInt8} {k:Int} (o:Nat) (hp:p≠[]) (h:nextTok (p++r)=(k,p.length)):solO (p++r) o=(if solidK k=true then [(k,o,p)] else [])++solO r (o+p.length):=by
 rw [solO_step _ o (by simp [hp]),h]
 simp
theorem runLen_all (k:Int):∀ (p z:List UInt8),(∀ c∈p,classOf (c.toNat:Int)=k)->runLen k (p++z)=p.length+runLen k z
 | [],z,_=>by simp
 | c::p,z,h=>by
   rw [List.cons_append,runLen_cons,if_pos (h c List.mem_cons_self),runLen_all k p z (fun c hc=>h c (List.mem_cons_of_mem _ hc)),List.length_cons]
   omega
theorem runLen_len (k:Int):∀ p:List UInt8,runLen k p=p.length->∀ c∈p,classOf (c.toNat:Int)=k
 | [],_,c,hc=>by cases hc
 | b::p,h,c,hc=>by
   rw [runLen_cons] at h
   by_cases hb:classOf (b.toNat:Int)=k
   ·rw [if_pos hb,List.length_cons] at h
    rcases List.mem_cons.1 hc with rfl|hc
    ·exact hb
    ·exact runLen_len k p (by omega) c hc
   ·rw [if_neg hb,List.length_cons] at h;omega
theorem runLen_head (k:Int) (z:List UInt8) (h:∀ c,z.head?=some c->classOf (c.toNat:Int)≠k):runLen k z=0:=by
 cases z with
 | nil=>rfl
 | cons c z=>rw [runLen_cons,if_neg (h c rfl)]
theorem index_app (sub:List UInt8):∀ (l z:List UInt8),0<=Lib.index l sub->Lib.index (l++z) sub=Lib.index l sub
 | [],z,h=>by
   have:sub=[]:=by
    unfold Lib.index at h
    cases sub with
    | nil=>rfl
    | cons a s=>simp at h
   subst this
   cases z<;>rfl
 | b::l,z,h=>by
   have hf:=index_fits (b::l) sub h
   rw [List.cons_append,index_cons]
   rw [index_cons] at h hf ⊢
   have e:sub.isPrefixOf (b::(l++z))=sub.isPrefixOf (b::l):=by
    have hs:sub.length<=(b::l).length:=by omega
    have:=isPrefixOf_take sub ((b::l)++z) (b::l).length hs
    rw [List.take_left' rfl] at this
    exact this.symm
   rw [e]
   by_cases h1:sub.isPrefixOf (b::l)=true
   ·rw [if_pos h1,if_pos h1]
   ·rw [if_neg h1] at h ⊢
    rw [if_neg h1]
    by_cases h3:Lib.index l sub=-1
    ·rw [h3] at h;simp at h
    ·have h5:=Lib.index_ge l sub
     rw [index_app sub l z (by omega)]
theorem index_byte (c:UInt8):∀ (l z:List UInt8),Lib.index l [c]=-1->Lib.index (l++c::z) [c]=l.length
 | [],z,_=>by
   rw [List.nil_append,index_cons,if_pos (by simp [List.isPrefixOf])]
   rfl
 | b::l,z,h=>by
   rw [index_cons] at h
   by_cases h1:([c]:List UInt8).isPrefixOf (b::l)=true
   ·rw [if_pos h1] at h;cases h
   ·rw [if_neg h1] at h
    have h2:Lib.index l [c]=-1:=by
     by_cases h3:Lib.index l [c]=-1
     ·exact h3
     ·have h4:(Lib.index l [c]==-1)=false:=by simpa using h3
      rw [h4] at h
      simp only [Bool.false_eq_true,if_false] at h
      have:=Lib.index_ge l [c]
      omega
    have ih:=index_byte c l z h2
    have e:([c]:List UInt8).isPrefixOf (b::(l++c::z))=false:=by
     simp only [List.isPrefixOf,Bool.and_true] at h1 ⊢
     exact Bool.eq_false_iff.2 h1
    have e2:((l.length:Int)==-1)=false:=beq_eq_false_iff_ne.2 (by omega)
    rw [List.cons_append,index_cons,e,ih,e2]
    simp
theorem index_is (c:UInt8):∀ (l:List UInt8) (e:Nat),Lib.index l [c]=(e:Int)->l[e]?=some c
 | [],e,h=>by
   have:Lib.index [] [c]=-1:=rfl
   rw [this] at h;omega
 | b::l,e,h=>by
   rw [index_cons] at h
   by_cases h1:([c]:List UInt8).isPrefixOf (b::l)=true
   ·rw [if_pos h1] at h
    obtain rfl:e=0:=by omega
    simp only [List.isPrefixOf,Bool.and_true,beq_iff_eq] at h1
    rw [h1];rfl
   ·rw [if_neg h1] at h
    by_cases h3:Lib.index l [c]=-1
    ·rw [h3] at h;simp at h
    ·have h4:(Lib.index l [c]==-1)=false:=by simpa using h3
     rw [h4] at h
     simp only [Bool.false_eq_true,if_false] at h
     have:=Lib.index_ge l [c]
     obtain ⟨q,rfl⟩:∃ q,e=q+1:=⟨e - 1,by omega⟩
     rw [List.getElem?_cons_succ]
     exact index_is c l q (by omega)
theorem textScan_app:∀ (l z:List UInt8) (p:Bool) (i:Nat),0<textScan l p i->textScan (l++z) p i=textScan l p i
 | [],z,p,i,h=>by simp [textScan] at h
 | b::l,z,p,i,h=>by
   rw [List.cons_append]
   unfold textScan at h ⊢
   by_cases h1:b=10
   ·rw [if_pos h1] at h;omega
   ·rw [if_neg h1] at h ⊢
    rw [if_neg h1]
    by_cases h2:p=true
    ·rw [if_pos h2] at h ⊢
     rw [if_pos h2,textScan_app l z _ _ h]
    ·rw [if_neg h2] at h ⊢
     rw [if_neg h2]
     by_cases h3:b=34
     ·rw [if_pos h3,if_pos h3]
     ·rw [if_neg h3] at h ⊢
      rw [if_neg h3,textScan_app l z _ _ h]
def Okz (k:Int) (p z:List UInt8):Prop:=((k=1\/k=4)->∀ c,z.head?=some c->classOf (c.toNat:Int)≠k)/\(p.head?=some 35->k=3->∀ c,z.head?=some c->c=10)
theorem Okz.nil (k:Int) (p:List UInt8):Okz k p []:=⟨fun _ c h=>by simp at h,fun _ _ c h=>by simp at h⟩
theorem Okz.head {k:Int} {p y z:List UInt8} (h:Okz k p y) (e:z.head?=y.head?):Okz k p z:=by unfold Okz;rw [e];exact h
theorem Okz.line (k:Int) (p z:List UInt8):Okz k p (10::z):=⟨fun hk c h=>by
 have:c=10:=by simpa using h.symm
 subst this
 have e:classOf ((10:UInt8).toNat:Int)=2:=by decide
 rw [e];omega,fun _ _ c h=>by simpa using h.symm⟩
theorem cut_whole {p:List UInt8} (h:(Lib.cut p [10]).1.length=p.length) (hp:p≠[]):Lib.index p [10]=-1:=by
 have hlow:=Lib.index_ge p [10]
 by_cases h0:0<=Lib.index p [10]
 ·exfalso
  have hfit:=index_fits p [10] h0
  unfold Lib.cut at h
  rw [if_pos h0] at h
  simp at h hfit
  omega
 ·omega
theorem noteLen_app {p z:List UInt8} (h:noteLen p=p.length) (hp:p≠[]) (hz:p.head?=some 35->∀ c,z.head?=some c->c=10):noteLen (p++z)=p.length:=by
 have hh:(p++z).head?=p.head?:=by cases p with|nil=>exact absurd rfl hp|cons a p=>rfl
 have hl:0<p.length:=List.length_pos_iff.2 hp
 unfold noteLen at h ⊢
 rw [hh]
 by_cases h1:p.head?=some 35
 ·rw [if_pos h1] at h ⊢
  have hi:=cut_whole h hp
  cases z with
  | nil=>rw [List.append_nil];exact h
  | cons c z =>
    obtain rfl:=hz h1 c rfl
    have:=index_byte 10 p z hi
    unfold Lib.cut
    rw [this,if_pos (by omega)]
    simp
 ·rw [if_neg h1] at h ⊢
  by_cases h2:Lib.hasPrefix p [47,42]=true
  ·rw [if_pos h2] at h
   have h3:Lib.hasPrefix (p++z) [47,42]=true:=by
    unfold Lib.hasPrefix at h2 ⊢
    rw [List.isPrefixOf_iff_prefix] at h2 ⊢
    exact h2.trans (List.prefix_append _ _)
   rw [if_pos h3]
   by_cases h4:Lib.index (p.drop 2) [42,47]<0
   ·rw [if_pos h4] at h;omega
   ·rw [if_neg h4] at h
    have h5:(p++z).drop 2=p.drop 2++z:=by
     rw [List.drop_append_of_le_length (by omega)]
    rw [h5,index_app _ _ _ (by omega),if_neg h4]
    exact h
  ·rw [if_neg h2] at h;omega
theorem next_app {p z:List UInt8} {k:Int} (h:nextTok p=(k,p.length)) (hp:p≠[]) (hk:k≠7) (hz:Okz k p z):nextTok (p++z)=(k,p.length):=by
 cases p with
 | nil=>exact absurd rfl hp
 | cons b p =>
   rw [List.cons_append]
   unfold nextTok at h ⊢
   simp only [] at h ⊢
   by_cases h1:classOf (b.toNat:Int)=1\/classOf (b.toNat:Int)=4
   ·rw [if_pos h1] at h ⊢
    obtain ⟨rfl,h2⟩:=Prod.mk.inj h
    rw [List.length_cons] at h2
    have h3:=runLen_len (classOf (b.toNat:Int)) p (by omega)
    rw [runLen_all _ p z h3,runLen_head _ z (hz.1 h1),List.length_cons]
    congr 1;omega
   ·rw [if_neg h1] at h ⊢
    by_cases h3:classOf (b.toNat:Int)=3
    ·rw [if_pos h3] at h ⊢
     by_cases h4:noteLen (b::p)=0
     ·rw [if_pos h4] at h;exact absurd (Prod.mk.inj h).1.symm hk
     ·rw [if_neg h4] at h
      obtain ⟨rfl,h5⟩:=Prod.mk.inj h
      have:=noteLen_app (z:=z) h5 (by simp) (fun g=>hz.2 g rfl)
      rw [List.cons_append] at this
      rw [this,if_neg (by simp)]
    ·rw [if_neg h3] at h ⊢
     by_cases h5:classOf (b.toNat:Int)=5
     ·rw [if_pos h5] at h ⊢
      by_cases h4:textLen (b::p)=0
      ·rw [if_pos h4] at h;exact absurd (Prod.mk.inj h).1.symm hk
      ·rw [if_neg h4] at h
       obtain ⟨rfl,h6⟩:=Prod.mk.inj h
       have e:textLen (b::(p++z))=textLen (b::p):=by
        unfold textLen at h4 ⊢
        exact textScan_app p z false 1 (by simpa using Nat.pos_of_ne_zero h4)
       rw [e,if_neg h4,h6]
     ·rw [if_neg h5] at h ⊢
      exact h
theorem next_ok {l:List UInt8} (hl:l≠[]):Okz (nextTok l).1 (l.take (nextTok l).2) (l.drop (nextTok l).2):=by
 cases l with
 | nil=>exact absurd rfl hl
 | cons b r =>
   have hfit:=nextTok_fits (b::r) (by simp)
   constructor
   ·intro hk c hc
    unfold nextTok at hk hc ⊢
    simp only [] at hk hc ⊢
    by_cases h1:classOf (b.toNat:Int)=1\/classOf (b.toNat:Int)=4
    ·rw [if_pos h1] at hc ⊢
     simp only [] at hc ⊢
     rw [Nat.add_comm,List.drop_succ_cons] at hc
     clear hk hfit hl
     generalize classOf (b.toNat:Int)=k at *
     have:∀ r:List UInt8,(r.drop (runLen k r)).head?=some c->classOf (c.toNat:Int)≠k:=by
      intro r
      induction r with
      | nil=>intro h;simp at h
      | cons a r ih =>
        intro h
        rw [runLen_cons] at h
        by_cases ha:classOf (a.toNat:Int)=k
        ·rw [if_pos ha,Nat.add_comm,List.drop_succ_cons] at h
         exact ih h
        ·rw [if_neg ha] at h
         have:a=c:=by simpa using h
         rw [<-this];exact ha
     exact this r hc
    ·exfalso
     rw [if_neg h1] at hk
     by_cases h3:classOf (b.toNat:Int)=3
     ·rw [if_pos h3] at hk
      split at hk<;>simp at hk
     ·rw [if_neg h3] at hk
      by_cases h5:classOf (b.toNat:Int)=5
      ·rw [if_pos h5] at hk
       split at hk<;>simp at hk
      ·rw [if_neg h5] at hk;exact h1 hk
   ·intro hh hk c hc
    have hb:b=35:=by
     have:((b::r).take (nextTok (b::r)).2).head?=some b:=by
      obtain ⟨q,hq⟩:∃ q,(nextTok (b::r)).2=q+1:=⟨(nextTok (b::r)).2 - 1,by omega⟩
      rw [hq];rfl
     rw [this] at hh
     exact Option.some.inj hh
    subst hb
    have e3:classOf ((35:UInt8).toNat:Int)=3:=by decide
    unfold nextTok at hk hc
    simp only [e3] at hk hc
    rw [if_neg (by omega),if_pos trivial] at hk hc
    by_cases h4:noteLen (35::r)=0
    ·rw [if_pos h4] at hk;simp at hk
    ·rw [if_neg h4] at hc
     simp only [] at hc
     unfold noteLen at hc
     rw [if_pos (show (35::r).head?=some 35 from rfl)] at hc
     have hlow:=Lib.index_ge (35::r) [10]
     by_cases h0:0<=Lib.index (35::r) [10]
     ·obtain ⟨e,he⟩:=Int.eq_ofNat_of_zero_le h0
      have hfi:=index_fits (35::r) [10] h0
      have hcl:(Lib.cut (35::r) [10]).1.length=e:=by
       unfold Lib.cut
       rw [if_pos h0,he]
       rw [List.length_take]
       simp at hfi ⊢;omega
      rw [hcl,List.head?_drop,index_is 10 _ e he] at hc
      exact (Option.some.inj hc).symm
     ·have hcl:(Lib.cut (35::r) [10]).1=35::r:=by unfold Lib.cut;rw [if_neg h0]
      rw [hcl,List.drop_length] at hc
      simp at hc
theorem next_alone {l:List UInt8} (hl:l≠[]):nextTok (l.take (nextTok l).2)=((nextTok l).1,(l.take (nextTok l).2).length):=by
 have hp:=List.length_pos_iff.2 hl
 have hf:=nextTok_fits l hp
 rw [nextTok_take l _ hp (Nat.le_refl _) (.inr rfl),List.length_take,Nat.min_eq_left hf.2]
inductive TokSeq (z:List UInt8):List UInt8->Prop
 | nil:TokSeq z []
 | cons (p a:List UInt8) (k:Int) (hp:p≠[]) (h:nextTok p=(k,p.length)) (hk:k≠7) (hz:Okz k p (a++z)) (ha:TokSeq z a):TokSeq z (p++a)
theorem app_head (a y z:List UInt8) (h:z.head?=y.head?):(a++z).head?=(a++y).head?:=by cases a<;>simp [h]
theorem TokSeq.head {y z a:List UInt8} (h:TokSeq y a) (e:z.head?=y.head?):TokSeq z a:=by
 induction h with
 | nil=>exact .nil
 | cons p a k hp h hk hz ha ih=>exact .cons p a k hp h hk (hz.head (app_head a y z e)) ih
theorem TokSeq.sol {z a:List UInt8} (h:TokSeq z a):∀ o,solO (a++z) o=solO a o++solO z (o+a.length):=by
 induction h with
 | nil=>intro o;simp [solO_nil]
 | cons p a k hp h hk hz ha ih =>
   intro o
   have h1:Okz k p a:=by
    cases a with
    | nil=>exact Okz.nil k p
    | cons c a=>exact hz.head rfl
   rw [List.append_assoc,solO_tok o hp (next_app h hp hk hz),solO_tok o hp (next_app h hp hk h1),ih,List.append_assoc,List.length_append,Nat.add_assoc]
theorem tokSeq_line (z:List UInt8):∀ (n:Nat) (a:List UInt8),a.length<=n->(∀ t∈toksFrom a 0,t.1≠7)->TokSeq (10::z) a:=by
 intro n
 induction n with
 | zero =>
   intro a h _
   obtain rfl:a=[]:=List.eq_nil_of_length_eq_zero (by omega)
   exact .nil
 | succ n ih =>
   intro a h hk
   by_cases ha:a=[]
   ·subst ha;exact .nil
   have hp:=List.length_pos_iff.2 ha
   have hf:=nextTok_fits a hp
   rw [toksFrom_step a 0 hp,List.drop_zero,Nat.zero_add] at hk
   have hd:=toks_drop a (nextTok a).2 a.length 0 (by omega)
   rw [Nat.add_zero] at hd
   have hne:a.take (nextTok a).2≠[]:=by
    intro e
    have:=congrArg List.length e
    rw [List.length_take,List.length_nil] at this
    omega
   have:=TokSeq.cons (z:=10::z) (a.take (nextTok a).2) (a.drop (nextTok a).2) (nextTok a).1 hne (next_alone ha) (hk _ List.mem_cons_self) (by
    by_cases he:a.drop (nextTok a).2=[]
    ·rw [he];exact Okz.line _ _ _
    ·have h1:=next_ok ha
     refine h1.head ?_
     cases hx:a.drop (nextTok a).2 with
     | nil=>exact absurd hx he
     | cons c t=>rfl) (ih _ (by rw [List.length_drop];omega) (fun t ht=>by
     rw [hd] at ht
     obtain ⟨u,hu,rfl⟩:=List.mem_map.1 ht
     exact hk u (List.mem_cons_of_mem _ hu)))
   rwa [List.take_append_drop] at this
theorem solO_line (r:List UInt8) (o:Nat):solO (10::r) o=solO r (o+1):=by
 have h:nextTok (10::r)=(2,1):=by
  unfold nextTok
  have e:classOf ((10:UInt8).toNat:Int)=2:=by decide
  simp only [e]
  rw [if_neg (by decide),if_neg (by decide),if_neg (by decide)]
 rw [solO_step _ o (by simp),h]
 rfl
theorem solO_mark (c:UInt8) (r:List UInt8) (o:Nat) (hc:classOf (c.toNat:Int)=6):solO (c::r) o=(6,o,[c])::solO r (o+1):=by
 have h:nextTok (c::r)=(6,1):=by
  unfold nextTok
  simp only [hc]
  rw [if_neg (by decide),if_neg (by decide),if_neg (by decide)]
 rw [solO_step _ o (by simp),h]
 rfl
abbrev Kb:=Int×List UInt8
def kbX (X:TS) (i:Nat):List Kb:=((X.T.drop i).filter fun t=>solidK t.1).map fun t=>(t.1,(X.l.drop t.2.1).take (t.2.2 - t.2.1))
theorem kbX_end {X:TS} {i:Nat} (h:X.T.length<=i):kbX X i=[]:=by unfold kbX;rw [List.drop_of_length_le h];rfl
theorem kbX_cons {X:TS} {i:Nat} (h:i<X.T.length):kbX X i=(if solidK (X.kind i)=true then [(X.kind i,X.bytes i)] else [])++kbX X (i+1):=by
 have hk:X.kind i=(X.T[i]).1:=by unfold TS.kind;rw [List.getElem?_eq_getElem h]
 have hp:X.pos i=(X.T[i]).2.1:=by unfold TS.pos;rw [List.getElem?_eq_getElem h]
 have he:X.end_ i=(X.T[i]).2.2:=by unfold TS.end_;rw [List.getElem?_eq_getElem h]
 unfold kbX
 rw [List.drop_eq_getElem_cons h,List.filter_cons,hk]
 unfold TS.bytes
 rw [hp,he]
 cases hs:solidK (X.T[i]).1 with
 | false=>simp only [Bool.false_eq_true,if_false,List.nil_append]
 | true=>simp only [if_true,List.map_cons,List.cons_append,List.nil_append]
theorem skipN_kb (X:TS):∀ (n i:Nat),X.T.length<=i+n->(X.T.length<=i+skipN (X.T.drop i)/\kbX X i=[])\/(i+skipN (X.T.drop i)<X.T.length/\solidK (X.kind (i+skipN (X.T.drop i)))=true /\
 kbX X i=(X.kind (i+skipN (X.T.drop i)),X.bytes (i+skipN (X.T.drop i)))::kbX X (i+skipN (X.T.drop i)+1))
 | 0,i,h=>.inl ⟨by omega,kbX_end (by omega)⟩
 | n+1,i,h=>by
   rcases Nat.lt_or_ge i X.T.length with hi|hi
   ·have hk:X.kind i=(X.T[i]).1:=by unfold TS.kind;rw [List.getElem?_eq_getElem hi]
    have hc:=kbX_cons hi
    rw [List.drop_eq_getElem_cons hi]
    unfold skipN
    cases hs:solidK (X.T[i]).1 with
    | true =>
      rw [hk,hs,if_pos rfl,<-hk] at hc
      simp only [if_true,Nat.add_zero]
      exact .inr ⟨hi,by rw [hk];exact hs,hc⟩
    | false =>
      rw [hk,hs] at hc
      simp only [Bool.false_eq_true,if_false,List.nil_append] at hc ⊢
      rw [hc]
      have ih:=skipN_kb X n (i+1) (by omega)
      rw [show i+1+skipN (X.T.drop (i+1))=i+(skipN (X.T.drop (i+1))+1) by omega] at ih
      exact ih
   ·exact .inl ⟨by omega,kbX_end hi⟩
theorem skip_kb (X:TS) (s:PS):(X.T.length<=(s.skip X).i/\kbX X s.i=[])\/((s.skip X).i<X.T.length/\solidK (X.kind (s.skip X).i)=true/\kbX X s.i=(X.kind (s.skip X).i,X.bytes (s.skip X).i)::kbX X ((s.skip X).i+1)) :=
 skipN_kb X X.T.length s.i (Nat.le_add_left _ _)
theorem kb_skip (X:TS) (s:PS):kbX X (s.skip X).i=kbX X s.i:=by
 rcases skip_kb X s with ⟨h1,h2⟩|⟨h1,h2,h3⟩
 ·rw [h2,kbX_end h1]
 ·rw [h3,kbX_cons h1,h2];rfl
def MarkOk (X:TS):Prop:=∀ i,i<X.T.length->X.kind i=6->X.bytes i=[X.l.getD (X.pos i) 0]
theorem markKb {X:TS} (hM:MarkOk X) {s:PS} {c:UInt8} {r:List Kb} (h:kbX X s.i=(6,[c])::r):(s.skip X).mark X=c/\(s.skip X).i<X.T.length/\kbX X ((s.skip X).i+1)=r:=by
 rcases skip_kb X s with ⟨h1,h2⟩|⟨h1,h2,h3⟩
 ·rw [h2] at h;cases h
 ·rw [h3] at h
  obtain ⟨e1,e2⟩:=List.cons.inj h
  obtain ⟨e3,e4⟩:=Prod.mk.inj e1
  have:=hM _ h1 e3
  rw [e4] at this
  refine ⟨?_,h1,e2⟩
  unfold PS.mark
  rw [if_pos e3]
  exact (List.cons.inj this).1.symm
theorem of_mark {X:TS} (hM:MarkOk X) {s:PS} {c:UInt8} (hc:c≠0) (h:(s.skip X).mark X=c):kbX X s.i=(6,[c])::kbX X ((s.skip X).i+1):=by
 have hl:=mark_lt h hc
 have hk:=mark_kind h hc
 rcases skip_kb X s with ⟨h1,h2⟩|⟨h1,h2,h3⟩
 ·omega
 ·rw [h3,hM _ hl hk,hk]
  unfold PS.mark at h
  rw [if_pos hk] at h
  rw [h]
theorem not_mark {X:TS} (hM:MarkOk X) {s:PS} {c:UInt8} (hc:c≠0) (h:(kbX X s.i).head?≠some (6,[c])):(s.skip X).mark X≠c:=fun e=>h (by rw [of_mark hM hc e];rfl)
inductive Items {α:Type} (K:List Kb->α->List Kb->Prop) (e:UInt8):List Kb->List α->List Kb->Prop
 | nil (r:List Kb):Items K e ((6,[e])::r) [] r
 | last (ts:List Kb) (a:α) (r:List Kb) (h:K ts a ((6,[e])::r)):Items K e ts [a] r
 | more (ts:List Kb) (a:α) (ts':List Kb) (l:List α) (r:List Kb) (h:K ts a ((6,[44])::ts')) (hl:Items K e ts' l r):Items K e ts (a::l) r
def EntK (K:List Kb->V->List Kb->Prop) (ts:List Kb) (a:ByteArray×V) (r:List Kb):Prop :=
 ∃ t c ts',ts=t::(6,[c])::ts'/\(t.1=4\/t.1=5)/\(c=58\/c=61)/\keyOf t.1 t.2=some a.1/\K ts' a.2 r
def putAll (acc:List (ByteArray×V)) (l:List (ByteArray×V)):List (ByteArray×V):=l.foldl (fun acc x=>putL acc x.1 x.2) acc
def Once:List ByteArray->List (ByteArray×V)->Prop
 | _,[]=>True
 | ks,x::l=>x.1∉ks/\Once (x.1::ks) l
def G:Nat->List Kb->V->List Kb->Prop
 | 0,_,_,_=>False
 | d+1,ts,v,r=>(∃ t,ts=t::r/\(t.1=4\/t.1=5)/\leafOf t.1 t.2=some v)\/(∃ ts' l,ts=(6,[91])::ts'/\Items (G d) 93 ts' l r/\v=listV l) \/
   (∃ ts' l,ts=(6,[123])::ts'/\Items (EntK (G d)) 125 ts' l r/\Once [] l/\v=tableV (putAll [] l))
theorem G_head {d:Nat} {ts r:List Kb} {v:V} (h:G d ts v r) (e:UInt8) (he:e=93\/e=125):ts.head?≠some (6,[e]):=by
 cases d with
 | zero=>exact h.elim
 | succ d =>
   rcases h with ⟨t,rfl,h1,-⟩|⟨ts',l,rfl,-⟩|⟨ts',l,rfl,-⟩
   ·intro h2
    have:=Option.some.inj h2
    rw [this] at h1
    exact absurd h1 (by simp)
   ·intro h2
    have:=(List.cons.inj (Prod.mk.inj (Option.some.inj h2)).2).1
    rcases he with rfl|rfl<;>exact absurd this (by decide)
   ·intro h2
    have:=(List.cons.inj (Prod.mk.inj (Option.some.inj h2)).2).1
    rcases he with rfl|rfl<;>exact absurd this (by decide)
theorem EntK_head {K:List Kb->V->List Kb->Prop} {ts r:List Kb} {a:ByteArray×V} (h:EntK K ts a r) (e:UInt8):ts.head?≠some (6,[e]):=by
 obtain ⟨t,c,ts',rfl,h1,-⟩:=h
 intro h2
 have:=Option.some.inj h2
 rw [this] at h1
 exact absurd h1 (by simp)
inductive All2 {α β:Type} (R:α->β->Prop):List α->List β->Prop
 | nil:All2 R [] []
 | cons (a:α) (b:β) (l:List α) (m:List β) (h:R a b) (hl:All2 R l m):All2 R (a::l) (b::m)
theorem items_run {α:Type} {X:TS} (hM:MarkOk X) {K:List Kb->α->List Kb->Prop} {kid:PS->PS×Nd} {Mn:Nd->α->Prop} {e:UInt8} (he:e=93\/e=125) (hhd:∀ ts a r,K ts a r->ts.head?≠some (6,[e]))
 (hK:∀ ts a r (s:PS),K ts a r->s.bad=0->s.i<=X.T.length->kbX X s.i=ts->(kid s).1.bad=0/\kbX X (kid s).1.i=r/\(kid s).1.i<=X.T.length/\s.i<(kid s).1.i/\Mn (kid s).2 a) :
 ∀ ts l r,Items K e ts l r->∀ (s:PS) (ks:List Nd) (f:Nat),s.bad=0->s.i<=X.T.length->kbX X s.i=ts->X.T.length+2<=f+s.i ->
  ∃ new,(manyS X kid e f s ks).2=ks++new/\(manyS X kid e f s ks).1.bad=0/\(manyS X kid e f s ks).1.i<X.T.length/\s.i<=(manyS X kid e f s ks).1.i/\kbX X ((manyS X kid e f s ks).1.i+1)=r/\All2 Mn new l:=by
 have he0:e≠0:=by rcases he with rfl|rfl<;>decide
 have he44:e≠44:=by rcases he with rfl|rfl<;>decide
 have hend:∀ (r:List Kb) (s:PS) (ks:List Nd) (f:Nat),1<=f->s.bad=0->kbX X s.i=(6,[e])::r->manyS X kid e f s ks=(s.skip X,ks)/\(s.skip X).i<X.T.length/\s.i<=(s.skip X).i/\kbX X ((s.skip X).i+1)=r:=by
  intro r s ks f hf hb h
  obtain ⟨h1,h2,h3⟩:=markKb hM h
  exact ⟨manyS_end hf (.inl h1),h2,(skip_fine X s).1,h3⟩
 intro ts l r h
 induction h with
 | nil r =>
   intro s ks f hb hi hk hf
   obtain ⟨h1,h2,h3,h4⟩:=hend r s ks f (by omega) hb hk
   rw [h1]
   exact ⟨[],by simp,hb,h2,h3,h4,.nil⟩
 | last ts a r h =>
   intro s ks f hb hi hk hf
   have hn:¬ ((s.skip X).mark X=e\/s.bad≠0):=fun g=>g.elim (not_mark hM he0 (by rw [hk];exact hhd _ _ _ h)) (fun g=>g hb)
   have hi2:=(skip_fine X s).2.1 hi
   have hlo:=(skip_fine X s).1
   obtain ⟨k1,k2,k3,k4,k5⟩:=hK ts a _ (s.skip X) h hb hi2 ((kb_skip X s).trans hk)
   obtain ⟨m1,m2,m3⟩:=markKb hM k2
   have hro:roundS X e ((kid (s.skip X)).1.skip X)=(kid (s.skip X)).1.skip X:=by
    unfold roundS
    rw [if_neg (by rw [m1];exact he44),if_pos m1]
   rw [manyS_go (by omega) hn,hro]
   have hlo2:=(skip_fine X (kid (s.skip X)).1).1
   have hk2:kbX X ((kid (s.skip X)).1.skip X).i=(6,[e])::r:=(kb_skip X _).trans k2
   obtain ⟨h1,h2,h3,h4⟩:=hend r ((kid (s.skip X)).1.skip X) (ks++[(kid (s.skip X)).2]) (f - 1) (by omega) k1 hk2
   rw [h1]
   exact ⟨[(kid (s.skip X)).2],rfl,k1,h2,by show s.i<=(((kid (s.skip X)).1.skip X).skip X).i;omega,h4,.cons _ _ _ _ k5 .nil⟩
 | more ts a ts' l r h hl ih =>
   intro s ks f hb hi hk hf
   have hn:¬ ((s.skip X).mark X=e\/s.bad≠0):=fun g=>g.elim (not_mark hM he0 (by rw [hk];exact hhd _ _ _ h)) (fun g=>g hb)
   have hi2:=(skip_fine X s).2.1 hi
   have hlo:=(skip_fine X s).1
   obtain ⟨k1,k2,k3,k4,k5⟩:=hK ts a _ (s.skip X) h hb hi2 ((kb_skip X s).trans hk)
   obtain ⟨m1,m2,m3⟩:=markKb hM k2
   have hro:roundS X e ((kid (s.skip X)).1.skip X)=((kid (s.skip X)).1.skip X).inc:=by
    unfold roundS
    rw [if_pos m1]
   have hlo2:=(skip_fine X (kid (s.skip X)).1).1
   rw [manyS_go (by omega) hn,hro]
   have hinc:((kid (s.skip X)).1.skip X).inc.i=((kid (s.skip X)).1.skip X).i+1:=rfl
   obtain ⟨new,g1,g2,g3,g4,g5,g6⟩:=ih ((kid (s.skip X)).1.skip X).inc (ks++[(kid (s.skip X)).2]) (f - 1) k1 (by omega) (by rw [hinc];exact m3) (by omega)
   exact ⟨(kid (s.skip X)).2::new,by rw [g1];simp,g2,g3,by omega,g5,.cons _ _ _ _ k5 g6⟩
theorem list_mean {f:Nd->Except Flt V}:∀ {new:List Nd} {l acc:List V},All2 (fun n v=>f n=.ok v) new l->listN f acc new=.ok (acc++l)
 | _,_,acc,.nil=>by rw [List.append_nil];rfl
 | _,_,acc,.cons a b l m h hl=>by
   rw [listN,h]
   show listN f (acc++[b]) l=_
   rw [list_mean hl];simp
def EntN (X:TS) (f:Nd->Except Flt V) (n:Nd) (a:ByteArray×V):Prop:=keyOf (X.kind (n.kids.getD 0 Nd.none).a) (X.bytes (n.kids.getD 0 Nd.none).a)=some a.1/\f (n.kids.getD 1 Nd.none)=.ok a.2
theorem table_mean {X:TS} {f:Nd->Except Flt V}:∀ {new:List Nd} {l acc:List (ByteArray×V)} {ks:List ByteArray},All2 (EntN X f) new l->(∀ k,k∈acc.map Prod.fst↔k∈ks)->Once ks l->tableN X f acc new=.ok (putAll acc l)
 | _,_,acc,ks,.nil,_,_=>rfl
 | _,_,acc,ks,.cons n a l m h hl,hks,ho=>by
   have hnot:¬ fidx a.1 acc<acc.length:=by rw [fidx_lt,hks];exact ho.1
   have hkey:keyN X (n.kids.getD 0 Nd.none).a acc=.ok a.1:=by
    unfold keyN
    rw [h.1]
    simp only []
    rw [if_neg hnot]
   rw [tableN,hkey]
   simp only []
   rw [h.2]
   simp only []
   exact table_mean hl (fun k=>by rw [put_keys,hks,List.mem_cons]) ho.2
theorem leaf_run {X:TS} {k:Int} {s:PS} {t:Kb} {r:List Kb} (h:kbX X s.i=t::r) (ht:t.1=4\/t.1=5):leafS X k s=((s.skip X).inc,.mk k (s.skip X).i ((s.skip X).i+1) [])/\kbX X ((s.skip X).i+1)=r/\(s.skip X).i<X.T.length/\X.kind (s.skip X).i=t.1/\X.bytes (s.skip X).i=t.2:=by
 rcases skip_kb X s with ⟨h1,h2⟩|⟨h1,h2,h3⟩
 ·rw [h2] at h;cases h
 ·rw [h3] at h
  obtain ⟨e1,e2⟩:=List.cons.inj h
  have ek:X.kind (s.skip X).i=t.1:=by rw [<-e1]
  have eb:X.bytes (s.skip X).i=t.2:=by rw [<-e1]
  refine ⟨?_,e2,h1,ek,eb⟩
  unfold leafS
  rw [if_pos]
  rw [ek]
  unfold isLeaf
  rcases ht with h|h<;>rw [h]<;>rfl
theorem mark_none {X:TS} {s:PS} (h:X.kind s.i≠6):s.mark X=0:=by unfold PS.mark;rw [if_neg h]
theorem entry_run {X:TS} (hM:MarkOk X) {K:List Kb->V->List Kb->Prop} {val:PS->PS×Nd} {f:Nd->Except Flt V}
 (hK:∀ ts a r (s:PS),K ts a r->s.bad=0->s.i<=X.T.length->kbX X s.i=ts->(val s).1.bad=0/\kbX X (val s).1.i=r/\(val s).1.i<=X.T.length/\s.i<(val s).1.i/\f (val s).2=.ok a)
 (ts:List Kb) (a:ByteArray×V) (r:List Kb) (s:PS) (h:EntK K ts a r) (hb:s.bad=0) (hi:s.i<=X.T.length) (hk:kbX X s.i=ts) :
 (entryS X val s).1.bad=0/\kbX X (entryS X val s).1.i=r/\(entryS X val s).1.i<=X.T.length/\s.i<(entryS X val s).1.i/\EntN X f (entryS X val s).2 a:=by
 obtain ⟨t,c,ts',rfl,h1,h2,h3,h4⟩:=h
 obtain ⟨l1,l2,l3,l4,l5⟩:=leaf_run (k:=2) hk h1
 have l2':kbX X (s.skip X).inc.i=(6,[c])::ts':=l2
 obtain ⟨m1,m2,m3⟩:=markKb hM l2'
 have hlo:=(skip_fine X s).1
 have hlo2:=(skip_fine X (s.skip X).inc).1
 have hinc:(s.skip X).inc.i=(s.skip X).i+1:=rfl
 have hcol:colonS X ((leafS X 2 s).1.skip X)=(s.skip X).inc.skip X:=by
  rw [l1]
  unfold colonS
  rw [if_neg]
  rintro ⟨-,g1,g2⟩
  simp only [m1] at g1 g2
  rcases h2 with rfl|rfl
  ·exact g1 rfl
  ·exact g2 rfl
 have hent:entryS X val s=((val ((s.skip X).inc.skip X).inc).1,.mk 4 (leafS X 2 s).2.a (val ((s.skip X).inc.skip X).inc).2.b [(leafS X 2 s).2,(val ((s.skip X).inc.skip X).inc).2]):=by
  unfold entryS
  rw [hcol,if_neg (fun g=>g hb)]
 have hinc2:((s.skip X).inc.skip X).inc.i=((s.skip X).inc.skip X).i+1:=rfl
 obtain ⟨k1,k2,k3,k4,k5⟩:=hK ts' a.2 r ((s.skip X).inc.skip X).inc h4 hb (by omega) m3
 rw [hent]
 refine ⟨k1,k2,k3,by simp only [];omega,?_,k5⟩
 show keyOf (X.kind (leafS X 2 s).2.a) (X.bytes (leafS X 2 s).2.a)=some a.1
 rw [l1]
 show keyOf (X.kind (s.skip X).i) (X.bytes (s.skip X).i)=some a.1
 rw [l4,l5]
 exact h3
theorem G_run {X:TS} (hM:MarkOk X) (hF:X.T.length+2<=X.F):∀ (d:Nat) (ts:List Kb) (v:V) (r:List Kb) (s:PS),G d ts v r->s.bad=0->s.i<=X.T.length->kbX X s.i=ts ->
 (valueS X d s).1.bad=0/\kbX X (valueS X d s).1.i=r/\(valueS X d s).1.i<=X.T.length/\s.i<(valueS X d s).1.i/\meanN X (d+1) (valueS X d s).2=.ok v
 | 0,ts,v,r,s,h,_,_,_=>h.elim
 | d+1,ts,v,r,s,h,hb,hi,hk=>by
   have hlo:=(skip_fine X s).1
   rcases h with ⟨t,rfl,h1,h2⟩|⟨ts',l,rfl,h1,rfl⟩|⟨ts',l,rfl,h1,h2,rfl⟩
   ·obtain ⟨l1,l2,l3,l4,l5⟩:=leaf_run (k:=1) hk h1
    have k6:X.kind (s.skip X).i≠6:=by rw [l4];omega
    have hss:=skip_skip X s
    have l6:leafS X 1 (s.skip X)=((s.skip X).inc,.mk 1 (s.skip X).i ((s.skip X).i+1) []):=by
     have:=leaf_run (X:=X) (k:=1) (s:=s.skip X) (t:=t) (r:=r) ((kb_skip X s).trans hk) h1
     rw [hss] at this
     exact this.1
    have e:valueS X (d+1) s=leafS X 1 (s.skip X):=by
     rw [valueS,if_neg (by rw [mark_none k6];decide),if_neg (by rw [mark_none k6];decide)]
    rw [e,l6]
    refine ⟨hb,l2,l3,by show s.i<(s.skip X).i+1;omega,?_⟩
    unfold meanN
    rw [if_neg (show ¬ (Nd.mk 1 (s.skip X).i ((s.skip X).i+1) []).k=5 by show ¬ (1:Int)=5;decide),if_neg (show ¬ (Nd.mk 1 (s.skip X).i ((s.skip X).i+1) []).k=3 by show ¬ (1:Int)=3;decide)]
    unfold leafN
    show (match leafOf (X.kind (s.skip X).i) (X.bytes (s.skip X).i) with|some v=>Except.ok v|none=>.error (X.pos (s.skip X).i,false))=_
    rw [l4,l5,h2]
   ·obtain ⟨m1,m2,m3⟩:=markKb hM hk
    have e:valueS X (d+1) s=manyN X 5 93 (valueS X d) (s.skip X):=by
     rw [valueS,if_neg (by rw [m1];decide),if_pos m1]
    have hinc:(s.skip X).inc.i=(s.skip X).i+1:=rfl
    obtain ⟨new,g1,g2,g3,g4,g5,g6⟩:=items_run (kid:=valueS X d) (Mn:=fun n v=>meanN X (d+1) n=.ok v) hM (.inl rfl) (fun ts a r h=>G_head h 93 (.inl rfl)) (fun ts a r s h hb hi hk=>G_run hM hF d ts a r s h hb hi hk) ts' l r h1 (s.skip X).inc [] X.F hb (by omega) m3 (by omega)
    rw [e]
    unfold manyN
    rw [g1,List.nil_append]
    refine ⟨g2,g5,g3,by show s.i<_+1;omega,?_⟩
    rw [meanN]
    rw [if_pos (show (Nd.mk 5 (s.skip X).i ((manyS X (valueS X d) 93 X.F (s.skip X).inc []).1.i+1) new).k=5 from rfl)]
    show (match listN (meanN X (d+1)) [] new with|.ok l=>Except.ok (listV l)|.error e=>.error e)=_
    rw [list_mean g6];rfl
   ·obtain ⟨m1,m2,m3⟩:=markKb hM hk
    have e:valueS X (d+1) s=manyN X 3 125 (entryS X (valueS X d)) (s.skip X):=by
     rw [valueS,if_pos m1]
    have hinc:(s.skip X).inc.i=(s.skip X).i+1:=rfl
    obtain ⟨new,g1,g2,g3,g4,g5,g6⟩:=items_run (kid:=entryS X (valueS X d)) (Mn:=EntN X (meanN X (d+1))) hM (.inr rfl) (fun ts a r h=>EntK_head h 125) (fun ts a r s h hb hi hk=>entry_run hM (fun ts a r s h hb hi hk=>G_run hM hF d ts a r s h hb hi hk) ts a r s h hb hi hk) ts' l r h1 (s.skip X).inc [] X.F hb (by omega) m3 (by omega)
    rw [e]
    unfold manyN
    rw [g1,List.nil_append]
    refine ⟨g2,g5,g3,by show s.i<_+1;omega,?_⟩
    rw [meanN]
    rw [if_neg (show ¬ (Nd.mk 3 (s.skip X).i ((manyS X (entryS X (valueS X d)) 125 X.F (s.skip X).inc []).1.i+1) new).k=5 by show ¬ (3:Int)=5;decide),if_pos (show (Nd.mk 3 (s.skip X).i ((manyS X (entryS X (valueS X d)) 125 X.F (s.skip X).inc []).1.i+1) new).k=3 from rfl)]
    show (match tableN X (meanN X (d+1)) [] new with|.ok l=>Except.ok (tableV l)|.error e=>.error e)=_
    rw [table_mean g6 (ks:=[]) (fun k=>by simp) h2]
theorem list_back {f:Nd->Except Flt V}:∀ {new:List Nd} {acc L:List V},listN f acc new=.ok L->∃ l,L=acc++l/\All2 (fun n v=>f n=.ok v) new l
 | [],acc,L,h=>⟨[],by rw [List.append_nil];exact (Except.ok.inj h).symm,.nil⟩
 | n::new,acc,L,h=>by
   rw [listN] at h
   cases hf:f n with
   | error e=>rw [hf] at h;cases h
   | ok v =>
     rw [hf] at h
     obtain ⟨l,h1,h2⟩:=list_back (acc:=acc++[v]) h
     exact ⟨v::l,by rw [h1];simp,.cons _ _ _ _ hf h2⟩
theorem table_back {X:TS} {f:Nd->Except Flt V}:∀ {new:List Nd} {acc L:List (ByteArray×V)} {ks:List ByteArray},(∀ k,k∈acc.map Prod.fst↔k∈ks)->tableN X f acc new=.ok L->∃ l,L=putAll acc l/\All2 (EntN X f) new l/\Once ks l
 | [],acc,L,ks,_,h=>⟨[],(Except.ok.inj h).symm,.nil,trivial⟩
 | n::new,acc,L,ks,hks,h=>by
   rw [tableN] at h
   cases hk:keyN X (n.kids.getD 0 Nd.none).a acc with
   | error e=>rw [hk] at h;cases h
   | ok s =>
     rw [hk] at h
     simp only [] at h
     cases hf:f (n.kids.getD 1 Nd.none) with
     | error e=>rw [hf] at h;cases h
     | ok v =>
       rw [hf] at h
       simp only [] at h
       unfold keyN at hk
       cases hko:keyOf (X.kind (n.kids.getD 0 Nd.none).a) (X.bytes (n.kids.getD 0 Nd.none).a) with
       | none=>rw [hko] at hk;cases hk
       | some s' =>
         rw [hko] at hk
         simp only [] at hk
         by_cases hx:fidx s' acc<acc.length
         ·rw [if_pos hx] at hk;cases hk
         rw [if_neg hx] at hk
         obtain rfl:s'=s:=Except.ok.inj hk
         obtain ⟨l,h1,h2,h3⟩:=table_back (acc:=putL acc s' v) (ks:=s'::ks) (fun k=>by rw [put_keys,hks,List.mem_cons]) h
         refine ⟨(s',v)::l,h1,.cons _ _ _ _ ⟨hko,hf⟩ h2,?_,h3⟩
         rw [fidx_lt,hks] at hx
         exact hx
theorem all2_inv {α β:Type} {R:α->β->Prop} {a:α} {l:List α} {m:List β} (h:All2 R (a::l) m):∃ b m',m=b::m'/\R a b/\All2 R l m':=by
 cases h with
 | cons _ b _ m' h hl=>exact ⟨b,m',rfl,h,hl⟩
theorem all2_nil {α β:Type} {R:α->β->Prop} {m:List β} (h:All2 R [] m):m=[]:=by cases h;rfl
theorem run_items {α:Type} {X:TS} (hM:MarkOk X) {K:List Kb->α->List Kb->Prop} {kid:PS->PS×Nd} {Mn:Nd->α->Prop} {e:UInt8} (he:e=93\/e=125) (hs:Stays fun s=>(kid s).1)
 (hK:∀ (s:PS) (a:α),s.i<=X.T.length->(kid s).1.bad=0->Mn (kid s).2 a->K (kbX X s.i) a (kbX X (kid s).1.i)) (hle:∀ s:PS,s.i<=X.T.length->(kid s).1.bad=0->(kid s).1.i<=X.T.length) :
 ∀ (f:Nat) (s:PS) (ks:List Nd),(manyS X kid e f s ks).1.bad=0->s.i<=X.T.length->∃ new,(manyS X kid e f s ks).2=ks++new/\∀ l,All2 Mn new l->Items K e (kbX X s.i) l (kbX X ((manyS X kid e f s ks).1.i+1))
 | 0,s,ks,hb,hi=>(fail_not (X:=X) (e:=4) (by decide) hb).elim
 | f+1,s,ks,hb,hi=>by
   have he0:e≠0:=by rcases he with rfl|rfl<;>decide
   have hs0:s.bad=0:=good_of (f:=fun u=>(manyS X kid e (f+1) u ks).1) (fun u hu=>many_stays X kid e (f+1) u ks hu) hb
   by_cases hm:(s.skip X).mark X=e
   ·have e1:manyS X kid e (f+1) s ks=(s.skip X,ks):=by rw [manyS,if_pos (.inl hm)]
    rw [e1]
    refine ⟨[],by simp,fun l hl=>?_⟩
    rw [all2_nil hl,of_mark hM he0 hm]
    exact .nil _
   ·have hn:¬ ((s.skip X).mark X=e\/s.bad≠0):=fun h=>h.elim hm (fun h=>h hs0)
    have hgo:=manyS_go (kid:=kid) (ks:=ks) (Nat.succ_le_succ (Nat.zero_le f)) hn
    rw [hgo] at hb ⊢
    rw [show f+1 - 1=f from rfl] at hb ⊢
    have hr0:(roundS X e ((kid (s.skip X)).1.skip X)).bad=0:=good_of (f:=fun u=>(manyS X kid e f u (ks++[(kid (s.skip X)).2])).1) (fun u hu=>many_stays X kid e f u _ hu) hb
    have hkb:(kid (s.skip X)).1.bad=0:=by
     unfold roundS at hr0
     split at hr0
     ·exact hr0
     ·split at hr0
      ·exact hr0
      ·exact (fail_not (by decide) hr0).elim
    have hi2:=(skip_fine X s).2.1 hi
    have hkl:=hle _ hi2 hkb
    by_cases h44:((kid (s.skip X)).1.skip X).mark X=44
    ·have hro:roundS X e ((kid (s.skip X)).1.skip X)=((kid (s.skip X)).1.skip X).inc:=by unfold roundS;rw [if_pos h44]
     rw [hro] at hb ⊢
     have h44l:=mark_lt h44 (by decide)
     obtain ⟨new,h1,h2⟩:=run_items hM he hs hK hle f ((kid (s.skip X)).1.skip X).inc (ks++[(kid (s.skip X)).2]) hb h44l
     refine ⟨(kid (s.skip X)).2::new,by rw [h1];simp,fun l hl=>?_⟩
     obtain ⟨a,m,rfl,ha,hm2⟩:=all2_inv hl
     have hka:=hK (s.skip X) a hi2 hkb ha
     rw [kb_skip,of_mark hM (by decide) h44] at hka
     exact .more _ a _ m _ hka (h2 m hm2)
    ·have h5:((kid (s.skip X)).1.skip X).mark X=e:=by
      unfold roundS at hr0
      rw [if_neg h44] at hr0
      split at hr0
      ·rename_i h5;exact h5
      ·exact (fail_not (by decide) hr0).elim
     have hro:roundS X e ((kid (s.skip X)).1.skip X)=(kid (s.skip X)).1.skip X:=by unfold roundS;rw [if_neg h44,if_pos h5]
     rw [hro] at hb ⊢
     have h5l:=mark_lt h5 he0
     have hss:=skip_skip X (kid (s.skip X)).1
     have hend:∀ g,manyS X kid e (g+1) ((kid (s.skip X)).1.skip X) (ks++[(kid (s.skip X)).2])=((kid (s.skip X)).1.skip X,ks++[(kid (s.skip X)).2]):=fun g=>by
      rw [manyS,if_pos (.inl (by rw [hss];exact h5)),hss]
     cases f with
     | zero=>exact (fail_not (X:=X) (e:=4) (by decide) hb).elim
     | succ g =>
       rw [hend g]
       refine ⟨[(kid (s.skip X)).2],rfl,fun l hl=>?_⟩
       obtain ⟨a,m,rfl,ha,hm2⟩:=all2_inv hl
       rw [all2_nil hm2]
       have hka:=hK (s.skip X) a hi2 hkb ha
       rw [kb_skip,of_mark hM he0 h5] at hka
       exact .last _ a _ hka
theorem leafS_kb {X:TS} {k:Int} {s:PS} (hb:(leafS X k s).1.bad=0):(leafS X k s).1.i=(s.skip X).i+1/\∃ t:Kb,(t.1=4\/t.1=5)/\t.1=X.kind (s.skip X).i/\t.2=X.bytes (s.skip X).i/\kbX X s.i=t::kbX X ((s.skip X).i+1):=by
 have hl:=(leaf_row hb).2
 unfold leafS at hb ⊢
 split at hb
 ·rename_i h3
  rw [if_pos h3]
  refine ⟨rfl,(X.kind (s.skip X).i,X.bytes (s.skip X).i),?_,rfl,rfl,?_⟩
  ·unfold isLeaf at h3
   simp only [Bool.or_eq_true,decide_eq_true_eq] at h3
   exact h3
  ·rcases skip_kb X s with ⟨h1,-⟩|⟨-,-,h⟩
   ·omega
   ·exact h
 ·exact (fail_not (by decide) hb).elim
theorem run_entry {X:TS} (hM:MarkOk X) {K:List Kb->V->List Kb->Prop} {val:PS->PS×Nd} {f:Nd->Except Flt V} (hK:∀ (s:PS) (a:V),s.i<=X.T.length->(val s).1.bad=0->f (val s).2=.ok a->K (kbX X s.i) a (kbX X (val s).1.i))
 (s:PS) (a:ByteArray×V) (hi:s.i<=X.T.length) (hb:(entryS X val s).1.bad=0) (ha:EntN X f (entryS X val s).2 a):EntK K (kbX X s.i) a (kbX X (entryS X val s).1.i):=by
 unfold entryS at hb ha ⊢
 split at hb
 ·rename_i h1;exact absurd hb h1
 ·rename_i h1
  rw [if_neg h1] at ha ⊢
  have hcb:(colonS X ((leafS X 2 s).1.skip X)).bad=0:=by
   by_cases h0:(colonS X ((leafS X 2 s).1.skip X)).bad=0
   ·exact h0
   ·exact absurd h0 h1
  obtain ⟨c1,c2,c3,c4⟩:=colon_good hcb
  have hlf:=leaf_row (k:=2) (s:=s) c2
  obtain ⟨k1,t,k2,k3,k4,k5⟩:=leafS_kb (k:=2) (s:=s) c2
  have hm:((leafS X 2 s).1.skip X).mark X=58\/((leafS X 2 s).1.skip X).mark X=61:=by
   by_cases h58:((leafS X 2 s).1.skip X).mark X=58
   ·exact .inl h58
   ·by_cases h61:((leafS X 2 s).1.skip X).mark X=61
    ·exact .inr h61
    ·unfold colonS at hcb
     rw [if_pos ⟨c2,h58,h61⟩] at hcb
     exact (fail_not (by decide) hcb).elim
  rw [c1] at hb ha ⊢
  obtain ⟨a1,a2⟩:=ha
  have hv:=hK ((leafS X 2 s).1.skip X).inc a.2 c4 hb a2
  have a1':keyOf (X.kind (leafS X 2 s).2.a) (X.bytes (leafS X 2 s).2.a)=some a.1:=a1
  rw [hlf.1] at a1'
  have a1'':keyOf (X.kind (s.skip X).i) (X.bytes (s.skip X).i)=some a.1:=a1'
  rw [<-k3,<-k4] at a1''
  rw [<-k1] at k5
  have hmk:∀ c:UInt8,c≠0->((leafS X 2 s).1.skip X).mark X=c->kbX X s.i=t::(6,[c])::kbX X ((leafS X 2 s).1.skip X).inc.i:=fun c hc h=>by
   rw [k5,of_mark hM hc h];rfl
  rcases hm with hm|hm
  ·exact ⟨t,58,_,hmk 58 (by decide) hm,k2,.inl rfl,a1'',hv⟩
  ·exact ⟨t,61,_,hmk 61 (by decide) hm,k2,.inr rfl,a1'',hv⟩
theorem run_G {X:TS} (hM:MarkOk X):∀ (d:Nat) (s:PS) (v:V),s.i<=X.T.length->(valueS X d s).1.bad=0->meanN X (d+1) (valueS X d s).2=.ok v->G d (kbX X s.i) v (kbX X (valueS X d s).1.i):=by
 have hleaf:∀ (d e:Nat) (s:PS) (v:V),(leafS X 1 (s.skip X)).1.bad=0->meanN X (e+1) (leafS X 1 (s.skip X)).2=.ok v->G (d+1) (kbX X s.i) v (kbX X (leafS X 1 (s.skip X)).1.i):=by
  intro d e s v hb hm
  have hlf:=leaf_row hb
  obtain ⟨k1,t,k2,k3,k4,k5⟩:=leafS_kb hb
  rw [hlf.1] at hm
  unfold meanN at hm
  rw [if_neg (by show ¬ (1:Int)=5;decide),if_neg (by show ¬ (1:Int)=3;decide)] at hm
  have hm':leafN X ((s.skip X).skip X).i=.ok v:=hm
  unfold leafN at hm'
  rw [<-k3,<-k4] at hm'
  refine .inl ⟨t,by rw [k1,<-k5,kb_skip],k2,?_⟩
  cases hl:leafOf t.1 t.2 with
  | none=>rw [hl] at hm';cases hm'
  | some v'=>rw [hl] at hm';rw [Except.ok.inj hm']
 intro d
 induction d with
 | zero =>
   intro s v hi hb hm
   unfold valueS at hb hm ⊢
   split at hb
   ·exact (fail_not (by decide) hb).elim
   ·rename_i h
    exfalso
    have h4:=(leaf_row hb).2
    have h5:=(skip_fine X (s.skip X)).1
    have h6:=skip_skip X s
    unfold leafS at hb
    split at hb
    ·rename_i h3
     rw [h6] at h3
     exact h (by unfold PS.begins;rw [h3];simp)
    ·exact fail_not (by decide) hb
 | succ d ih =>
   intro s v hi hb hm
   have hi2:=(skip_fine X s).2.1 hi
   unfold valueS at hb hm ⊢
   split at hb
   ·rename_i h
    rw [if_pos h] at hm ⊢
    have hin:=mark_lt h (by decide)
    unfold manyN at hb hm ⊢
    obtain ⟨new,h1,h2⟩:=run_items (K:=EntK (G d)) (Mn:=EntN X (meanN X (d+1))) hM (.inr rfl) (entry_stays X (valueS X d)) (fun u a hu hub hua=>run_entry hM (fun s a hs hb hm=>ih s a hs hb hm) u a hu hub hua)
     (fun u hu hub=>(entry_cov (value_cov X d) (value_stays X d) u hub hu).le) X.F (s.skip X).inc [] hb hin
    rw [List.nil_append] at h1
    rw [h1] at hm
    unfold meanN at hm
    rw [if_neg (by show ¬ (3:Int)=5;decide),if_pos (by rfl)] at hm
    have hm':(match tableN X (meanN X (d+1)) [] new with|.ok l=>Except.ok (tableV l)|.error e=>.error e)=Except.ok v:=hm
    cases ht:tableN X (meanN X (d+1)) [] new with
    | error e=>rw [ht] at hm';cases hm'
    | ok L =>
      rw [ht] at hm'
      obtain ⟨l,rfl,g1,g2⟩:=table_back (ks:=[]) (fun k=>by simp) ht
      exact .inr (.inr ⟨kbX X (s.skip X).inc.i,l,of_mark hM (by decide) h,h2 l g1,g2,(Except.ok.inj hm').symm⟩)
   ·rename_i h
    rw [if_neg h] at hm ⊢
    split at hb
    ·rename_i h3
     rw [if_pos h3] at hm ⊢
     have hin:=mark_lt h3 (by decide)
     unfold manyN at hb hm ⊢
     obtain ⟨new,h1,h2⟩:=run_items (K:=G d) (Mn:=fun n v=>meanN X (d+1) n=.ok v) hM (.inl rfl) (value_stays X d) (fun u a hu hub hua=>ih u a hu hub hua)
      (fun u hu hub=>(value_cov X d u hub hu).le) X.F (s.skip X).inc [] hb hin
     rw [List.nil_append] at h1
     rw [h1] at hm
     unfold meanN at hm
     rw [if_pos (by rfl)] at hm
     have hm':(match listN (meanN X (d+1)) [] new with|.ok l=>Except.ok (listV l)|.error e=>.error e)=Except.ok v:=hm
     cases ht:listN (meanN X (d+1)) [] new with
     | error e=>rw [ht] at hm';cases hm'
     | ok L =>
       rw [ht] at hm'
       obtain ⟨l,hL,g1⟩:=list_back ht
       exact .inr (.inl ⟨kbX X (s.skip X).inc.i,l,of_mark hM (by decide) h3,h2 l g1,by rw [<-Except.ok.inj hm',hL];rfl⟩)
    ·rename_i h3
     rw [if_neg h3] at hm ⊢
     exact hleaf d (d+1) s v hb hm
def ReadPost (r:Int×Int) (w:World) (e:Ending) (w':World):Prop:=e=.returned (.tuple #[.int .i64 r.1,.int .i64 r.2])/\Below w.heap.size w w'
theorem baseOf_le (l:List UInt8):(baseOf l).1<=16/\2<=(baseOf l).1/\(baseOf l).2.length<=l.length:=by
 have h:∀ p,(Lib.trimPrefix l p).length<=l.length:=by
  intro p
  unfold Lib.trimPrefix
  split
  ·simp
  ·exact Nat.le_refl _
 unfold baseOf
 split
 ·exact ⟨by simp,by simp,h _⟩
 ·split
  ·exact ⟨by simp,by simp,h _⟩
  ·split
   ·exact ⟨by simp,by simp,h _⟩
   ·exact ⟨by simp,by simp,Nat.le_refl _⟩
theorem byte0 (R:ByteArray) (h:0<R.size):R[0]'h=R.data.toList.getD 0 0:=by
 have h2:0<R.data.size:=h
 show R.data[0]=_
 simp [List.getD,Array.getElem?_eq_getElem h2]
theorem ints_drop (R:ByteArray) (r:List UInt8) (hr:R.data.toList=r) (k:Nat) (hk:k<R.data.size):(intsNm r).drop k=((R.data[k].toNat:Nat):Int)::(intsNm r).drop (k+1):=by
 subst hr
 unfold intsNm
 rw [List.drop_eq_getElem_cons (by simpa using hk)]
 simp
theorem add64_run (x y:Int) (hx:0<=x) (hy:0<=y) (w:World) :
 (callFunc 123 #[.int .u64 x,.int .u64 y,.int .u64 0]).run Tryz.prog w =
   .ok (.value (.tuple #[.int .u64 ((x+y+0) % 18446744073709551616),.int .u64 ((x+y+0) / 18446744073709551616)])) w:=by
 rw [run_callFunc_extern Tryz.func123 (by kernel_rfl) (by kernel_rfl) (by kernel_rfl) (e:=add64Entry) (by kernel_rfl),run_add64 x y 0 hx hy (by omega) (by omega)]
 rfl
set_option maxRecDepth 4000 in
set_option maxHeartbeats 4000000 in
theorem read_any (s:ByteArray) (w:World):Calls Tryz.prog 102 #[.string s] w (ReadPost (readOf s.data.toList) w):=by
 by_cases h80:80<s.size
 ·have e:readOf s.data.toList=(0,2):=by unfold readOf;rw [if_pos (by rw [<-Lib.size_eq];exact h80)]
  have E:=Lib.hid e
  clear e
  go_enter Tryz.func102,Tryz.ntmps102
  go_wp2
  go_ret2
  exact ⟨by rw [E.out];rfl,Below.refl _ _⟩
 have h1:=Tryz.strings_CutPrefix s ⟨#[45]⟩ w
 obtain ⟨l,hl⟩:∃ l,l=s.data.toList:=⟨_,rfl⟩
 rw [<-hl] at h1 ⊢
 have hll:l.length<=80:=by rw [hl,<-Lib.size_eq];omega
 have htl:(Lib.trimPrefix l [45]).length<=l.length:=by
  unfold Lib.trimPrefix
  split
  ·simp
  ·exact Nat.le_refl _
 have e:readOf l=readBy (Lib.hasPrefix l [45]) (baseOf (Lib.trimPrefix l [45])).1 (baseOf (Lib.trimPrefix l [45])).2:=by
  unfold readOf;rw [if_neg (by omega)]
 obtain ⟨b16,b2,brl⟩:=baseOf_le (Lib.trimPrefix l [45])
 have hbase:=fun w=>base_any ⟨(Lib.trimPrefix l [45]).toArray⟩ w
 simp only [List.toList_toArray] at hbase
 obtain ⟨mi,hmi⟩:∃ m,m=Lib.hasPrefix l [45]:=⟨_,rfl⟩
 obtain ⟨R0,hR0⟩:∃ R:ByteArray,R=⟨(Lib.trimPrefix l [45]).toArray⟩:=⟨_,rfl⟩
 obtain ⟨b,hb⟩:∃ b,b=(baseOf (Lib.trimPrefix l [45])).1:=⟨_,rfl⟩
 obtain ⟨r,hr⟩:∃ r,r=(baseOf (Lib.trimPrefix l [45])).2:=⟨_,rfl⟩
 have h1':Calls Tryz.prog 119 #[.string s,.string ⟨#[45]⟩] w fun e w'=>e=.returned (.tuple #[.string R0,.bool mi])/\w'=w:=by
  rw [hR0,hmi];exact h1
 have hbase':∀ w,Calls Tryz.prog 120 #[.string R0] w fun e w'=>e=.returned (.tuple #[.int .u64 (b:Nat),.string ⟨r.toArray⟩])/\Below w.heap.size w w':=by
  intro w
  have:=hbase w
  unfold BasePost at this
  rw [<-hR0,<-hb,<-hr] at this
  exact this
 rw [<-hmi,<-hb,<-hr] at e
 rw [<-hb] at b16 b2
 rw [<-hr] at brl
 have hrl:r.length<=80:=by omega
 have E:=Lib.hid e
 have H1:=Lib.hid h1'
 have HB:=Lib.hid hbase'
 clear h1 hbase h1' hbase' e hmi hR0 hb hr htl brl hll hl
 obtain ⟨R,hR⟩:∃ R:ByteArray,R=⟨r.toArray⟩:=⟨_,rfl⟩
 have hRl:R.data.toList=r:=by rw [hR]
 have hRs:R.size=r.length:=by rw [Lib.size_eq,hRl]
 rw [<-hR] at HB
 have hR80:R.size<=80:=by omega
 have HRL:=Lib.hid hRl
 have HRS:=Lib.hid hRs
 clear hRl hRs hR hrl
 rw [E.out]
 go_enter Tryz.func102,Tryz.ntmps102
 go_wp2_with fail
 refine H1.out.mono ?_
 rintro e w' ⟨rfl,rfl⟩
 go_wp2_with fail
 refine (HB.out w').mono ?_
 rintro e w1 ⟨rfl,hb1⟩
 by_cases hz:b=10/\1<r.length/\r.getD 0 0=48
 ·have e2:readBy mi b r=(0,4):=by unfold readBy;rw [if_pos hz]
  obtain ⟨rfl,z1,z2⟩:=hz
  have hpos:0<R.size:=by have:=HRS.out;omega
  have z3:(1:Int)<(R.size:Int):=by have:=HRS.out;omega
  have z4:(((R[0]'hpos).toNat:Int)==48)=true:=by
   rw [byte0 R hpos,HRL.out,z2];rfl
  have E2:=Lib.hid e2
  clear e2 z1 z2
  go_wp2_with fail
  go_ret2
  exact ⟨by rw [E2.out];rfl,hb1⟩
 ·have e2:readBy mi b r=readEnd mi (numLoop b (intsNm r) 95 0 0):=by unfold readBy;rw [if_neg hz]
  obtain ⟨Q,hQ⟩:∃ Q,Q=numLoop b (intsNm r) 95 0 0:=⟨_,rfl⟩
  rw [<-hQ] at e2
  have HQ:=Lib.hid hQ
  have E2:=Lib.hid e2
  obtain ⟨cap,w2,hconv,-,-,hg,hC⟩:=Gx.conv_bytes_run (P:=Tryz.prog) w1 9 72 5 R Tryz.underlying9 Tryz.underlying72 Tryz.underlying5
  have hb2:Below w'.heap.size w' w2:=hb1.grown hg hb1.size (by simp)
  have HC:=Lib.hid hC
  have hcase:(b=10/\∃ h:1<R.size,(((R[0]'(by omega)).toNat:Int)==48)=false)\/(b=10/\¬ (1<R.size))\/¬ (b=10):=by
   by_cases c1:b=10
   ·by_cases c2:1<R.size
    ·left
     refine ⟨c1,c2,?_⟩
     rw [byte0 R (by omega),HRL.out]
     cases c3:((((r.getD 0 0).toNat:Nat):Int)==48) with
     | false=>rfl
     | true =>
       exfalso
       refine hz ⟨c1,by rw [<-HRS.out];exact c2,?_⟩
       apply UInt8.toNat_inj.1
       have c4:(((r.getD 0 0).toNat:Nat):Int)=48:=by simpa using c3
       show (r.getD 0 0).toNat=48
       omega
    ·exact .inr (.inl ⟨c1,c2⟩)
   ·exact .inr (.inr c1)
  clear e2 hz hQ hg hC hb1
  have hcase2:(∃ h:1<R.size,((b:Int)==10)=true/\(((R[0]'(by omega)).toNat:Int)==48)=false)\/(((b:Int)==10)=true/\¬ (1<R.size))\/((b:Int)==10)=false:=by
   rcases hcase with ⟨c1,z1,z2⟩|⟨c1,z1⟩|z1
   ·exact .inl ⟨z1,by rw [c1];rfl,z2⟩
   ·exact .inr (.inl ⟨by rw [c1];rfl,z1⟩)
   ·exact .inr (.inr (by simp;omega))
  clear hcase
  rcases hcase2 with ⟨z1,z2,z3⟩|⟨z1,z2⟩|z1
  all_goals
   go_wp2_with fail
   clear hconv
   go_loop [7,8,9,45] (fun nv ov yv iv=>∃ (k n:Nat) (o y:Int),nv=.int .u64 n/\ov=.int .u64 o/\yv=.int .u8 y/\iv=.int .i64 k/\k<=R.size/\n<18446744073709551616/\0<=y/\y<256/\Hid (numLoop b ((intsNm r).drop k) y n o=Q))
    (fun _ _ _ iv=>R.size - (intOf iv).toNat)
   case atStart=>exact ⟨0,0,0,95,rfl,rfl,rfl,rfl,Nat.zero_le _,by decide,by decide,by decide,by rw [List.drop_zero];exact HQ.out.symm⟩
   case round =>
    obtain ⟨k,n,o,y,rfl,rfl,rfl,rfl,hk,hn,hy0,hy1,hq⟩:=hrel
    by_cases hkl:k<R.size
    ·have hkd:k<R.data.size:=hkl
     have hcell:=HC.out k hkd
     have hkr:k<(intsNm r).length:=by unfold intsNm;rw [List.length_map,<-HRS.out];exact hkl
     have hdrop:=ints_drop R r HRL.out k hkd
     have hxlt:=UInt8.toNat_lt (R.data[k])
     obtain ⟨x,hx⟩:∃ x:Nat,x=R.data[k].toNat:=⟨_,rfl⟩
     rw [<-hx] at hcell hdrop hxlt
     have hst:=hq.out
     rw [hdrop,numLoop] at hst
     clear hdrop hx hkr
     have HD:=Lib.hid (fun w=>digit_any (x:Int) w (by omega) (by omega))
     unfold DigitPost at HD
     have hdl:=digitOf_le (x:Int)
     obtain ⟨d,hd⟩:∃ d,d=digitOf (x:Int):=⟨_,rfl⟩
     rw [<-hd] at HD hst hdl
     clear hd
     obtain ⟨hd0,hd99⟩:=hdl
     by_cases hx95:x=95
     ·subst hx95
      by_cases hy95:y=95
      ·subst hy95
       have hQ:Q=none:=by rw [<-hst];rfl
       have HQQ:=Lib.hid hQ
       clear hst hQ
       go_wp2_with fail
       go_ret2
       exact ⟨by rw [E2.out,HQQ.out];rfl,hb2⟩
      ·have hq2:Hid (numLoop b ((intsNm r).drop (k+1)) 95 n o=Q):=by
        show _=_
        rw [<-hst,if_pos (show ((95:Nat):Int)=95 from rfl),if_neg hy95]
       have hyb:(y==95)=false:=by simpa using hy95
       clear hst
       go_wp2_with fail
       go_round
       case rel=>exact ⟨k+1,n,o,95,rfl,rfl,rfl,by go_num,hkl,hn,by decide,by decide,hq2⟩
       case measure=>simp [intOf];omega
     ·have hxb:((x:Int)==95)=false:=by simp;omega
      rw [if_neg (show ¬ ((x:Int)=95) by omega)] at hst
      by_cases hdb:(b:Int)<=d
      ·have hQ:Q=none:=by rw [<-hst,if_pos hdb]
       have HQQ:=Lib.hid hQ
       have hdbd:decide ((b:Int)<=d)=true:=decide_eq_true hdb
       clear hst hQ
       go_wp2_with fail
       refine (HD.out _).mono ?_
       rintro e v1 ⟨rfl,rfl⟩
       go_wp2_with fail
       go_ret2
       exact ⟨by rw [E2.out,HQQ.out];rfl,hb2⟩
      ·have hdbd:decide ((b:Int)<=d)=false:=decide_eq_false hdb
       rw [if_neg hdb] at hst
       have hst2:numLoop b ((intsNm r).drop (k+1)) x (numStep b n o d).1 (numStep b n o d).2=Q:=hst
       have hnl:=numStep_lt b n o d
       unfold numStep at hst2 hnl
       have hm:=fun w=>Tryz.bits_Mul64 n b hn (by omega) w
       obtain ⟨lo,hlo⟩:∃ lo,lo=n * b % 18446744073709551616:=⟨_,rfl⟩
       obtain ⟨hi,hhi⟩:∃ hi,hi=n * b / 18446744073709551616:=⟨_,rfl⟩
       simp only [<-hlo,<-hhi] at hm hst2 hnl
       have hadd:=add64_run (lo:Int) d (by omega) hd0
       obtain ⟨S,hS⟩:∃ S:Nat,(S:Int)=((lo:Int)+d+0) % 18446744073709551616:=⟨(((lo:Int)+d+0) % 18446744073709551616).toNat,by omega⟩
       obtain ⟨cy,hcy⟩:∃ cy,cy=((lo:Int)+d+0) / 18446744073709551616:=⟨_,rfl⟩
       rw [<-hS,Int.toNat_natCast] at hst2 hnl
       rw [<-hcy] at hst2
       rw [<-hS,<-hcy] at hadd
       have HM:=Lib.hid hm
       have HST:=Lib.hid hst2
       have hAdd:=hadd
       clear hlo hhi hm hst2 hadd hS hcy
       clear hst
       go_wp2_with fail
       refine (HD.out _).mono ?_
       rintro e v1 ⟨rfl,rfl⟩
       go_wp2_with fail
       refine (HM.out _).mono ?_
       rintro e v1 ⟨rfl,rfl⟩
       go_wp2_with fail
       refine (HD.out _).mono ?_
       rintro e v1 ⟨rfl,rfl⟩
       go_wp2_with fail
       go_round
       case rel=>exact ⟨k+1,S,_,x,rfl,rfl,rfl,by go_num,hkl,hnl,by omega,by omega,HST⟩
       case measure=>simp [intOf];omega
    ·have hk2:k=R.size:=by omega
     have hnil:(intsNm r).drop k=[]:=by
      refine List.drop_eq_nil_of_le ?_
      unfold intsNm
      rw [List.length_map,<-HRS.out,hk2];exact Nat.le_refl _
     have hQ:=hq.out
     rw [hnil,numLoop] at hQ
     have HQQ:=Lib.hid hQ
     clear hnil hQ
     subst hk2
     by_cases hy95:y=95
     ·subst hy95
      have hE:readEnd mi Q=(0,4):=by rw [<-HQQ.out];rfl
      have HE:=Lib.hid hE
      clear hE
      cases mi with
      | true =>
        go_wp2_with fail
        go_ret2
        exact ⟨by rw [E2.out,HE.out];rfl,hb2⟩
      | false =>
        go_wp2_with fail
        go_ret2
        exact ⟨by rw [E2.out,HE.out];rfl,hb2⟩
     ·have hyb:(y==95)=false:=by simpa using hy95
      by_cases ho:0<o
      ·have hE:readEnd mi Q=(0,7):=by rw [<-HQQ.out];unfold readEnd;simp only;rw [if_neg hy95,if_pos (.inl ho)]
       have HE:=Lib.hid hE
       have hod:decide (0<o)=true:=decide_eq_true ho
       clear hE
       cases mi with
       | true =>
         go_wp2_with fail
         go_ret2
         exact ⟨by rw [E2.out,HE.out];rfl,hb2⟩
       | false =>
         go_wp2_with fail
         go_ret2
         exact ⟨by rw [E2.out,HE.out];rfl,hb2⟩
      ·have hod:decide (0<o)=false:=decide_eq_false ho
       cases mi with
       | true =>
         by_cases hlim:9223372036854775808<n
         ·have hE:readEnd true Q=(0,7):=by rw [<-HQQ.out];unfold readEnd;simp only;rw [if_neg hy95,if_pos (.inr hlim)]
          have HE:=Lib.hid hE
          have hld:decide ((9223372036854775808:Int)<(n:Int))=true:=decide_eq_true (by omega)
          clear hE
          go_wp2_with fail
          go_ret2
          exact ⟨by rw [E2.out,HE.out];rfl,hb2⟩
         ·have hE:readEnd true Q=(-(n:Int),0):=by
           rw [<-HQQ.out];unfold readEnd;simp only;rw [if_neg hy95,if_neg (by intro h;rcases h with h|h;exact ho h;exact hlim h)];rfl
          have HE:=Lib.hid hE
          have hld:decide ((9223372036854775808:Int)<(n:Int))=false:=decide_eq_false (by omega)
          have hcv:wrap64 (-wrap64 (n:Int))=-(n:Int):=by unfold wrap64;omega
          have HCV:=Lib.hid hcv
          clear hE hcv
          go_wp2_with fail
          go_ret2
          refine ⟨?_,hb2⟩
          rw [E2.out,HE.out]
          show Ending.returned (Value.tuple #[Value.int .i64 (wrap64 (-wrap64 (n:Int))),Value.int .i64 0])=_
          rw [HCV.out]
       | false =>
         by_cases hlim:9223372036854775807<n
         ·have hE:readEnd false Q=(0,7):=by rw [<-HQQ.out];unfold readEnd;simp only;rw [if_neg hy95,if_pos (.inr hlim)]
          have HE:=Lib.hid hE
          have hld:decide ((9223372036854775807:Int)<(n:Int))=true:=decide_eq_true (by omega)
          clear hE
          go_wp2_with fail
          go_ret2
          exact ⟨by rw [E2.out,HE.out];rfl,hb2⟩
         ·have hE:readEnd false Q=((n:Int),0):=by
           rw [<-HQQ.out];unfold readEnd;simp only;rw [if_neg hy95,if_neg (by intro h;rcases h with h|h;exact ho h;exact hlim h)];rfl
          have HE:=Lib.hid hE
          have hld:decide ((9223372036854775807:Int)<(n:Int))=false:=decide_eq_false (by omega)
          have hcv:IntKind.i64.wrap (n:Int)=(n:Int):=by rw [IntKind.wrap_i64];omega
          clear hE
          go_wp2_with fail
          go_ret2
          exact ⟨by rw [E2.out,HE.out];rfl,hb2⟩
set_option maxRecDepth 100000
def DigitsPost (l:List UInt8) (w:World) (e:Ending) (w':World):Prop :=
 ∃ a b:ByteArray,e=.returned (.tuple #[.string a,.string b])/\a.data.toList=l.takeWhile isDigit/\b.data.toList=l.dropWhile isDigit/\Below w.heap.size w w'
theorem tw_at (l:List UInt8) (k:Nat) (h:∀ b∈l.take k,isDigit b=true) (h2:∀ b,(l.drop k).head?=some b->isDigit b=false):l.takeWhile isDigit=l.take k/\l.dropWhile isDigit=l.drop k:=by
 have:=tw_split (l.take k) (l.drop k) h h2
 rwa [List.take_append_drop] at this
theorem digit_iff (b:UInt8):isDigit b=true↔48<=(b.toNat:Int)/\(b.toNat:Int)<=57:=by
 unfold isDigit
 simp only [Bool.and_eq_true,decide_eq_true_eq]
 omega
theorem digits_end (s:ByteArray) (k:Nat) (hk:k<=s.size) (h:∀ b∈s.data.toList.take k,isDigit b=true) (h2:∀ h:k<s.size,isDigit s[k]=false) (w w':World) (hb:Below w.heap.size w w') :
 DigitsPost s.data.toList w (.returned (.tuple #[.string (s.extract 0 k),.string (s.extract k s.size)])) w':=by
 have hd:∀ b,(s.data.toList.drop k).head?=some b->isDigit b=false:=by
  intro b hb
  rcases Nat.lt_or_ge k s.size with h3|h3
  ·have e:s.data.toList.drop k=s[k]::s.data.toList.drop (k+1):=by
    rw [List.drop_eq_getElem_cons (by rw [<-Lib.size_eq];exact h3)];rfl
   rw [e] at hb
   have:b=s[k]:=by simpa using hb.symm
   rw [this];exact h2 h3
  ·rw [List.drop_eq_nil_of_le (by rw [<-Lib.size_eq];exact h3)] at hb
   simp at hb
 obtain ⟨e1,e2⟩:=tw_at _ k h hd
 exact ⟨_,_,rfl,by rw [Lib.extract_data,e1,List.drop_zero,Nat.sub_zero],by rw [Lib.extract_to_end,e2],hb⟩
theorem digits_step (s:ByteArray) (k:Nat) (hk:k<s.size) (h:∀ b∈s.data.toList.take k,isDigit b=true) (h2:isDigit s[k]=true):∀ b∈s.data.toList.take (k+1),isDigit b=true:=by
 have e:s.data.toList.take (k+1)=s.data.toList.take k++[s[k]]:=by
  rw [List.take_succ_eq_append_getElem (by rw [<-Lib.size_eq];exact hk)];rfl
 rw [e]
 intro b hb
 rcases List.mem_append.1 hb with hb|hb
 ·exact h b hb
 ·rw [List.mem_singleton.1 hb];exact h2
set_option maxHeartbeats 1000000 in
theorem digits_any (s:ByteArray) (w:World) (hs:s.size<=1000):Calls Tryz.prog 142 #[.string s] w (DigitsPost s.data.toList w):=by
 have HE:=Lib.hid (fun k hk h h2 w' hb=>digits_end s k hk h h2 w w' hb)
 have HST:=Lib.hid (fun k hk h h2=>digits_step s k hk h h2)
 generalize DigitsPost s.data.toList w=POST at *
 go_enter Tryz.func142,Tryz.ntmps142
 go_wp2
 go_loop [4] (fun i=>∃ k:Nat,k<=s.size/\i=.int .i64 k/\Hid (∀ b∈s.data.toList.take k,isDigit b=true)) (fun i=>s.size - (intOf i).toNat)
 case atStart=>exact ⟨0,Nat.zero_le _,rfl,(by show ∀ b∈_,_;simp)⟩
 case round =>
  obtain ⟨k,hk,rfl,hd⟩:=hrel
  obtain ⟨k0,k1⟩:0<=(k:Int)/\(k:Int)<=(s.size:Int):=by omega
  by_cases hlt:k<s.size
  ·have hi:=digit_iff s[k]
   cases hc:isDigit s[k] with
   | true =>
     obtain ⟨h1,h2⟩:=hi.1 hc
     have HN:=Lib.hid (HST.out k hlt hd.out hc)
     clear hi hc hd
     go_wp2
     go_round
     case rel=>exact ⟨k+1,by omega,by go_num,HN⟩
     case measure=>simp [intOf];omega
   | false =>
     have hno:(s[k].toNat:Int)<48\/57<(s[k].toNat:Int):=by
      have:¬ (48<=(s[k].toNat:Int)/\(s[k].toNat:Int)<=57):=fun h=>by rw [hi.2 h] at hc;cases hc
      omega
     have HN:=Lib.hid (fun w' hb=>HE.out k hk hd.out (fun _=>hc) w' hb)
     clear hi hc hd
     rcases hno with h1|h1
     ·have h2:¬ 48<=(s[k].toNat:Int):=by omega
      go_wp2
      go_quiet (fail)
      go_wp2
      exact HN.out _ (Gx.drewN_below _ _ _)
     ·have h2:¬ (s[k].toNat:Int)<=57:=by omega
      have h3:48<=(s[k].toNat:Int):=by omega
      go_wp2
      go_quiet (fail)
      go_wp2
      exact HN.out _ (Gx.drewN_below _ _ _)
  ·have HN:=Lib.hid (fun w' hb=>HE.out k hk hd.out (fun h=>absurd h hlt) w' hb)
   clear hd
   go_wp2
   go_quiet (fail)
   go_wp2
   exact HN.out _ (Gx.drewN_below _ _ _)
end Go.Proofs.YtldhmfkojaekfaaGreatDoor
