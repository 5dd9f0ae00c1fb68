/-
  Lemmas for the statement: plain laws, and what functions answer; the conditions stand in each.
-/
import Derived.Lib.ItoaNum
import Derived.Lib.TrimByte
import Derived.Lib.Strings
import Derived.Shelf.Strings.BuilderRune
import Derived.Test.YtldhmfkojaekfaaGreatDoorProg
import Derived.WalkLawsBesides
import Derived.Deep.DeepFit
import Derived.Lib.MapLaws
import Derived.Lib.QuoteLoop
import Derived.Lib.Bytealg
import Derived.Below
import Derived.Test.YtldhmfkojaekfaaGreatDoorMeanTwiceAllPartJ
set_option linter.unusedVariables false
set_option linter.unusedSimpArgs false
namespace Go.Proofs.YtldhmfkojaekfaaGreatDoor
open Go
set_option maxRecDepth 100000
theorem decDigits_text (u:Nat):Lib.decDigits u=decText u:=by
 induction u using Nat.strongRecOn with
 | ind u ih =>
   rw [Lib.decDigits]
   by_cases h:u<10
   ·rw [dif_pos h,text_small u h];rfl
   ·rw [dif_neg h,text_big u (by omega),ih (u / 10) (by omega)];rfl
def pointOf (d:List UInt8) (k:Int):List UInt8 :=
 if -3<=(d.length:Int)+k/\(d.length:Int)+k<=0 then [48,46]++List.replicate (-((d.length:Int)+k)).toNat 48++d
 else if 0<(d.length:Int)+k/\(d.length:Int)+k<d.length then d.take ((d.length:Int)+k).toNat++46::d.drop ((d.length:Int)+k).toNat
 else if (d.length:Int)<=(d.length:Int)+k/\(d.length:Int)+k<=17 then d++List.replicate ((d.length:Int)+k - d.length).toNat 48++[46,48]
 else d.take 1++(if 1<d.length then 46::d.drop 1 else [])++101::Lib.itoa ((d.length:Int)+k - 1)
def fracOf (s:List UInt8):Option (List UInt8×List UInt8) :=
 if s.head?=some 46 then
  if s.tail.takeWhile isDigit=[] then none else some (s.tail.takeWhile isDigit,s.tail.dropWhile isDigit)
 else some ([],s)
def expVal (e:List UInt8):Nat:=e.foldl (fun x b=>min (x * 10+(b.toNat - 48)) 100000) 0
def signOf (s:List UInt8):Bool×List UInt8:=if s.head?=some 45 then (true,s.tail) else if s.head?=some 43 then (false,s.tail) else (false,s)
def expEnd (m:Bool×List UInt8):Option Int :=
 if m.2.takeWhile isDigit=[]\/m.2.dropWhile isDigit≠[] then none
 else some (if m.1 then -(expVal (m.2.takeWhile isDigit):Int) else (expVal (m.2.takeWhile isDigit):Int))
def expOf (s:List UInt8):Option Int:=if s=[] then some 0 else if s.head?≠some 101 then none else expEnd (signOf s.tail)
def litEnd (whole:List UInt8) (f:List UInt8×List UInt8):Option (List UInt8×Int):=(expOf f.2).map fun x=>(whole++f.1,x - (f.1.length:Int))
def litOf (s:List UInt8):Option (List UInt8×Int) :=
 if s.takeWhile isDigit=[]\/((s.takeWhile isDigit).head?=some 48/\1<(s.takeWhile isDigit).length)\/s.dropWhile isDigit=[] then none
 else (fracOf (s.dropWhile isDigit)).bind (litEnd (s.takeWhile isDigit))
theorem tw_split:∀ (l r:List UInt8),(∀ b∈l,isDigit b=true)->(∀ b,r.head?=some b->isDigit b=false)->(l++r).takeWhile isDigit=l/\(l++r).dropWhile isDigit=r
 | [],r,_,hr=>by
   cases r with
   | nil=>exact ⟨rfl,rfl⟩
   | cons b t=>have:=hr b rfl;simp [this]
 | a::l,r,h,hr=>by
   have ha:=h a (by simp)
   obtain ⟨e1,e2⟩:=tw_split l r (fun b hb=>h b (by simp [hb])) hr
   simp [ha,e1,e2]
theorem tw_all (l:List UInt8) (h:∀ b∈l,isDigit b=true):l.takeWhile isDigit=l/\l.dropWhile isDigit=[]:=by
 have:=tw_split l [] h (by simp)
 simpa using this
theorem litOf_parts (whole rest f r:List UInt8) (x:Int) (h1:∀ b∈whole,isDigit b=true) (h2:whole≠[]) (h3:whole.head?=some 48->whole.length=1)
 (h4:∀ b,rest.head?=some b->isDigit b=false) (h5:rest≠[]) (h6:fracOf rest=some (f,r)) (h7:expOf r=some x) :
 litOf (whole++rest)=some (whole++f,x - (f.length:Int)):=by
 obtain ⟨e1,e2⟩:=tw_split whole rest h1 h4
 unfold litOf
 rw [e1,e2,if_neg,h6]
 ·simp [litEnd,h7]
 ·rintro (h|⟨h,h'⟩|h)
  ·exact h2 h
  ·have:=h3 h;omega
  ·exact h5 h
theorem fracOf_dot (f r:List UInt8) (h1:∀ b∈f,isDigit b=true) (h2:f≠[]) (h3:∀ b,r.head?=some b->isDigit b=false):fracOf (46::(f++r))=some (f,r):=by
 obtain ⟨e1,e2⟩:=tw_split f r h1 h3
 unfold fracOf
 simp [e1,e2,h2]
theorem expF:∀ (l:List UInt8) (a c:Nat),c=min a 100000->l.foldl (fun x (b:UInt8)=>min (x * 10+(b.toNat - 48)) 100000) c=min (l.foldl (fun x (b:UInt8)=>x * 10+(b.toNat - 48)) a) 100000
 | [],a,c,h=>h
 | b::l,a,c,h=>by
   rw [List.foldl_cons,List.foldl_cons]
   exact expF l _ _ (by subst h;omega)
theorem expVal_text (u:Nat) (h:u<=100000):expVal (decText u)=u:=by
 have e:=expF (decText u) 0 0 rfl
 have e2:=decVal_text u
 unfold decVal at e2
 unfold expVal
 rw [e,e2];omega
theorem text_digits (m:Nat):∀ b∈decText m,isDigit b=true:=(decOk_text m).2.1
theorem text_ne (m:Nat):decText m≠[]:=(decOk_text m).1
theorem expOf_itoa (y:Int) (h1:-100000<=y) (h2:y<=100000):expOf (101::Lib.itoa y)=some y:=by
 unfold expOf
 rw [if_neg (by simp),if_neg (by simp)]
 show expEnd (signOf (Lib.itoa y))=_
 have hs:signOf (Lib.itoa y)=(decide (y<0),decText y.natAbs):=by
  unfold Lib.itoa
  by_cases hy:y<0
  ·rw [if_pos hy,decDigits_text,decide_eq_true hy];rfl
  ·rw [if_neg hy,decDigits_text,decide_eq_false hy,show y.toNat=y.natAbs by omega]
   have hd:=text_digits y.natAbs
   cases ht:decText y.natAbs with
   | nil=>exact absurd ht (text_ne _)
   | cons a t =>
     rw [ht] at hd
     have ha:=hd a (by simp)
     have n1:a≠45:=by intro h;subst h;exact absurd ha (by decide)
     have n2:a≠43:=by intro h;subst h;exact absurd ha (by decide)
     unfold signOf
     simp [n1,n2]
 rw [hs]
 obtain ⟨e1,e2⟩:=tw_all (decText y.natAbs) (text_digits _)
 unfold expEnd
 simp only
 rw [e1,e2,if_neg (by rintro (h|h);exact text_ne _ h;exact h rfl),expVal_text _ (by omega)]
 by_cases hy:y<0
 ·simp only [decide_eq_true hy,if_true];congr 1;omega
 ·rw [decide_eq_false hy];simp;omega
theorem rep_digits (n:Nat):∀ b∈List.replicate n (48:UInt8),isDigit b=true:=by
 intro b hb
 rw [List.mem_replicate] at hb
 rw [hb.2];decide
theorem head_take (l:List UInt8) (n:Nat) (hn:0<n):(l.take n).head?=l.head?:=by
 cases l with
 | nil=>simp
 | cons a t=>cases n with
   | zero=>omega
   | succ n=>rfl
theorem dot_head (t:List UInt8):∀ b,(46::t).head?=some b->isDigit b=false:=by
 intro b hb
 have:b=46:=by simpa using hb.symm
 subst this;decide
theorem lit_point (d:List UInt8) (k:Int) (h1:∀ b∈d,isDigit b=true) (h2:d≠[]) (h0:d.head?≠some 48) (h3:d.length<=17) (h4:-2000<=k) (h5:k<=2000) :
 ∃ a z:Nat,litOf (pointOf d k)=some (List.replicate a 48++d++List.replicate z 48,k - (z:Int))/\z<=18:=by
 have hl:0<d.length:=List.length_pos_iff.2 h2
 obtain ⟨n,hn⟩:∃ n,n=d.length:=⟨_,rfl⟩
 unfold pointOf
 rw [<-hn] at h3 hl ⊢
 by_cases c1:-3<=(n:Int)+k/\(n:Int)+k<=0
 ·rw [if_pos c1]
  obtain ⟨j,hj⟩:∃ j,j=(-((n:Int)+k)).toNat:=⟨_,rfl⟩
  rw [<-hj]
  refine ⟨j+1,0,?_,by omega⟩
  have e:[48,46]++List.replicate j 48++d=[48]++(46::((List.replicate j 48++d)++[])):=by simp
  have hf:∀ b∈List.replicate j 48++d,isDigit b=true:=fun b hb=>(List.mem_append.1 hb).elim (rep_digits j b) (h1 b)
  rw [e,litOf_parts [48] _ (List.replicate j 48++d) [] 0 (by decide) (by decide) (by decide) (dot_head _) (by simp)
   (fracOf_dot _ _ hf (by simp [h2]) (by simp)) rfl]
  congr 1
  have e2:[48]++(List.replicate j 48++d)=List.replicate (j+1) 48++d++List.replicate 0 48:=by simp [List.replicate_succ]
  rw [e2]
  congr 1
  simp only [List.length_append,List.length_replicate,<-hn]
  omega
 rw [if_neg c1]
 by_cases c2:0<(n:Int)+k/\(n:Int)+k<n
 ·rw [if_pos c2]
  obtain ⟨p,hp⟩:∃ p,p=((n:Int)+k).toNat:=⟨_,rfl⟩
  rw [<-hp]
  refine ⟨0,0,?_,by omega⟩
  have e:d.take p++46::d.drop p=d.take p++(46::(d.drop p++[])):=by simp
  rw [e,litOf_parts (d.take p) _ (d.drop p) [] 0 (fun b hb=>h1 b (List.mem_of_mem_take hb)) (by intro h;have:=congrArg List.length h;rw [List.length_take,List.length_nil] at this;omega)
   (by rw [head_take d p (by omega)];exact fun h=>absurd h h0) (dot_head _) (by simp)
   (fracOf_dot _ _ (fun b hb=>h1 b (List.mem_of_mem_drop hb)) (by intro h;have:=congrArg List.length h;rw [List.length_drop,List.length_nil] at this;omega) (by simp)) rfl]
  rw [List.take_append_drop]
  congr 1
  simp only [List.length_drop,<-hn,List.replicate_zero,List.nil_append,List.append_nil]
  congr 1
  omega
 rw [if_neg c2]
 by_cases c3:(n:Int)<=(n:Int)+k/\(n:Int)+k<=17
 ·rw [if_pos c3]
  obtain ⟨j,hj⟩:∃ j,j=((n:Int)+k - n).toNat:=⟨_,rfl⟩
  rw [<-hj]
  refine ⟨0,j+1,?_,by omega⟩
  have e:d++List.replicate j 48++[46,48]=(d++List.replicate j 48)++(46::([48]++[])):=by simp
  have hd:∀ b∈d++List.replicate j 48,isDigit b=true:=fun b hb=>(List.mem_append.1 hb).elim (h1 b) (rep_digits j b)
  have hh:(d++List.replicate j 48).head?=d.head?:=by
   cases d with
   | nil=>exact absurd rfl h2
   | cons a t=>rfl
  rw [e,litOf_parts (d++List.replicate j 48) _ [48] [] 0 hd (by simp [h2]) (by rw [hh];exact fun h=>absurd h h0) (dot_head _) (by simp)
   (fracOf_dot _ _ (by decide) (by decide) (by simp)) rfl]
  congr 1
  have e2:d++List.replicate j 48++[48]=List.replicate 0 48++d++List.replicate (j+1) 48:=by simp [List.replicate_succ']
  rw [e2]
  congr 1
  simp only [List.length_cons,List.length_nil]
  omega
 rw [if_neg c3]
 refine ⟨0,0,?_,by omega⟩
 have hex:=expOf_itoa ((n:Int)+k - 1) (by omega) (by omega)
 have hne:∀ b,(101::Lib.itoa ((n:Int)+k - 1)).head?=some b->isDigit b=false:=by
  intro b hb;have:b=101:=by simpa using hb.symm
  subst this;decide
 by_cases c4:1<n
 ·rw [if_pos c4]
  have e:d.take 1++46::d.drop 1++101::Lib.itoa ((n:Int)+k - 1)=d.take 1++(46::(d.drop 1++(101::Lib.itoa ((n:Int)+k - 1)))):=by simp
  rw [e,litOf_parts (d.take 1) _ (d.drop 1) _ _ (fun b hb=>h1 b (List.mem_of_mem_take hb)) (by intro h;have:=congrArg List.length h;rw [List.length_take,List.length_nil] at this;omega)
   (by rw [head_take d 1 (by omega)];exact fun h=>absurd h h0) (dot_head _) (by simp)
   (fracOf_dot _ _ (fun b hb=>h1 b (List.mem_of_mem_drop hb)) (by intro h;have:=congrArg List.length h;rw [List.length_drop,List.length_nil] at this;omega) hne) hex]
  rw [List.take_append_drop]
  congr 1
  simp only [List.length_drop,<-hn,List.replicate_zero,List.nil_append,List.append_nil]
  congr 1
  omega
 ·rw [if_neg c4,List.append_nil]
  have e:d.take 1=d:=List.take_of_length_le (by omega)
  rw [e,litOf_parts d _ [] _ _ h1 h2 (fun h=>absurd h h0) hne (by simp) (by unfold fracOf;rw [if_neg (by simp)]) hex]
  congr 1
  simp only [List.length_nil,List.replicate_zero,List.nil_append,List.append_nil]
  congr 1
  omega
theorem itoa_len (y:Int) (h1:-10000<y) (h2:y<10000):(Lib.itoa y).length<=5:=by
 unfold Lib.itoa
 split
 ·rw [decDigits_text,List.length_cons]
  have:=decText_len y.natAbs 4 (by omega) (by omega)
  omega
 ·rw [decDigits_text]
  have:=decText_len y.toNat 4 (by omega) (by omega)
  omega
theorem point_len (d:List UInt8) (k:Int) (h3:d.length<=17) (h4:-2000<=k) (h5:k<=2000):(pointOf d k).length<=29:=by
 unfold pointOf
 split
 ·simp only [List.length_append,List.length_cons,List.length_nil,List.length_replicate];omega
 split
 ·simp only [List.length_append,List.length_cons,List.length_take,List.length_drop];omega
 split
 ·simp only [List.length_append,List.length_cons,List.length_nil,List.length_replicate];omega
 ·have:=itoa_len ((d.length:Int)+k - 1) (by omega) (by omega)
  simp only [List.length_append,List.length_cons,List.length_take]
  split<;>simp<;>omega
theorem point_head (d:List UInt8) (k:Int) (h1:∀ b∈d,isDigit b=true) (h2:d≠[]):∃ c t,pointOf d k=c::t/\isDigit c=true:=by
 cases d with
 | nil=>exact absurd rfl h2
 | cons a t =>
   have ha:=h1 a (by simp)
   unfold pointOf
   split
   ·exact ⟨48,_,rfl,by decide⟩
   split
   ·rename_i hc
    obtain ⟨p,hp⟩:∃ p,(((a::t).length:Int)+k).toNat=p+1:=⟨_,(Nat.succ_pred_eq_of_pos (by omega)).symm⟩
    rw [hp]
    exact ⟨a,_,rfl,ha⟩
   split
   ·exact ⟨a,_,rfl,ha⟩
   ·exact ⟨a,_,rfl,ha⟩
theorem trimLeft_point (d:List UInt8) (a z:Nat) (h2:d≠[]) (h0:d.head?≠some 48):Lib.trimLeftB (List.replicate a 48++d++List.replicate z 48) 48=d++List.replicate z 48:=by
 unfold Lib.trimLeftB
 induction a with
 | zero =>
   cases d with
   | nil=>exact absurd rfl h2
   | cons b t =>
     have:b≠48:=by intro h;apply h0;simp [h]
     simp [this]
 | succ a ih=>rw [List.replicate_succ];simpa using ih
theorem decVal_noughts (d:List UInt8) (z:Nat):decVal (d++List.replicate z 48)=decVal d * 10 ^ z:=by
 induction z with
 | zero=>simp
 | succ z ih =>
   rw [List.replicate_succ',<-List.append_assoc,decVal_snoc,ih,Nat.pow_succ,<-Nat.mul_assoc]
   simp
end Go.Proofs.YtldhmfkojaekfaaGreatDoor
namespace Go.Proofs.YtldhmfkojaekfaaGreatDoor
open Go.RowKit Gx
set_option maxRecDepth 100000
def infTxt:List UInt8:=[105,110,102]
def nanTxt:List UInt8:=[110,97,110]
def signBit (b:Bool):Nat:=if b then 9223372036854775808 else 0
def NumIs (l:List UInt8) (x:Nat) (er:Int) (m:Bool):Prop :=
 (litOf l=none/\x=0/\er≠0) \/
 (∃ d e b,litOf l=some (d,e)/\Hits (decVal (Lib.trimLeftB d 48)) (max (min e 1000) (-1000)) b/\((b=9218868437227405312/\x=0/\er≠0)\/(b<9218868437227405312/\x=b+signBit m/\er=0)))
def ReadIs (l:List UInt8) (x:Nat) (er:Int):Prop :=
 (80<l.length/\x=0/\er≠0)\/(l.length<=80 /\
  ((l=nanTxt/\x=9221120237041090561/\er=0)\/(l≠nanTxt/\Lib.trimPrefix l [45]=infTxt/\x=9218868437227405312+signBit (Lib.hasPrefix l [45])/\er=0) \/
   (l≠nanTxt/\Lib.trimPrefix l [45]≠infTxt/\NumIs (Lib.trimPrefix l [45]) x er (Lib.hasPrefix l [45]))))
theorem tw_digs:∀ (l:List UInt8),∀ b∈l.takeWhile isDigit,isDigit b=true
 | [],b,hb=>by simp at hb
 | a::l,b,hb=>by
   cases ha:isDigit a with
   | false=>simp [ha] at hb
   | true =>
     rw [List.takeWhile_cons,if_pos ha] at hb
     rcases List.mem_cons.1 hb with rfl|hb
     ·exact ha
     ·exact tw_digs l b hb
theorem frac_some {s f r:List UInt8} (h:fracOf s=some (f,r)):(∀ b∈f,isDigit b=true)/\f.length<=s.length:=by
 unfold fracOf at h
 split at h
 ·split at h
  ·cases h
  ·obtain ⟨rfl,rfl⟩:=Prod.mk.inj (Option.some.inj h)
   exact ⟨tw_digs _,by have:=(List.takeWhile_sublist isDigit (l:=s.tail)).length_le;rw [List.length_tail] at this;omega⟩
 ·obtain ⟨rfl,rfl⟩:=Prod.mk.inj (Option.some.inj h)
  exact ⟨fun b hb=>by simp at hb,by simp⟩
theorem litOf_some {l d:List UInt8} {x:Int} (h:litOf l=some (d,x)):(∀ b∈d,isDigit b=true)/\d≠[]/\d.length<=2 * l.length:=by
 unfold litOf at h
 split at h
 ·cases h
 ·rename_i hc
  have hne:l.takeWhile isDigit≠[]:=fun h=>hc (.inl h)
  have l1:=(List.takeWhile_sublist isDigit (l:=l)).length_le
  have l2:=(List.dropWhile_sublist isDigit (l:=l)).length_le
  have htw:=tw_digs l
  obtain ⟨⟨f,r⟩,hf,he⟩:=Option.bind_eq_some_iff.1 h
  unfold litEnd at he
  obtain ⟨a,-,ha⟩:=Option.map_eq_some_iff.1 he
  obtain ⟨rfl,-⟩:=Prod.mk.inj ha
  obtain ⟨g1,g2⟩:=frac_some hf
  refine ⟨fun b hb=>(List.mem_append.1 hb).elim (htw b) (g1 b),fun h=>hne (List.append_eq_nil_iff.1 h).1,?_⟩
  show (l.takeWhile isDigit++f).length<=_
  rw [List.length_append];omega
theorem trim_ok {d:List UInt8} (h:∀ b∈d,isDigit b=true) (hne:Lib.trimLeftB d 48≠[]):decOk (Lib.trimLeftB d 48):=by
 have hsub:∀ b∈Lib.trimLeftB d 48,isDigit b=true:=fun b hb=>h b ((List.dropWhile_sublist _).subset hb)
 refine ⟨hne,hsub,?_⟩
 intro hh
 exfalso
 unfold Lib.trimLeftB at hh
 have:=List.head?_dropWhile_not (fun x:UInt8=>x==48) d
 rw [hh] at this
 simp at this
theorem trim_len (d:List UInt8):(Lib.trimLeftB d 48).length<=d.length:=(List.dropWhile_sublist _).length_le
theorem decVal_lt {l:List UInt8} (h:decOk l):decVal l<10 ^ l.length:=by
 have h1:=dec_lt (decVal l)
 rwa [text_decVal l h] at h1
def sgOf (b:Nat):List UInt8:=if 9223372036854775808<=b then [45] else []
def TextIs (b:Nat) (t:List UInt8):Prop :=
 (b / 4503599627370496 % 2048=2047/\b % 4503599627370496≠0/\t=nanTxt)\/(b / 4503599627370496 % 2048=2047/\b % 4503599627370496=0/\t=sgOf b++infTxt) \/
 (b / 4503599627370496 % 2048≠2047/\b % 9223372036854775808=0/\t=sgOf b++[48,46,48]) \/
 (b / 4503599627370496 % 2048≠2047/\b % 9223372036854775808≠0/\∃ (c m z:Nat) (kk:Int),ShortIs (b % 9223372036854775808) c kk/\c=m * 10 ^ z/\m % 10≠0/\m≠0/\(decText m).length<=17/\-500<=kk+(z:Int)/\kk+(z:Int)<=500/\t=sgOf b++pointOf (decText m) (kk+(z:Int)))
theorem same_num (m z y:Nat) (kk k:Int) (hk:k=kk+(z:Int)):m * 10 ^ y * tenUp (k - (y:Int)) * tenDn kk=m * 10 ^ z * tenUp kk * tenDn (k - (y:Int)):=by
 have h1:=ten_shift k z
 have h2:=ten_shift k y
 rw [show k - (z:Int)=kk by omega] at h1
 have hp:=tenDn_pos k
 generalize tenUp k=A at *
 generalize tenDn kk=B at *
 generalize tenUp kk=C at *
 generalize tenDn k=D at *
 generalize tenDn (k - (y:Int))=E at *
 generalize tenUp (k - (y:Int))=F at *
 generalize 10 ^ z=P at *
 generalize 10 ^ y=Q at *
 apply Nat.eq_of_mul_eq_mul_right hp
 calc m * Q * F * B * D=m * B * (Q * F * D):=by ac_rfl
  _=m * B * (A * E):=by rw [h2]
  _=m * E * (A * B):=by ac_rfl
  _=m * E * (P * C * D):=by rw [h1]
  _=m * P * C * E * D:=by ac_rfl
theorem hits_same {c m z y B b:Nat} {kk k:Int} (h:Hits c kk B) (hc:c=m * 10 ^ z) (hk:k=kk+(z:Int)) (g:Hits (m * 10 ^ y) (k - (y:Int)) b):b=B:=by
 refine Rnd.uniq g h (tenDn_pos _) (tenDn_pos _) (y75_mul _ _ _ _ ?_)
 rw [hc]
 exact same_num m z y kk k hk
theorem sg_facts (b:Nat) (c:UInt8) (t:List UInt8) (hc:c≠45):Lib.hasPrefix (sgOf b++c::t) [45]=decide (9223372036854775808<=b)/\Lib.trimPrefix (sgOf b++c::t) [45]=c::t/\(c≠110->sgOf b++c::t≠nanTxt)/\(sgOf b).length<=1:=by
 have hp:∀ a t,Lib.hasPrefix (a::t) [45]=(45==a):=fun a t=>by unfold Lib.hasPrefix;simp [List.isPrefixOf]
 unfold sgOf
 by_cases h:9223372036854775808<=b
 ·rw [if_pos h,decide_eq_true h]
  refine ⟨rfl,rfl,fun _=>?_,by simp⟩
  intro h2
  cases h2
 ·rw [if_neg h,decide_eq_false h]
  have e:Lib.hasPrefix (c::t) [45]=false:=by rw [hp];simpa using fun h=>hc h.symm
  refine ⟨e,?_,fun h2 h3=>h2 (List.cons.inj h3).1,by simp⟩
  unfold Lib.trimPrefix
  rw [List.nil_append,e];rfl
theorem text_back {b x:Nat} {t:List UInt8} {er:Int} (hb:b<18446744073709551616) (ht:TextIs b t) (hr:ReadIs t x er) (hn:¬ (b / 4503599627370496 % 2048=2047/\b % 4503599627370496≠0)):x=b/\er=0/\t.length<=30:=by
 have hs:b=b % 9223372036854775808+signBit (decide (9223372036854775808<=b)):=by
  unfold signBit
  by_cases h:9223372036854775808<=b
  ·rw [decide_eq_true h,if_pos rfl];omega
  ·rw [decide_eq_false h,if_neg (by decide)];omega
 rcases ht with ⟨h1,h2,-⟩|⟨h1,h2,rfl⟩|⟨h1,h2,rfl⟩|⟨h1,h2,c,m,z,kk,hS,hc,hm,hm0,hl,k1,k2,rfl⟩
 ·exact absurd ⟨h1,h2⟩ hn
 ·obtain ⟨f1,f2,f3,f4⟩:=sg_facts b 105 [110,102] (by decide)
  have e:sgOf b++infTxt=sgOf b++105::[110,102]:=rfl
  have hlen:(sgOf b++infTxt).length<=30:=by rw [List.length_append];have:infTxt.length=3:=rfl;omega
  rcases hr with ⟨h,-⟩|⟨-,⟨h,-⟩|⟨-,h3,h4,h5⟩|⟨-,h3,-⟩⟩
  ·omega
  ·rw [e] at h;exact absurd h (f3 (by decide))
  ·rw [e,f1] at h4
   refine ⟨?_,h5,hlen⟩
   have:b % 9223372036854775808=9218868437227405312:=by omega
   omega
  ·exact absurd (by rw [e,f2];rfl) h3
 ·obtain ⟨f1,f2,f3,f4⟩:=sg_facts b 48 [46,48] (by decide)
  have hlen:(sgOf b++[48,46,48]).length<=30:=by rw [List.length_append];simp;omega
  rcases hr with ⟨h,-⟩|⟨-,⟨h,-⟩|⟨-,h3,-⟩|⟨-,-,h6⟩⟩
  ·omega
  ·exact absurd h (f3 (by decide))
  ·rw [f2] at h3;cases h3
  ·rw [f1,f2] at h6
   have e:litOf [48,46,48]=some ([48,48],-1):=rfl
   rcases h6 with ⟨h,-⟩|⟨d,ex,b',hd,hh,h7⟩
   ·rw [e] at h;cases h
   ·rw [e] at hd
    obtain ⟨rfl,rfl⟩:=Prod.mk.inj (Option.some.inj hd)
    have e2:decVal (Lib.trimLeftB [48,48] 48)=0:=rfl
    rw [e2] at hh
    have h0:Hits 0 (max (min (-1) 1000) (-1000)) 0:=by
     unfold Hits
     rw [Nat.zero_mul]
     exact rnd_zero75 _ (tenDn_pos _)
    obtain rfl:=hh.uniq h0
    rcases h7 with ⟨h,-⟩|⟨-,h8,h9⟩
    ·cases h
    ·exact ⟨by omega,h9,hlen⟩
 ·obtain ⟨hd,tl,hp,hdig⟩:=point_head (decText m) (kk+(z:Int)) (text_digits m) (text_ne m)
  have hpl:=point_len (decText m) (kk+(z:Int)) hl (by omega) (by omega)
  obtain ⟨a,y,hlit,hy⟩:=lit_point (decText m) (kk+(z:Int)) (text_digits m) (text_ne m) (dec_head m hm0) hl (by omega) (by omega)
  have hd45:hd≠45:=by rintro rfl;revert hdig;decide
  have hd110:hd≠110:=by rintro rfl;revert hdig;decide
  have hd105:hd≠105:=by rintro rfl;revert hdig;decide
  obtain ⟨f1,f2,f3,f4⟩:=sg_facts b hd tl hd45
  have hlen:(sgOf b++pointOf (decText m) (kk+(z:Int))).length<=30:=by rw [List.length_append];omega
  refine ⟨?_,?_,hlen⟩<;>rw [hp] at hr hlen hlit
  all_goals
   rcases hr with ⟨h,-⟩|⟨-,⟨h,-⟩|⟨-,h3,-⟩|⟨-,-,h6⟩⟩
   ·omega
   ·exact absurd h (f3 hd110)
   ·rw [f2] at h3;exact absurd (List.cons.inj h3).1 hd105
   ·rw [f1,f2] at h6
    rcases h6 with ⟨h,-⟩|⟨d,ex,b',hdd,hh,h7⟩
    ·rw [hlit] at h;cases h
    ·rw [hlit] at hdd
     obtain ⟨rfl,rfl⟩:=Prod.mk.inj (Option.some.inj hdd)
     rw [trimLeft_point _ _ _ (text_ne m) (dec_head m hm0),decVal_noughts,decVal_text,show max (min (kk+(z:Int) - (y:Int)) 1000) (-1000)=kk+(z:Int) - (y:Int) by omega] at hh
     have hit:Hits c kk (b % 9223372036854775808):=by
      obtain ⟨N,D,top,n0,-,-,-,-,-,-,-,rfl,-,g,-⟩:=hS
      exact g
     obtain rfl:=hits_same hit hc rfl hh
     rcases h7 with ⟨h,-⟩|⟨-,h8,h9⟩
     ·exfalso;omega
     ·first|exact h9|omega
theorem shortIs_uniq {B c d:Nat} {kk jj:Int} (h:ShortIs B c kk) (g:ShortIs B d jj):c=d/\kk=jj:=by
 obtain ⟨N,D,top,n0,hF,hb,hnb,h1,h17,⟨-,rfl,rfl,hp⟩,-,rfl,hc,hit,hprev⟩:=h
 obtain ⟨N',D',top',n0',hF',hb',hnb',h1',h17',⟨-,rfl,rfl,hp'⟩,-,rfl,hc',hit',hprev'⟩:=g
 have ht:top=top':=by
  rcases Int.lt_trichotomy top top' with h|h|h
  ·exact absurd (hb.mono (by omega)) hnb'
  ·exact h
  ·exact absurd (hb'.mono (by omega)) hnb
 subst ht
 have hn:n0=n0':=by
  rcases Nat.lt_trichotomy n0 n0' with h|h|h
  ·have:=hprev' n0 h1 h
   rcases hc with rfl|rfl
   ·exact absurd hit this.1
   ·exact absurd hit this.2
  ·exact h
  ·have:=hprev n0' h1' h
   rcases hc' with rfl|rfl
   ·exact absurd hit' this.1
   ·exact absurd hit' this.2
 subst hn
 exact ⟨hp.uniq hp',rfl⟩
theorem ten_free {m n z y:Nat} (h:m * 10 ^ z=n * 10 ^ y) (hm:m % 10≠0) (hn:n % 10≠0):m=n/\z=y:=by
 have key:∀ (m n z y:Nat),m * 10 ^ z=n * 10 ^ y->m % 10≠0->z<=y->m=n/\z=y:=by
  intro m n z y h hm hzy
  obtain ⟨j,rfl⟩:∃ j,y=z+j:=⟨y - z,by omega⟩
  rw [Nat.pow_add,Nat.mul_comm (10 ^ z),<-Nat.mul_assoc] at h
  have h2:=Nat.eq_of_mul_eq_mul_right (Nat.pow_pos (show 0<10 by decide)) h
  cases j with
  | zero=>simpa using h2
  | succ j =>
    exfalso
    rw [Nat.pow_succ,<-Nat.mul_assoc] at h2
    omega
 rcases Nat.le_total z y with h1|h1
 ·exact key m n z y h hm h1
 ·obtain ⟨e1,e2⟩:=key n m y z h.symm hn h1
  exact ⟨e1.symm,e2.symm⟩
theorem read_kind {l:List UInt8} {x:Nat} {er:Int} (hr:ReadIs l x er):x<18446744073709551616/\(er≠0->x=0)/\(x=9221120237041090561\/¬ (x / 4503599627370496 % 2048=2047/\x % 4503599627370496≠0)):=by
 have hsb:∀ m,signBit m=0\/signBit m=9223372036854775808:=fun m=>by cases m;exact .inl rfl;exact .inr rfl
 rcases hr with ⟨-,rfl,h⟩|⟨-,⟨-,rfl,h⟩|⟨-,-,rfl,h⟩|⟨-,-,⟨-,rfl,h⟩|⟨d,e,b,-,-,⟨-,rfl,h⟩|⟨hb,rfl,h⟩⟩⟩⟩
 ·exact ⟨by omega,fun _=>rfl,.inr (by omega)⟩
 ·exact ⟨by omega,fun h2=>absurd h h2,.inl rfl⟩
 ·rcases hsb (Lib.hasPrefix l [45]) with h2|h2<;>rw [h2]<;>exact ⟨by omega,fun h2=>absurd h h2,.inr (by omega)⟩
 ·exact ⟨by omega,fun _=>rfl,.inr (by omega)⟩
 ·exact ⟨by omega,fun _=>rfl,.inr (by omega)⟩
 ·rcases hsb (Lib.hasPrefix l [45]) with h2|h2<;>rw [h2]<;>exact ⟨by omega,fun h2=>absurd h h2,.inr (by omega)⟩
def good (r:Int):Bool:=decide (0<=r) && decide (r<=1114111) && !(decide (55296<=r) && decide (r<=57343))
def runeSize (r:Int):Int:=if good r then (if r<128 then 1 else if r<2048 then 2 else if r<65536 then 3 else 4) else 0
theorem good_iff (r:Int):good r=true↔0<=r/\r<=1114111/\(r<55296\/57343<r):=by
 unfold good
 simp only [Bool.and_eq_true,Bool.not_eq_true',Bool.and_eq_false_iff,decide_eq_true_eq,decide_eq_false_iff_not]
 omega
def SizePost (r:Int) (w:World) (e:Ending) (w':World):Prop:=e=.returned (.int .i64 (runeSize r))/\w=w'
set_option maxHeartbeats 400000 in
theorem size_any (r:Int) (w:World):Calls Tryz.prog 139 #[.int .i32 r] w (SizePost r w):=by
 by_cases h0:r<0
 ·have e:runeSize r=0:=by unfold runeSize;rw [if_neg (by rw [good_iff];omega)]
  go_enter Tryz.func139,Tryz.ntmps139
  go_wp2
  go_ret
  exact ⟨by rw [e];rfl,rfl⟩
 by_cases h1:1114111<r
 ·have e:runeSize r=0:=by unfold runeSize;rw [if_neg (by rw [good_iff];omega)]
  go_enter Tryz.func139,Tryz.ntmps139
  go_wp2
  go_ret
  exact ⟨by rw [e];rfl,rfl⟩
 by_cases h2:55296<=r/\r<=57343
 ·have e:runeSize r=0:=by unfold runeSize;rw [if_neg (by rw [good_iff];omega)]
  obtain ⟨h2,h3⟩:=h2
  go_enter Tryz.func139,Tryz.ntmps139
  go_wp2
  go_ret
  exact ⟨by rw [e];rfl,rfl⟩
 have hg:good r=true:=by rw [good_iff];omega
 have e:runeSize r=if r<128 then 1 else if r<2048 then 2 else if r<65536 then 3 else 4:=by unfold runeSize;rw [if_pos hg]
 have E:=Lib.hid e
 clear e hg
 by_cases h3:55296<=r
 ·have h4:57343<r:=by omega
  clear h2
  by_cases h5:r<65536
  ·have e:runeSize r=3:=by rw [E.out,if_neg (by omega),if_neg (by omega),if_pos h5]
   go_enter Tryz.func139,Tryz.ntmps139
   go_wp2
   go_ret
   exact ⟨by rw [e];rfl,rfl⟩
  ·have e:runeSize r=4:=by rw [E.out,if_neg (by omega),if_neg (by omega),if_neg h5]
   go_enter Tryz.func139,Tryz.ntmps139
   go_wp2
   go_ret
   exact ⟨by rw [e];rfl,rfl⟩
 ·clear h2
  by_cases h5:r<128
  ·have e:runeSize r=1:=by rw [E.out,if_pos h5]
   go_enter Tryz.func139,Tryz.ntmps139
   go_wp2
   go_ret
   exact ⟨by rw [e];rfl,rfl⟩
  by_cases h6:r<2048
  ·have e:runeSize r=2:=by rw [E.out,if_neg h5,if_pos h6]
   go_enter Tryz.func139,Tryz.ntmps139
   go_wp2
   go_ret
   exact ⟨by rw [e];rfl,rfl⟩
  ·have e:runeSize r=3:=by rw [E.out,if_neg h5,if_neg h6,if_pos (by omega)]
   go_enter Tryz.func139,Tryz.ntmps139
   go_wp2
   go_ret
   exact ⟨by rw [e];rfl,rfl⟩
def TruePost (w:World) (e:Ending) (w':World):Prop:=e=.returned (.bool true)/\Below w.heap.size w w'
def encs (l:List Int):List UInt8:=l.flatMap Lib.encodeRune
def textOf (l:List Int):List UInt8:=if l.all good then encs l else []
def textErr (l:List Int):Int:=if l.all good then 0 else 3
theorem byteNat (z:Int) (h0:0<=z) (h1:z<256):(z.toNat.toUInt8).toNat=z.toNat:=by
 show z.toNat % 256=z.toNat
 omega
theorem dN2 (n b2 b3 r:Nat) (h0:128<=r) (h1:r<=2047) (hn:1<n):Lib.decodeN n (192+r / 64) (128+r % 64) b2 b3=(r,2):=by
 unfold Lib.decodeN
 rw [if_neg (by omega),if_pos (by omega),if_pos (by omega)]
 congr 1;omega
theorem dN3 (n b3 r:Nat) (h0:2048<=r) (h1:r<=65535) (h2:r<55296\/57343<r) (hn:2<n):Lib.decodeN n (224+r / 4096) (128+r / 64 % 64) (128+r % 64) b3=(r,3):=by
 have e:(224+r / 4096) % 16 * 4096+(128+r / 64 % 64) % 64 * 64+(128+r % 64) % 64=r:=by omega
 unfold Lib.decodeN
 rw [if_neg (by omega),if_neg (by omega),if_pos (by omega),e,if_pos (by omega)]
theorem dN4 (n r:Nat) (h0:65536<=r) (h1:r<=1114111) (hn:3<n):Lib.decodeN n (240+r / 262144) (128+r / 4096 % 64) (128+r / 64 % 64) (128+r % 64)=(r,4):=by
 have e:(240+r / 262144) % 8 * 262144+(128+r / 4096 % 64) % 64 * 4096+(128+r / 64 % 64) % 64 * 64+(128+r % 64) % 64=r:=by omega
 unfold Lib.decodeN
 rw [if_neg (by omega),if_neg (by omega),if_neg (by omega),if_pos (by omega),e,if_pos (by omega)]
theorem decode_enc (r:Int) (hg:good r=true) (x:List UInt8):Lib.decodeL (Lib.encodeRune r++x)=(r.toNat,(Lib.encodeRune r).length):=by
 rw [good_iff] at hg
 obtain ⟨r,rfl⟩:=Int.eq_ofNat_of_zero_le hg.1
 rw [Lib.decodeL_N,Int.toNat_natCast]
 unfold Lib.encodeRune
 by_cases r1:(r:Int)<=127
 ·rw [Lib.encodeRuneZ_one hg.1 r1]
  simp only [List.map_cons,List.map_nil,List.cons_append,List.nil_append,List.getD_cons_zero,List.length_cons,List.length_nil]
  rw [byteNat _ (by omega) (by omega),Lib.decodeN_ascii _ _ _ _ _ (by omega)]
  simp
 by_cases r2:(r:Int)<=2047
 ·rw [Lib.encodeRuneZ_two (by omega) r2]
  simp only [List.map_cons,List.map_nil,List.cons_append,List.nil_append,List.getD_cons_zero,List.getD_cons_succ,List.length_cons,List.length_nil]
  rw [byteNat _ (by omega) (by omega),byteNat _ (by omega) (by omega),show (192+(r:Int) / 64).toNat=192+r / 64 by omega,show (128+(r:Int) % 64).toNat=128+r % 64 by omega]
  exact dN2 _ _ _ r (by omega) (by omega) (by omega)
 by_cases r3:(r:Int)<=65535
 ·rw [Lib.encodeRuneZ_three (by omega)]
  simp only [List.map_cons,List.map_nil,List.cons_append,List.nil_append,List.getD_cons_zero,List.getD_cons_succ,List.length_cons,List.length_nil]
  rw [byteNat _ (by omega) (by omega),byteNat _ (by omega) (by omega),byteNat _ (by omega) (by omega),show (224+(r:Int) / 4096).toNat=224+r / 4096 by omega,
   show (128+(r:Int) / 64 % 64).toNat=128+r / 64 % 64 by omega,show (128+(r:Int) % 64).toNat=128+r % 64 by omega]
  exact dN3 _ _ r (by omega) (by omega) (by omega) (by omega)
 ·rw [Lib.encodeRuneZ_four (by omega) (by omega)]
  simp only [List.map_cons,List.map_nil,List.cons_append,List.nil_append,List.getD_cons_zero,List.getD_cons_succ,List.length_cons,List.length_nil]
  rw [byteNat _ (by omega) (by omega),byteNat _ (by omega) (by omega),byteNat _ (by omega) (by omega),byteNat _ (by omega) (by omega),show (240+(r:Int) / 262144).toNat=240+r / 262144 by omega,
   show (128+(r:Int) / 4096 % 64).toNat=128+r / 4096 % 64 by omega,show (128+(r:Int) / 64 % 64).toNat=128+r / 64 % 64 by omega,show (128+(r:Int) % 64).toNat=128+r % 64 by omega]
  exact dN4 _ r (by omega) (by omega) (by omega)
theorem enc_len (r:Int):1<=(Lib.encodeRune r).length/\(Lib.encodeRune r).length<=4:=by
 unfold Lib.encodeRune
 rw [List.length_map]
 exact Lib.encodeRuneZ_length r
theorem not_bad (r:Int) (hg:good r=true) (x:List UInt8):Lib.decodeL (Lib.encodeRune r++x)≠(65533,1):=by
 rw [decode_enc r hg]
 intro h
 obtain ⟨h1,h2⟩:=Prod.mk.inj h
 rw [good_iff] at hg
 have:r=65533:=by omega
 subst this
 rw [show (Lib.encodeRune 65533).length=3 from by decide] at h2
 omega
def okText (l:List UInt8):Prop:=∃ rs:List Int,rs.all good=true/\l=encs rs
theorem encs_cons (r:Int) (rs:List Int):encs (r::rs)=Lib.encodeRune r++encs rs:=rfl
theorem encs_append (a b:List Int):encs (a++b)=encs a++encs b:=by unfold encs;rw [List.flatMap_append]
theorem okText_nil:okText []:=⟨[],rfl,rfl⟩
theorem encs_nil {rs:List Int} (h:encs rs=[]):rs=[]:=by
 cases rs with
 | nil=>rfl
 | cons r rs =>
   rw [encs_cons] at h
   have:=(enc_len r).1
   rw [(List.append_eq_nil_iff.1 h).1] at this
   simp at this
theorem okText_code (r:Int) (hg:good r=true) (x:List UInt8):okText (Lib.encodeRune r++x)↔okText x:=by
 constructor
 ·rintro ⟨rs,h1,h2⟩
  cases rs with
  | nil =>
    have:=(enc_len r).1
    rw [(List.append_eq_nil_iff.1 h2).1] at this
    simp at this
  | cons r2 rs =>
    rw [List.all_cons,Bool.and_eq_true] at h1
    rw [encs_cons] at h2
    have d1:=decode_enc r hg x
    have d2:=decode_enc r2 h1.1 (encs rs)
    rw [h2,d2] at d1
    obtain ⟨e1,e2⟩:=Prod.mk.inj d1
    have:=(List.append_inj h2 e2.symm).2
    exact ⟨rs,h1.2,this⟩
 ·rintro ⟨rs,h1,h2⟩
  exact ⟨r::rs,by rw [List.all_cons,hg,h1];rfl,by rw [encs_cons,h2]⟩
theorem decodeL_pos (l:List UInt8):1<=(Lib.decodeL l).2:=by rw [Lib.decodeL_N];exact Lib.decodeN_ge1 _ _ _ _ _
theorem okText_step (l:List UInt8) (hne:l≠[]):okText l↔Lib.decodeL l≠(65533,1)/\okText (l.drop (Lib.decodeL l).2):=by
 constructor
 ·rintro ⟨rs,h1,rfl⟩
  cases rs with
  | nil=>exact absurd rfl hne
  | cons r rs =>
    rw [List.all_cons,Bool.and_eq_true] at h1
    rw [encs_cons]
    refine ⟨not_bad r h1.1 _,?_⟩
    rw [decode_enc r h1.1,List.drop_left]
    exact ⟨rs,h1.2,rfl⟩
 ·rintro ⟨h1,h2⟩
  have he:=Lib.encode_decode l hne (fun h=>h1 (Prod.ext h.1 h.2))
  have hv:=Lib.decodeN_valid l.length (l.getD 0 0).toNat (l.getD 1 0).toNat (l.getD 2 0).toNat (l.getD 3 0).toNat (UInt8.toNat_lt _)
  rw [<-Lib.decodeL_N] at hv
  have hg:good ((Lib.decodeL l).1:Int)=true:=by rw [good_iff];omega
  have e:l=Lib.encodeRune ((Lib.decodeL l).1:Int)++l.drop (Lib.decodeL l).2:=by rw [he,List.take_append_drop]
  rw [e]
  exact (okText_code _ hg _).2 h2
def begins:List Int->Int->Bool
 | [],_=>false
 | r::rs,k=>(k==0) || begins rs (k - ((Lib.encodeRune r).length:Int))
theorem inner (r:Int) (hg:good r=true) (k:Nat) (h0:0<k) (h1:k<(Lib.encodeRune r).length):∃ b t,(Lib.encodeRune r).drop k=b::t/\b.toNat / 64=2:=by
 rw [good_iff] at hg
 have key:∀ z:Int,0<=z->z<64->((128+z).toNat.toUInt8).toNat / 64=2:=by
  intro z z0 z1
  rw [byteNat _ (by omega) (by omega)];omega
 unfold Lib.encodeRune at h1 ⊢
 by_cases r1:r<=127
 ·rw [Lib.encodeRuneZ_one hg.1 r1] at h1;simp at h1;omega
 by_cases r2:r<=2047
 ·rw [Lib.encodeRuneZ_two (by omega) r2] at h1 ⊢
  simp at h1
  obtain rfl:k=1:=by omega
  exact ⟨_,_,rfl,key _ (by omega) (by omega)⟩
 by_cases r3:r<=65535
 ·rw [Lib.encodeRuneZ_three (by omega)] at h1 ⊢
  simp at h1
  obtain rfl|rfl:k=1\/k=2:=by omega
  ·exact ⟨_,_,rfl,key _ (by omega) (by omega)⟩
  ·exact ⟨_,_,rfl,key _ (by omega) (by omega)⟩
 ·rw [Lib.encodeRuneZ_four (by omega) (by omega)] at h1 ⊢
  simp at h1
  obtain rfl|rfl|rfl:k=1\/k=2\/k=3:=by omega
  ·exact ⟨_,_,rfl,key _ (by omega) (by omega)⟩
  ·exact ⟨_,_,rfl,key _ (by omega) (by omega)⟩
  ·exact ⟨_,_,rfl,key _ (by omega) (by omega)⟩
end Go.Proofs.YtldhmfkojaekfaaGreatDoor
namespace Go.Proofs.YtldhmfkojaekfaaGreatDoor
open Go
def digB (d:Nat):UInt8:=if d<10 then UInt8.ofNat (48+d) else UInt8.ofNat (87+d)
def digF:Nat->Nat->Nat->List UInt8
 | 0,_,_=>[]
 | f+1,b,u=>if u<b then [digB u] else digF f b (u / b)++[digB (u % b)]
def ints (l:List UInt8):List Int:=l.map fun b=>(b.toNat:Int)
theorem ints_append (a b:List UInt8):ints (a++b)=ints a++ints b:=by unfold ints;rw [List.map_append]
def hexOf (c:UInt8):Option Nat:=if 48<=c.toNat/\c.toNat<=57 then some (c.toNat - 48) else if 97<=c.toNat/\c.toNat<=102 then some (c.toNat - 87) else if 65<=c.toNat/\c.toNat<=70 then some (c.toNat - 55) else none
def hexVal:List UInt8->Nat->Option Nat
 | [],n=>some n
 | c::t,n=>match hexOf c with
   | none=>none
   | some d=>hexVal t (n * 16+d)
theorem hexOf_lt {c:UInt8} {d:Nat} (h:hexOf c=some d):d<16:=by
 unfold hexOf at h
 split at h
 ·have:=Option.some.inj h;omega
 split at h
 ·have:=Option.some.inj h;omega
 split at h
 ·have:=Option.some.inj h;omega
 ·cases h
theorem hexVal_lt:∀ (l:List UInt8) (n v:Nat),hexVal l n=some v->v<(n+1) * 16 ^ l.length
 | [],n,v,h=>by
   have:=Option.some.inj h
   simp;omega
 | c::t,n,v,h=>by
   unfold hexVal at h
   split at h
   ·cases h
   ·rename_i d hd
    have h1:=hexVal_lt t _ v h
    have h2:=hexOf_lt hd
    rw [List.length_cons,Nat.pow_succ,Nat.mul_comm (16 ^ t.length) 16,<-Nat.mul_assoc]
    exact Nat.lt_of_lt_of_le h1 (Nat.mul_le_mul_right _ (by omega))
def hexText (n:Nat):List UInt8:=digF (n+1) 16 n
theorem hexText_facts (n:Nat) (h:n<128):hexVal (hexText n) 0=some n/\1<=(hexText n).length/\(hexText n).length<=2/\(∀ c∈hexText n,c.toNat<128/\c≠125/\c≠10):=by
 have key:∀ e:Fin 128,hexVal (hexText e.val) 0=some e.val/\1<=(hexText e.val).length/\(hexText e.val).length<=2/\(∀ c∈hexText e.val,c.toNat<128/\c≠125/\c≠10):=by decide +kernel
 exact key ⟨n,h⟩
theorem indexByte_skip (c:UInt8):∀ (a y:List UInt8),(∀ x∈a,x≠c)->Lib.indexByte (a++c::y) c=(a.length:Int)
 | [],y,_=>by simp [Lib.indexByte]
 | b::a,y,h=>by
   have hb:(b==c)=false:=by simpa using h b (by simp)
   have ih:=indexByte_skip c a y (fun x hx=>h x (by simp [hx]))
   rw [List.cons_append,Lib.indexByte,hb,ih]
   have:(((a.length:Nat):Int)==-1)=false:=by rw [beq_eq_false_iff_ne];omega
   rw [this]
   simp
theorem indexByte_bound (c:UInt8):∀ (l:List UInt8),-1<=Lib.indexByte l c/\Lib.indexByte l c<l.length
 | []=>by simp [Lib.indexByte]
 | b::l=>by
   have ih:=indexByte_bound c l
   unfold Lib.indexByte
   rw [List.length_cons]
   split
   ·omega
   ·split<;>omega
end Go.Proofs.YtldhmfkojaekfaaGreatDoor
namespace Go.Proofs.YtldhmfkojaekfaaGreatDoor
open Go.RowKit Gx
def uOf (s:List UInt8):Option (Int×Nat) :=
 if Lib.hasPrefix s [117,123]=true then
  if Lib.indexByte (s.drop 2) 125<1\/6<Lib.indexByte (s.drop 2) 125 then none
  else match hexVal ((s.drop 2).take (Lib.indexByte (s.drop 2) 125).toNat) 0 with
   | none=>none
   | some n=>if good (n:Int)=true then some ((n:Int),3+(Lib.indexByte (s.drop 2) 125).toNat) else none
 else none
def escOf (s:List UInt8):Option (Int×Nat) :=
 match s with
 | []=>none
 | c::t =>
   if c=34\/c=92\/c=47 then some ((c.toNat:Int),1)
   else if c=110 then some (10,1) else if c=116 then some (9,1) else if c=114 then some (13,1)
   else uOf (c::t)
def more (r:Int) (n:Nat) (x:Option (List Int×Nat)):Option (List Int×Nat):=x.map fun p=>(r::p.1,n+p.2)
def unqF:Nat->List UInt8->Option (List Int×Nat)
 | 0,_=>none
 | _+1,[]=>none
 | f+1,b::t =>
   if b=34 then some ([],1)
   else if b=10 then none
   else if b=92 then
    match escOf t with
    | none=>none
    | some (r,n)=>more r (1+n) (unqF f (t.drop n))
   else if Lib.decodeL (b::t)=(65533,1) then none
   else more ((Lib.decodeL (b::t)).1:Int) (Lib.decodeL (b::t)).2 (unqF f ((b::t).drop (Lib.decodeL (b::t)).2))
def unquote (q:List UInt8):Option (List Int×Nat) :=
 if Lib.hasPrefix q [34]=true then (unqF q.length (q.drop 1)).map fun p=>(p.1,p.2+1) else none
def quoteR (r:Int):List UInt8 :=
 if r=34\/r=92 then 92::Lib.encodeRune r
 else if r=10 then [92,110] else if r=9 then [92,116] else if r=13 then [92,114]
 else if r<32\/r=127 then [92,117,123]++hexText r.natAbs++[125]
 else Lib.encodeRune r
def quotes (rs:List Int):List UInt8:=rs.flatMap quoteR
def quoteOf (rs:List Int):List UInt8:=34::(quotes rs++[34])
theorem uOf_good {s:List UInt8} {r:Int} {n:Nat} (h:uOf s=some (r,n)):good r=true/\1<=n/\n<=s.length:=by
 unfold uOf at h
 split at h
 ·split at h
  ·cases h
  ·rename_i hk
   split at h
   ·cases h
   ·split at h
    ·rename_i hg
     obtain ⟨rfl,rfl⟩:=Prod.mk.inj (Option.some.inj h)
     have:=indexByte_bound 125 (s.drop 2)
     rw [List.length_drop] at this
     exact ⟨hg,by omega,by omega⟩
    ·cases h
 ·cases h
theorem escOf_good {s:List UInt8} {r:Int} {n:Nat} (h:escOf s=some (r,n)):good r=true/\1<=n/\n<=s.length:=by
 unfold escOf at h
 split at h
 ·cases h
 rename_i c t
 rw [List.length_cons]
 split at h
 ·rename_i hc
  obtain ⟨rfl,rfl⟩:=Prod.mk.inj (Option.some.inj h)
  exact ⟨by rcases hc with rfl|rfl|rfl<;>decide,by omega,by omega⟩
 split at h
 ·obtain ⟨rfl,rfl⟩:=Prod.mk.inj (Option.some.inj h);exact ⟨by decide,by omega,by omega⟩
 split at h
 ·obtain ⟨rfl,rfl⟩:=Prod.mk.inj (Option.some.inj h);exact ⟨by decide,by omega,by omega⟩
 split at h
 ·obtain ⟨rfl,rfl⟩:=Prod.mk.inj (Option.some.inj h);exact ⟨by decide,by omega,by omega⟩
 ·have:=uOf_good h
  rwa [List.length_cons] at this
theorem decode_len (l:List UInt8) (hne:l≠[]):(Lib.decodeL l).2<=l.length:=by
 rw [Lib.decodeL_N]
 exact Lib.decodeN_width_le _ _ _ _ _ (List.length_pos_iff.2 hne)
theorem enc_ascii (r:Int) (h0:0<=r) (h1:r<=127):Lib.encodeRune r=[r.toNat.toUInt8]:=by
 unfold Lib.encodeRune;rw [Lib.encodeRuneZ_one h0 h1];rfl
theorem enc_high (r:Int) (hg:good r=true) (h:128<=r):∀ b∈Lib.encodeRune r,128<=b.toNat:=by
 rw [good_iff] at hg
 have key:∀ z:Int,128<=z->z<256->128<=(z.toNat.toUInt8).toNat:=by
  intro z h0 h1;rw [byteNat z (by omega) h1];omega
 intro b hb
 unfold Lib.encodeRune at hb
 by_cases r2:r<=2047
 ·rw [Lib.encodeRuneZ_two (by omega) r2] at hb
  simp only [List.map_cons,List.map_nil,List.mem_cons,List.not_mem_nil,or_false] at hb
  rcases hb with rfl|rfl<;>exact key _ (by omega) (by omega)
 by_cases r3:r<=65535
 ·rw [Lib.encodeRuneZ_three (by omega)] at hb
  simp only [List.map_cons,List.map_nil,List.mem_cons,List.not_mem_nil,or_false] at hb
  rcases hb with rfl|rfl|rfl<;>exact key _ (by omega) (by omega)
 ·rw [Lib.encodeRuneZ_four (by omega) (by omega)] at hb
  simp only [List.map_cons,List.map_nil,List.mem_cons,List.not_mem_nil,or_false] at hb
  rcases hb with rfl|rfl|rfl|rfl<;>exact key _ (by omega) (by omega)
theorem unqF_rune (f:Nat) (r:Int) (hg:good r=true) (hp:¬ (r<32)/\r≠34/\r≠92) (y:List UInt8) :
 unqF (f+1) (Lib.encodeRune r++y)=more r (Lib.encodeRune r).length (unqF f y):=by
 have hd:=decode_enc r hg y
 have hb:=not_bad r hg y
 obtain ⟨b,t,hbt,h34,h10,h92⟩:∃ b t,Lib.encodeRune r=b::t/\b≠34/\b≠10/\b≠92:=by
  rcases Int.lt_or_le r 128 with h|h
  ·refine ⟨_,[],enc_ascii r (by omega) (by omega),?_⟩
   have hn:=byteNat r (by omega) (by omega)
   refine ⟨?_,?_,?_⟩<;>(intro hc;rw [hc] at hn;revert hn;simp;omega)
  ·have hh:=enc_high r hg h
   have hl:=(enc_len r).1
   cases he:Lib.encodeRune r with
   | nil=>rw [he] at hl;simp at hl
   | cons b t =>
     have:=hh b (by rw [he];simp)
     refine ⟨b,t,rfl,?_,?_,?_⟩<;>(rintro rfl;revert this;decide)
 rw [hbt,List.cons_append] at hd hb ⊢
 conv=>lhs;unfold unqF
 rw [if_neg h34,if_neg h10,if_neg h92,if_neg hb,hd]
 simp only
 rw [<-List.cons_append,List.drop_left]
 rw [good_iff] at hg
 rw [show ((r.toNat:Nat):Int)=r by omega]
theorem unqF_esc (f:Nat) (t y:List UInt8) (r:Int) (n:Nat) (h:escOf (t++y)=some (r,n)) (hn:n=t.length):unqF (f+1) (92::(t++y))=more r (1+n) (unqF f y):=by
 conv=>lhs;unfold unqF
 rw [if_neg (by decide),if_neg (by decide),if_pos rfl,h]
 simp only
 rw [hn,List.drop_left]
theorem unqF_quoteR (f:Nat) (r:Int) (hg:good r=true) (y:List UInt8):unqF (f+1) (quoteR r++y)=more r (quoteR r).length (unqF f y):=by
 have hg2:=hg
 rw [good_iff] at hg2
 unfold quoteR
 by_cases c1:r=34\/r=92
 ·rw [if_pos c1,List.cons_append,enc_ascii r (by omega) (by omega)]
  rw [unqF_esc f [r.toNat.toUInt8] y r 1 (by rcases c1 with rfl|rfl<;>rfl) rfl];rfl
 rw [if_neg c1]
 by_cases c2:r=10
 ·rw [if_pos c2];subst c2;exact unqF_esc f [110] y 10 1 rfl rfl
 rw [if_neg c2]
 by_cases c3:r=9
 ·rw [if_pos c3];subst c3;exact unqF_esc f [116] y 9 1 rfl rfl
 rw [if_neg c3]
 by_cases c4:r=13
 ·rw [if_pos c4];subst c4;exact unqF_esc f [114] y 13 1 rfl rfl
 rw [if_neg c4]
 by_cases c5:r<32\/r=127
 ·rw [if_pos c5]
  obtain ⟨n,rfl⟩:=Int.eq_ofNat_of_zero_le hg2.1
  have hn:n<128:=by omega
  obtain ⟨x1,x2,x3,x4⟩:=hexText_facts n hn
  rw [show ((n:Int)).natAbs=n from rfl]
  have e:[92,117,123]++hexText n++[125]++y=92::(([117,123]++hexText n++[125])++y):=by simp
  have hi:Lib.indexByte ((([117,123]++hexText n++[125])++y).drop 2) 125=((hexText n).length:Int):=by
   have:(([117,123]++hexText n++[125])++y).drop 2=hexText n++125::y:=by simp
   rw [this];exact indexByte_skip 125 _ _ (fun x hx=>(x4 x hx).2.1)
  have hes:escOf (([117,123]++hexText n++[125])++y)=some ((n:Int),3+(hexText n).length):=by
   have:escOf (([117,123]++hexText n++[125])++y)=uOf (([117,123]++hexText n++[125])++y):=rfl
   rw [this]
   unfold uOf
   rw [hi,Int.toNat_natCast,if_pos (by simp [Lib.hasPrefix,List.isPrefixOf]),if_neg (by omega)]
   have e2:((([117,123]++hexText n++[125])++y).drop 2).take (hexText n).length=hexText n:=by simp
   rw [e2,x1]
   simp only
   rw [if_pos hg]
  rw [e,unqF_esc f _ y _ _ hes (by simp;omega)]
  congr 1
  simp;omega
 ·rw [if_neg c5]
  exact unqF_rune f r hg ⟨by omega,by omega,by omega⟩ y
theorem unqF_quotes:∀ (rs:List Int) (f:Nat) (x:List UInt8),rs.all good=true->rs.length<f->unqF f (quotes rs++34::x)=some (rs,(quotes rs).length+1)
 | [],f,x,_,hf=>by
   obtain ⟨g,rfl⟩:∃ g,f=g+1:=⟨f - 1,by omega⟩
   rfl
 | r::rs,f,x,hg,hf=>by
   obtain ⟨g,rfl⟩:∃ g,f=g+1:=⟨f - 1,by omega⟩
   rw [List.all_cons,Bool.and_eq_true] at hg
   have e:quotes (r::rs)=quoteR r++quotes rs:=rfl
   rw [e,List.append_assoc,unqF_quoteR g r hg.1,unqF_quotes rs g x hg.2 (by rw [List.length_cons] at hf;omega)]
   unfold more
   simp
   omega
theorem quoteR_len (r:Int):1<=(quoteR r).length:=by
 have:=(enc_len r).1
 unfold quoteR
 repeat' split
 all_goals simp
 all_goals omega
theorem quotes_len (rs:List Int):rs.length<=(quotes rs).length:=by
 induction rs with
 | nil=>simp
 | cons r rs ih =>
   have:=quoteR_len r
   have e:quotes (r::rs)=quoteR r++quotes rs:=rfl
   rw [e,List.length_append,List.length_cons];omega
theorem unquote_quote (rs:List Int) (hg:rs.all good=true) (x:List UInt8):unquote (quoteOf rs++x)=some (rs,(quoteOf rs).length):=by
 unfold unquote quoteOf
 have h:=quotes_len rs
 rw [if_pos (by simp [Lib.hasPrefix,List.isPrefixOf])]
 have e:(34::(quotes rs++[34])++x).drop 1=quotes rs++34::x:=by simp
 rw [e,unqF_quotes rs _ x hg (by simp;omega)]
 simp
theorem quoteR_le (r:Int) (hg:good r=true):(quoteR r).length<=6 * (Lib.encodeRune r).length:=by
 have h1:=enc_len r
 rw [good_iff] at hg
 unfold quoteR
 repeat' split
 all_goals simp
 all_goals first|omega|(rename_i hc;obtain ⟨-,-,x3,-⟩:=hexText_facts r.natAbs (by omega);omega)
theorem quotes_le (rs:List Int) (hg:rs.all good=true):(quotes rs).length<=6 * (encs rs).length:=by
 induction rs with
 | nil=>simp [quotes]
 | cons r rs ih =>
   rw [List.all_cons,Bool.and_eq_true] at hg
   have:=quoteR_le r hg.1
   have:=ih hg.2
   have e:quotes (r::rs)=quoteR r++quotes rs:=rfl
   rw [e,encs_cons,List.length_append,List.length_append];omega
theorem quoteOf_le (rs:List Int) (hg:rs.all good=true):(quoteOf rs).length<=6 * (encs rs).length+2:=by
 have:=quotes_le rs hg
 unfold quoteOf
 simp
 omega
def letterB (c:Nat):Bool:=(decide (97<=c) && decide (c<=122)) || (decide (65<=c) && decide (c<=90)) || decide (c=95)
def moreB (c:Nat):Bool:=(decide (48<=c) && decide (c<=57)) || decide (c=45)
def bareFrom:Bool->List UInt8->Bool
 | _,[]=>true
 | first,c::t=>(letterB c.toNat || (moreB c.toNat && !first)) && bareFrom false t
def wordB (l:List UInt8):Bool:=(l==[110,117,108,108]) || (l==[116,114,117,101]) || (l==[102,97,108,115,101]) || (l==[110,97,110]) || (l==[105,110,102])
def bareOf (l:List UInt8):Bool:=decide (l≠[]) && decide (l.length<=100) && bareFrom true l && !wordB l
theorem bareFrom_bytes:∀ (b:Bool) (l:List UInt8),bareFrom b l=true->∀ c∈l,(letterB c.toNat || moreB c.toNat)=true
 | _,[],_,c,hc=>by simp at hc
 | b,a::t,h,c,hc=>by
   unfold bareFrom at h
   rw [Bool.and_eq_true] at h
   rcases List.mem_cons.1 hc with rfl|hc
   ·have h1:=h.1
    cases hl:letterB c.toNat with
    | true=>rfl
    | false =>
      rw [hl] at h1
      simp only [Bool.false_or,Bool.and_eq_true] at h1
      rw [h1.1];rfl
   ·exact bareFrom_bytes false t h.2 c hc
theorem bare_bytes {l:List UInt8} (h:bareOf l=true):∀ c∈l,(letterB c.toNat || moreB c.toNat)=true:=by
 unfold bareOf at h
 simp only [Bool.and_eq_true] at h
 exact bareFrom_bytes true l h.1.2
def digitOf (c:Int):Int:=if 48<=c/\c<=57 then c - 48 else if 97<=c/\c<=102 then c - 97+10 else if 65<=c/\c<=70 then c - 65+10 else 99
theorem digitOf_le (c:Int):0<=digitOf c/\digitOf c<=99:=by unfold digitOf;split<;>(try split)<;>(try split)<;>omega
def DigitPost (c:Int) (w:World) (e:Ending) (w':World):Prop:=e=.returned (.int .u64 (digitOf c))/\w=w'
set_option maxHeartbeats 400000 in
theorem digit_any (c:Int) (w:World) (h0:0<=c) (h1:c<256):Calls Tryz.prog 121 #[.int .u8 c] w (DigitPost c w):=by
 by_cases a:48<=c/\c<=57
 ·have e:digitOf c=c - 48:=by unfold digitOf;rw [if_pos a]
  obtain ⟨a1,a2⟩:=a
  have E:=Lib.hid e
  clear e
  go_enter Tryz.func121,Tryz.ntmps121
  go_wp2
  go_ret
  exact ⟨by rw [E.out];rfl,rfl⟩
 by_cases b:97<=c/\c<=102
 ·have e:digitOf c=c - 97+10:=by unfold digitOf;rw [if_neg a,if_pos b]
  obtain ⟨b1,b2⟩:=b
  have E:=Lib.hid e
  clear e a
  have a1:¬ c<=57:=by omega
  go_enter Tryz.func121,Tryz.ntmps121
  go_wp2
  go_ret
  exact ⟨by rw [E.out];rfl,rfl⟩
 by_cases d:65<=c/\c<=70
 ·have e:digitOf c=c - 65+10:=by unfold digitOf;rw [if_neg a,if_neg b,if_pos d]
  obtain ⟨d1,d2⟩:=d
  have E:=Lib.hid e
  clear e a b
  have a1:¬ c<=57:=by omega
  have a2:¬ 97<=c:=by omega
  go_enter Tryz.func121,Tryz.ntmps121
  go_wp2
  go_ret
  exact ⟨by rw [E.out];rfl,rfl⟩
 ·have e:digitOf c=99:=by unfold digitOf;rw [if_neg a,if_neg b,if_neg d]
  have E:=Lib.hid e
  clear e
  have c1:c<48\/(57<c/\c<65)\/(70<c/\c<97)\/102<c:=by omega
  clear a b d
  rcases c1 with c1|⟨c1,c2⟩|⟨c1,c2⟩|c1
  all_goals
   go_enter Tryz.func121,Tryz.ntmps121
   go_wp2
   go_ret
   exact ⟨by rw [E.out];rfl,rfl⟩
def TruePostNm (w:World) (e:Ending) (w':World):Prop:=e=.returned (.bool true)/\Below w.heap.size w w'
def baseOf (l:List UInt8):Nat×List UInt8 :=
 if Lib.hasPrefix l [48,120] then (16,Lib.trimPrefix l [48,120]) else if Lib.hasPrefix l [48,111] then (8,Lib.trimPrefix l [48,111]) else if Lib.hasPrefix l [48,98] then (2,Lib.trimPrefix l [48,98]) else (10,l)
def BasePost (l:List UInt8) (w:World) (e:Ending) (w':World):Prop :=
 e=.returned (.tuple #[.int .u64 ((baseOf l).1:Nat),.string ⟨(baseOf l).2.toArray⟩])/\Below w.heap.size w w'
theorem bytes_ext (s:ByteArray) (x:List UInt8) (h:s.data.toList=x):s=⟨x.toArray⟩:=by
 apply ByteArray.ext
 apply Array.toList_inj.1
 simpa using h
set_option maxHeartbeats 2000000 in
theorem base_any (s:ByteArray) (w:World):Calls Tryz.prog 120 #[.string s] w (BasePost s.data.toList w):=by
 have h1:=fun w=>Tryz.strings_CutPrefix s ⟨#[48,120]⟩ w
 have h2:=fun w=>Tryz.strings_CutPrefix s ⟨#[48,111]⟩ w
 have h3:=fun w=>Tryz.strings_CutPrefix s ⟨#[48,98]⟩ w
 have hx:=bytes_ext s _ rfl
 obtain ⟨l,hl⟩:∃ l,l=s.data.toList:=⟨_,rfl⟩
 rw [<-hl] at hx ⊢
 simp only [<-hl] at h1 h2 h3
 have HX:=Lib.hid hx
 have H1:=Lib.hid h1
 have H2:=Lib.hid h2
 have H3:=Lib.hid h3
 clear h1 h2 h3 hx hl
 go_enter Tryz.func120,Tryz.ntmps120
 go_wp2_with fail
 refine wp_loop_rounds 4 ?_
 rw [rounds_succ]
 go_wp2_with fail
 refine (H1.out _).mono ?_
 rintro e w' ⟨rfl,rfl⟩
 cases p1:Lib.hasPrefix l [48,120] with
 | true =>
   have e:baseOf l=(16,Lib.trimPrefix l [48,120]):=by unfold baseOf;rw [p1];rfl
   have E:=Lib.hid e
   clear e
   go_wp2
   go_ret2
   exact ⟨by rw [E.out];rfl,(((Below.refl _ w).alloc (Nat.le_refl _) _).alloc (by simp) _)⟩
 | false =>
   go_wp2_with fail
   rw [rounds_succ]
   go_wp2_with fail
   refine (H2.out _).mono ?_
   rintro e w' ⟨rfl,rfl⟩
   cases p2:Lib.hasPrefix l [48,111] with
   | true =>
     have e:baseOf l=(8,Lib.trimPrefix l [48,111]):=by unfold baseOf;rw [p1,p2];rfl
     have E:=Lib.hid e
     clear e
     go_wp2
     go_ret2
     exact ⟨by rw [E.out];rfl,((((Below.refl _ w).alloc (Nat.le_refl _) _).alloc (by simp) _).alloc (by simp;omega) _)⟩
   | false =>
     go_wp2_with fail
     rw [rounds_succ]
     go_wp2_with fail
     refine (H3.out _).mono ?_
     rintro e w' ⟨rfl,rfl⟩
     cases p3:Lib.hasPrefix l [48,98] with
     | true =>
       have e:baseOf l=(2,Lib.trimPrefix l [48,98]):=by unfold baseOf;rw [p1,p2,p3];rfl
       have E:=Lib.hid e
       clear e
       go_wp2
       go_ret2
       exact ⟨by rw [E.out];rfl,(((((Below.refl _ w).alloc (Nat.le_refl _) _).alloc (by simp) _).alloc (by simp;omega) _).alloc (by simp;omega) _)⟩
     | false =>
       have e:baseOf l=(10,l):=by unfold baseOf;rw [p1,p2,p3];rfl
       have E:=Lib.hid e
       clear e
       go_wp2_with fail
       rw [rounds_succ]
       go_wp2
       go_ret2
       exact ⟨by rw [E.out,HX.out];rfl,(((((Below.refl _ w).alloc (Nat.le_refl _) _).alloc (by simp) _).alloc (by simp;omega) _).alloc (by simp;omega) _)⟩
def W64:Nat:=18446744073709551616
def numStep (b:Nat) (n:Nat) (o:Int) (d:Int):Nat×Int :=
 ((((n * b % 18446744073709551616:Nat):Int)+d+0) % 18446744073709551616 |>.toNat,
  bits .or .u64 o (bits .or .u64 ((n * b / 18446744073709551616:Nat):Int) ((((n * b % 18446744073709551616:Nat):Int)+d+0) / 18446744073709551616)))
def numLoop (b:Nat):List Int->Int->Nat->Int->Option (Int×Nat×Int)
 | [],y,n,o=>some (y,n,o)
 | c::t,y,n,o =>
   if c=95 then (if y=95 then none else numLoop b t 95 n o)
   else if (b:Int)<=digitOf c then none else numLoop b t c (numStep b n o (digitOf c)).1 (numStep b n o (digitOf c)).2
def limitOf (minus:Bool):Nat:=if minus then 9223372036854775808 else 9223372036854775807
def readEnd (minus:Bool):Option (Int×Nat×Int)->Int×Int
 | none=>(0,4)
 | some (y,n,o)=>if y=95 then (0,4) else if 0<o\/limitOf minus<n then (0,7) else (if minus then -(n:Int) else n,0)
def intsNm (l:List UInt8):List Int:=l.map fun b=>(b.toNat:Int)
def readBy (minus:Bool) (b:Nat) (r:List UInt8):Int×Int :=
 if b=10/\1<r.length/\r.getD 0 0=48 then (0,4) else readEnd minus (numLoop b (intsNm r) 95 0 0)
def readOf (l:List UInt8):Int×Int :=
 if 80<l.length then (0,2) else readBy (Lib.hasPrefix l [45]) (baseOf (Lib.trimPrefix l [45])).1 (baseOf (Lib.trimPrefix l [45])).2
theorem numStep_lt (b n:Nat) (o d:Int):(numStep b n o d).1<18446744073709551616:=by
 unfold numStep
 simp only
 omega
inductive V where
 | mk (k n f:Int) (s:ByteArray) (l:List V) (e:List (ByteArray×V))
namespace V
def k:V->Int|.mk k _ _ _ _ _=>k
def n:V->Int|.mk _ n _ _ _ _=>n
def f:V->Int|.mk _ _ f _ _ _=>f
def s:V->ByteArray|.mk _ _ _ s _ _=>s
def l:V->List V|.mk _ _ _ _ l _=>l
def e:V->List (ByteArray×V)|.mk _ _ _ _ _ e=>e
def zero:V:=.mk 0 0 0 ⟨#[]⟩ [] []
instance:Inhabited V:=⟨zero⟩
theorem eta (v:V):v=.mk v.k v.n v.f v.s v.l v.e:=by cases v;rfl
theorem ext' {v w:V} (h1:v.k=w.k) (h2:v.n=w.n) (h3:v.f=w.f) (h4:v.s=w.s) (h5:v.l=w.l) (h6:v.e=w.e):v=w:=by
 rw [eta v,eta w,h1,h2,h3,h4,h5,h6]
theorem lt_l {v x:V} (h:x∈v.l):SizeOf.sizeOf x<SizeOf.sizeOf v:=by
 cases v with|mk k n f s l e =>
 have:=List.sizeOf_lt_of_mem (show x∈l from h)
 simp;omega
theorem lt_e {v:V} {x:ByteArray×V} (h:x∈v.e):SizeOf.sizeOf x.2<SizeOf.sizeOf v:=by
 cases v with|mk k n f s l e =>
 have:=List.sizeOf_lt_of_mem (show x∈e from h)
 obtain ⟨a,b⟩:=x
 simp at this ⊢;omega
theorem ind {P:V->Prop} (h:∀ v:V,(∀ x∈v.l,P x)->(∀ x∈v.e,P x.2)->P v):∀ v,P v:=by
 have:∀ n (v:V),SizeOf.sizeOf v<=n->P v:=by
  intro n
  induction n with
  | zero=>intro v hv;cases v;simp at hv
  | succ n ih=>exact fun v hv=>h v (fun x hx=>ih x (by have:=lt_l hx;omega)) (fun x hx=>ih x.2 (by have:=lt_e hx;omega))
 exact fun v=>this _ v (Nat.le_refl _)
structure wf (v:V):Prop where
 k0:-9223372036854775808<=v.k
 k1:v.k<=9223372036854775807
 n0:-9223372036854775808<=v.n
 n1:v.n<=9223372036854775807
 f0:0<=v.f
 f1:v.f<=18446744073709551615
 s1:v.s.size<=140737488351232
theorem wf_zero:zero.wf:=⟨by decide,by decide,by decide,by decide,by decide,by decide,by decide⟩
end V
structure Loc where
 v:V
 ad:Option Addr
 cap:Nat
 bd:Option Addr
 dap:Nat
instance:Inhabited Loc:=⟨⟨.zero,none,0,none,0⟩⟩
def Loc.sl (q:Loc):Value:=.slice q.ad q.v.l.length q.cap
def Loc.se (q:Loc):Value:=.slice q.bd q.v.e.length q.dap
def Loc.cs (q:Loc):List Value:=[.int .i64 q.v.k,.int .i64 q.v.n,.int .u64 q.v.f,.string q.v.s,.slice q.ad q.v.l.length q.cap,.slice q.bd q.v.e.length q.dap]
def Loc.val (q:Loc):Value:=.agg #[.int .i64 q.v.k,.int .i64 q.v.n,.int .u64 q.v.f,.string q.v.s,.slice q.ad q.v.l.length q.cap,.slice q.bd q.v.e.length q.dap]
structure CellsAt (w:World) (b o:Nat) (q:Loc):Prop where
 c0:w.cell? ⟨b,o,none⟩=some (.int .i64 q.v.k)
 c1:w.cell? ⟨b,o+1,none⟩=some (.int .i64 q.v.n)
 c2:w.cell? ⟨b,o+2,none⟩=some (.int .u64 q.v.f)
 c3:w.cell? ⟨b,o+3,none⟩=some (.string q.v.s)
 c4:w.cell? ⟨b,o+4,none⟩=some (.slice q.ad q.v.l.length q.cap)
 c5:w.cell? ⟨b,o+5,none⟩=some (.slice q.bd q.v.e.length q.dap)
theorem CellsAt.through {w w':World} {b o:Nat} {q:Loc} (h:CellsAt w b o q) (hb:w'.heap[b]?=w.heap[b]?):CellsAt w' b o q:=by
 have hq:∀ o,w'.cell? ⟨b,o,none⟩=w.cell? ⟨b,o,none⟩:=fun o=>World.cell?_of_block hb
 exact ⟨(hq _).trans h.c0,(hq _).trans h.c1,(hq _).trans h.c2,(hq _).trans h.c3,(hq _).trans h.c4,(hq _).trans h.c5⟩
theorem CellsAt.box {w:World} {b:Nat} {q:Loc} {ty:TypeId} (h:w.heap[b]?=some (.cells q.cs.toArray ty)):CellsAt w b 0 q:=by
 constructor<;>simp [World.cell?,h,Loc.cs]
def lp (l:List V):List (ByteArray×V):=l.map fun x=>(⟨#[]⟩,x)
theorem lp_len (l:List V):(lp l).length=l.length:=by simp [lp]
theorem lp_get {l:List V} {i:Nat} {x:V} (h:l[i]?=some x):(lp l)[i]?=some (⟨#[]⟩,x):=by simp [lp,h]
def st (t:Bool):Nat:=if t then 7 else 6
def fd (t:Bool):Nat:=if t then 1 else 0
inductive RowAt (w:World) (B:Nat->Prop):Bool->List (ByteArray×V)->Value->Prop
 | nil (t:Bool) (ad:Option Addr) (cap:Nat):RowAt w B t [] (.slice ad 0 cap)
 | row (t:Bool) (xs:List (ByteArray×V)) (blk off cap:Nat) (sl se:Nat->Value) (hne:xs≠[]) (hn:xs.length * (st t * 16 - 8)<=140737488351232) (hB:B blk) (hlt:blk<w.heap.size)
   (hk:t=true->∀ i x,xs[i]?=some x->w.cell? ⟨blk,off+i * 7,none⟩=some (.string x.1)/\x.1.size<=140737488351232)
   (hc:∀ i x,xs[i]?=some x->x.2.wf/\w.cell? ⟨blk,off+i * st t+fd t,none⟩=some (.int .i64 x.2.k)/\w.cell? ⟨blk,off+i * st t+fd t+1,none⟩=some (.int .i64 x.2.n) /\
     w.cell? ⟨blk,off+i * st t+fd t+2,none⟩=some (.int .u64 x.2.f)/\w.cell? ⟨blk,off+i * st t+fd t+3,none⟩=some (.string x.2.s) /\
     w.cell? ⟨blk,off+i * st t+fd t+4,none⟩=some (sl i)/\w.cell? ⟨blk,off+i * st t+fd t+5,none⟩=some (se i))
   (hl:∀ i x,xs[i]?=some x->RowAt w B false (lp x.2.l) (sl i)) (he:∀ i x,xs[i]?=some x->RowAt w B true x.2.e (se i)) :
   RowAt w B t xs (.slice (some ⟨blk,off,none⟩) xs.length cap)
structure VAt (w:World) (B:Nat->Prop) (q:Loc):Prop where
 wf:q.v.wf
 l:RowAt w B false (lp q.v.l) (.slice q.ad q.v.l.length q.cap)
 e:RowAt w B true q.v.e (.slice q.bd q.v.e.length q.dap)
theorem RowAt.through {w w':World} {B C:Nat->Prop} {t:Bool} {xs:List (ByteArray×V)} {v:Value} (h:RowAt w B t xs v) (hs:w.heap.size<=w'.heap.size)
 (hb:∀ b,B b->b<w.heap.size->w'.heap[b]?=w.heap[b]?) (hC:∀ b,B b->b<w.heap.size->C b):RowAt w' C t xs v:=by
 induction h with
 | nil t ad cap=>exact .nil t ad cap
 | row t xs blk off cap sl se hne hn hB hlt hk hc hl he ihl ihe =>
   have hq:∀ o,w'.cell? ⟨blk,o,none⟩=w.cell? ⟨blk,o,none⟩:=fun o=>World.cell?_of_block (hb blk hB hlt)
   refine .row t xs blk off cap sl se hne hn (hC _ hB hlt) (Nat.lt_of_lt_of_le hlt hs) (fun ht i x hi=>?_) (fun i x hi=>?_) ihl ihe
   ·rw [hq];exact hk ht i x hi
   ·rw [hq,hq,hq,hq,hq,hq];exact hc i x hi
theorem RowAt.weak {w:World} {B C:Nat->Prop} {t:Bool} {xs:List (ByteArray×V)} {v:Value} (h:RowAt w B t xs v) (hC:∀ b,B b->b<w.heap.size->C b):RowAt w C t xs v :=
 h.through (Nat.le_refl _) (fun _ _ _=>rfl) hC
theorem RowAt.keep {w w':World} {B:Nat->Prop} {t:Bool} {xs:List (ByteArray×V)} {v:Value} (h:RowAt w B t xs v) (hb:Below w.heap.size w w'):RowAt w' B t xs v :=
 h.through hb.size (fun b _ hl=>hb.block b hl) (fun _ h _=>h)
theorem RowAt.grow {w w':World} {B:Nat->Prop} {t:Bool} {xs:List (ByteArray×V)} {v:Value} {row:Option Nat} (h:RowAt w B t xs v) (hg:w.grownBy w' row) (hr:∀ b,row=some b->¬ B b):RowAt w' B t xs v :=
 h.through hg.size (fun b hB hl=>hg.block b hl (fun e=>hr b e.symm hB)) (fun _ h _=>h)
theorem RowAt.len {w:World} {B:Nat->Prop} {t:Bool} {xs:List (ByteArray×V)} {v:Value} (h:RowAt w B t xs v):∃ ad cap,v=.slice ad xs.length cap:=by
 cases h with
 | nil t ad cap=>exact ⟨ad,cap,rfl⟩
 | row t xs blk off cap=>exact ⟨_,cap,rfl⟩
theorem RowAt.bound {w:World} {B:Nat->Prop} {t:Bool} {xs:List (ByteArray×V)} {v:Value} (h:RowAt w B t xs v):xs.length * (st t * 16 - 8)<=140737488351232:=by
 cases h with
 | nil t ad cap=>simp
 | row t xs blk off cap sl se hne hn=>exact hn
theorem RowAt.llen {w:World} {B:Nat->Prop} {l:List V} {v:Value} (h:RowAt w B false (lp l) v):∃ ad cap,v=.slice ad l.length cap:=by
 have:=h.len;rw [lp_len] at this;exact this
theorem RowAt.elem {w:World} {B:Nat->Prop} {l:List V} {ad:Option Addr} {n cap:Nat} (h:RowAt w B false (lp l) (.slice ad n cap)) (hl:0<l.length):∃ b off,ad=some ⟨b,off,none⟩/\B b/\b<w.heap.size /\
 ∀ i x,l[i]?=some x->∃ q:Loc,q.v=x/\VAt w B q/\CellsAt w b (off+i * 6) q:=by
 generalize hx:lp l=xs at h
 generalize hv:Value.slice ad n cap=v at h
 generalize ht:false=t at h
 cases h with
 | nil t ad cap=>have:=congrArg List.length hx;rw [lp_len,List.length_nil] at this;omega
 | row t xs blk off cap sl se hne hn hB hlt hk hc hl he =>
   subst hx
   subst ht
   simp only [Value.slice.injEq] at hv
   obtain ⟨rfl,rfl,rfl⟩:=hv
   refine ⟨blk,off,rfl,hB,hlt,fun i x hi=>?_⟩
   obtain ⟨h0,h1,h2,h3,h4,h5,h6⟩:=hc i _ (lp_get hi)
   have hl':=hl i _ (lp_get hi)
   have he':=he i _ (lp_get hi)
   obtain ⟨a1,c1,e1⟩:=hl'.llen
   obtain ⟨a2,c2,e2⟩:=he'.len
   rw [e1] at h5 hl'
   rw [e2] at h6 he'
   exact ⟨⟨x,a1,c1,a2,c2⟩,rfl,⟨h0,hl',he'⟩,h1,h2,h3,h4,h5,h6⟩
theorem RowAt.entry {w:World} {B:Nat->Prop} {l:List (ByteArray×V)} {ad:Option Addr} {n cap:Nat} (h:RowAt w B true l (.slice ad n cap)) (hl:0<l.length):∃ b off,ad=some ⟨b,off,none⟩/\B b/\b<w.heap.size /\
 ∀ i x,l[i]?=some x->x.1.size<=140737488351232/\w.cell? ⟨b,off+i * 7,none⟩=some (.string x.1)/\∃ q:Loc,q.v=x.2/\VAt w B q/\CellsAt w b (off+i * 7+1) q:=by
 generalize hv:Value.slice ad n cap=v at h
 generalize ht:true=t at h
 cases h with
 | nil t ad cap=>simp at hl
 | row t xs blk off cap sl se hne hn hB hlt hk hc hl he =>
   subst ht
   simp only [Value.slice.injEq] at hv
   obtain ⟨rfl,rfl,rfl⟩:=hv
   refine ⟨blk,off,rfl,hB,hlt,fun i x hi=>?_⟩
   obtain ⟨h0,h1,h2,h3,h4,h5,h6⟩:=hc i _ hi
   obtain ⟨k1,k2⟩:=hk rfl i x hi
   have hl':=hl i _ hi
   have he':=he i _ hi
   obtain ⟨a1,c1,e1⟩:=hl'.llen
   obtain ⟨a2,c2,e2⟩:=he'.len
   rw [e1] at h5 hl'
   rw [e2] at h6 he'
   exact ⟨k2,k1,⟨x.2,a1,c1,a2,c2⟩,rfl,⟨h0,hl',he'⟩,h1,h2,h3,h4,h5,h6⟩
theorem CellsAt.seven {w:World} {b o:Nat} {q:Loc} (h:CellsAt w b (o+1) q):w.cell? ⟨b,o+1,none⟩=some (.int .i64 q.v.k)/\w.cell? ⟨b,o+2,none⟩=some (.int .i64 q.v.n)/\w.cell? ⟨b,o+3,none⟩=some (.int .u64 q.v.f) /\
 w.cell? ⟨b,o+4,none⟩=some (.string q.v.s)/\w.cell? ⟨b,o+5,none⟩=some (.slice q.ad q.v.l.length q.cap)/\w.cell? ⟨b,o+6,none⟩=some (.slice q.bd q.v.e.length q.dap):=h.casesOn fun a b c d e f=>⟨a,b,c,d,e,f⟩
theorem RowAt.lbound {w:World} {B:Nat->Prop} {l:List V} {v:Value} (h:RowAt w B false (lp l) v):l.length * 88<=140737488351232:=by
 have:=h.bound;rw [lp_len] at this;simpa [st] using this
theorem RowAt.ebound {w:World} {B:Nat->Prop} {l:List (ByteArray×V)} {v:Value} (h:RowAt w B true l v):l.length * 104<=140737488351232:=by
 have:=h.bound;simpa [st] using this
variable {w w':World} {B C:Nat->Prop} {q:Loc}
theorem VAt.through (h:VAt w B q) (hs:w.heap.size<=w'.heap.size) (hb:∀ b,B b->b<w.heap.size->w'.heap[b]?=w.heap[b]?) (hC:∀ b,B b->b<w.heap.size->C b):VAt w' C q :=
 ⟨h.wf,h.l.through hs hb hC,h.e.through hs hb hC⟩
theorem VAt.weak (h:VAt w B q) (hC:∀ b,B b->b<w.heap.size->C b):VAt w C q:=⟨h.wf,h.l.weak hC,h.e.weak hC⟩
theorem VAt.keep (h:VAt w B q) (hb:Below w.heap.size w w'):VAt w' B q:=⟨h.wf,h.l.keep hb,h.e.keep hb⟩
theorem VAt.grow {row:Option Nat} (h:VAt w B q) (hg:w.grownBy w' row) (hr:∀ b,row=some b->¬ B b):VAt w' B q:=⟨h.wf,h.l.grow hg hr,h.e.grow hg hr⟩
theorem VAt.zero (w:World) (B:Nat->Prop) (a b:Option Addr) (c d:Nat):VAt w B ⟨.zero,a,c,b,d⟩:=⟨V.wf_zero,.nil _ _ _,.nil _ _ _⟩
end Go.Proofs.YtldhmfkojaekfaaGreatDoor
namespace Go.Proofs.YtldhmfkojaekfaaGreatDoor
open Go.RowKit Gx
def isK (s:ByteArray) (x:ByteArray×V):Bool:=x.1.toList==s.toList
def fidx (s:ByteArray) (l:List (ByteArray×V)):Nat:=l.findIdx (isK s)
def gtK (s:ByteArray) (x:ByteArray×V):Bool:=!Op.bytesLess x.1.toList s.toList && !(x.1.toList==s.toList)
def gidx (s:ByteArray) (l:List (ByteArray×V)):Nat:=l.findIdx (gtK s)
def dropL (l:List (ByteArray×V)) (s:ByteArray):List (ByteArray×V):=l.filter fun x=>!isK s x
def insL (l:List (ByteArray×V)) (s:ByteArray) (v:V):List (ByteArray×V):=l.take (gidx s l)++(s,v)::l.drop (gidx s l)
def putL (l:List (ByteArray×V)) (s:ByteArray) (v:V):List (ByteArray×V):=insL (dropL l s) s v
theorem isK_iff {s:ByteArray} {x:ByteArray×V}:isK s x=true↔x.1=s:=by
 unfold isK
 rw [beq_iff_eq,ByteArray.toList_eq,ByteArray.toList_eq]
 exact ⟨fun h=>ByteArray.ext (Array.toList_inj.1 h),fun h=>by rw [h]⟩
theorem fidx_lt {s:ByteArray} {l:List (ByteArray×V)}:fidx s l<l.length↔s∈l.map Prod.fst:=by
 unfold fidx
 rw [List.findIdx_lt_length,List.mem_map]
 exact ⟨fun ⟨x,h1,h2⟩=>⟨x,h1,isK_iff.1 h2⟩,fun ⟨x,h1,h2⟩=>⟨x,h1,isK_iff.2 h2⟩⟩
theorem put_mem {l:List (ByteArray×V)} {s:ByteArray} {v:V} {x:ByteArray×V}:x∈putL l s v↔x=(s,v)\/(x∈l/\x.1≠s):=by
 unfold putL insL
 rw [List.mem_append,List.mem_cons]
 have h:x∈dropL l s↔x∈l/\x.1≠s:=by
  unfold dropL
  rw [List.mem_filter]
  refine and_congr_right fun _=>?_
  rw [Bool.not_eq_true',<-Bool.not_eq_true,isK_iff]
 rw [<-h]
 have h2:=List.take_append_drop (gidx s (dropL l s)) (dropL l s)
 constructor
 ·rintro (g|g|g)
  ·exact .inr (List.mem_of_mem_take g)
  ·exact .inl g
  ·exact .inr (List.mem_of_mem_drop g)
 ·rintro (g|g)
  ·exact .inr (.inl g)
  ·rw [<-h2,List.mem_append] at g
   exact g.imp id .inr
theorem put_keys {l:List (ByteArray×V)} {s k:ByteArray} {v:V}:k∈(putL l s v).map Prod.fst↔k=s\/k∈l.map Prod.fst:=by
 rw [List.mem_map,List.mem_map]
 constructor
 ·rintro ⟨x,h,rfl⟩
  rcases put_mem.1 h with rfl|h
  ·exact .inl rfl
  ·exact .inr ⟨x,h.1,rfl⟩
 ·rintro (rfl|⟨x,h,rfl⟩)
  ·exact ⟨_,put_mem.2 (.inl rfl),rfl⟩
  ·by_cases hx:x.1=s
   ·exact ⟨_,put_mem.2 (.inl rfl),hx.symm⟩
   ·exact ⟨x,put_mem.2 (.inr ⟨h,hx⟩),rfl⟩
end Go.Proofs.YtldhmfkojaekfaaGreatDoor
