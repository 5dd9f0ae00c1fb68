/-
  Lemmas for the statement: plain laws, and what functions answer; the conditions stand in each.
-/
import Derived.Laws.Externs
import Derived.Lib.Bytealg
import Derived.Lib.Strings
import Derived.Test.YtgnonbdkmmkdgaaGreatDoorProg
import Derived.Deep.DeepCutAuto
import Derived.Deep.CutBlock
import Derived.Deep.DeepFit
import Derived.Outline
import Derived.WalkLawsBesides
import Derived.StillTailTactics
import Derived.Deep.RegionHeld3
import Derived.Deep.RegionLaw
import Derived.Test.YtgnonbdkmmkdgaaGreatDoorChainTypedAllPartA
set_option linter.unusedVariables false
set_option linter.unusedSimpArgs false
set_option maxHeartbeats 16000000
set_option maxRecDepth 100000
open Go.Lib (hid)
namespace Go.Proofs.YtgnonbdkmmkdgaaGreatDoor
open Go.RowKit Gx
def ReadPost (r:Int×Int) (w:World) (e:Ending) (w':World):Prop:=e=.returned (.tuple #[.int .i64 r.1,.int .i64 r.2])/\Below w.heap.size w w'
theorem baseOf_le (l:List UInt8):(baseOf l).1<=16/\2<=(baseOf l).1/\(baseOf l).2.length<=l.length:=by
 have h:∀ p,(Lib.trimPrefix l p).length<=l.length:=by
  intro p
  unfold Lib.trimPrefix
  split
  ·simp
  ·exact Nat.le_refl _
 unfold baseOf
 split
 ·exact ⟨by simp,by simp,h _⟩
 ·split
  ·exact ⟨by simp,by simp,h _⟩
  ·split
   ·exact ⟨by simp,by simp,h _⟩
   ·exact ⟨by simp,by simp,Nat.le_refl _⟩
theorem byte0 (R:ByteArray) (h:0<R.size):R[0]'h=R.data.toList.getD 0 0:=by
 have h2:0<R.data.size:=h
 show R.data[0]=_
 simp [List.getD,Array.getElem?_eq_getElem h2]
theorem ints_drop (R:ByteArray) (r:List UInt8) (hr:R.data.toList=r) (k:Nat) (hk:k<R.data.size):(intsNm r).drop k=((R.data[k].toNat:Nat):Int)::(intsNm r).drop (k+1):=by
 subst hr
 unfold intsNm
 rw [List.drop_eq_getElem_cons (by simpa using hk)]
 simp
theorem add64_run (x y:Int) (hx:0<=x) (hy:0<=y) (w:World) :
 (callFunc 122 #[.int .u64 x,.int .u64 y,.int .u64 0]).run Tryz.prog w =
   .ok (.value (.tuple #[.int .u64 ((x+y+0) % 18446744073709551616),.int .u64 ((x+y+0) / 18446744073709551616)])) w:=by
 rw [run_callFunc_extern Tryz.func122 (by kernel_rfl) (by kernel_rfl) (by kernel_rfl) (e:=add64Entry) (by kernel_rfl),run_add64 x y 0 hx hy (by omega) (by omega)]
 rfl
theorem read_any (s:ByteArray) (w:World):Calls Tryz.prog 102 #[.string s] w (ReadPost (readOf s.data.toList) w):=by
 by_cases h80:80<s.size
 ·have e:readOf s.data.toList=(0,2):=by unfold readOf;rw [if_pos (by rw [<-Lib.size_eq];exact h80)]
  have E:=hid e
  clear e
  go_enter Tryz.func102,Tryz.ntmps102
  go_wp2
  go_ret2
  exact ⟨by rw [E.out];rfl,Below.refl _ _⟩
 have h1:=Tryz.strings_CutPrefix s ⟨#[45]⟩ w
 obtain ⟨l,hl⟩:∃ l,l=s.data.toList:=⟨_,rfl⟩
 rw [<-hl] at h1 ⊢
 have hll:l.length<=80:=by rw [hl,<-Lib.size_eq];omega
 have htl:(Lib.trimPrefix l [45]).length<=l.length:=by
  unfold Lib.trimPrefix
  split
  ·simp
  ·exact Nat.le_refl _
 have e:readOf l=readBy (Lib.hasPrefix l [45]) (baseOf (Lib.trimPrefix l [45])).1 (baseOf (Lib.trimPrefix l [45])).2:=by
  unfold readOf;rw [if_neg (by omega)]
 obtain ⟨b16,b2,brl⟩:=baseOf_le (Lib.trimPrefix l [45])
 have hbase:=fun w=>base_any ⟨(Lib.trimPrefix l [45]).toArray⟩ w
 simp only [List.toList_toArray] at hbase
 obtain ⟨mi,hmi⟩:∃ m,m=Lib.hasPrefix l [45]:=⟨_,rfl⟩
 obtain ⟨R0,hR0⟩:∃ R:ByteArray,R=⟨(Lib.trimPrefix l [45]).toArray⟩:=⟨_,rfl⟩
 obtain ⟨b,hb⟩:∃ b,b=(baseOf (Lib.trimPrefix l [45])).1:=⟨_,rfl⟩
 obtain ⟨r,hr⟩:∃ r,r=(baseOf (Lib.trimPrefix l [45])).2:=⟨_,rfl⟩
 have h1':Calls Tryz.prog 118 #[.string s,.string ⟨#[45]⟩] w fun e w'=>e=.returned (.tuple #[.string R0,.bool mi])/\w'=w:=by
  rw [hR0,hmi];exact h1
 have hbase':∀ w,Calls Tryz.prog 119 #[.string R0] w fun e w'=>e=.returned (.tuple #[.int .u64 (b:Nat),.string ⟨r.toArray⟩])/\Below w.heap.size w w':=by
  intro w
  have:=hbase w
  unfold BasePost at this
  rw [<-hR0,<-hb,<-hr] at this
  exact this
 rw [<-hmi,<-hb,<-hr] at e
 rw [<-hb] at b16 b2
 rw [<-hr] at brl
 have hrl:r.length<=80:=by omega
 have E:=hid e
 have H1:=hid h1'
 have HB:=hid hbase'
 clear h1 hbase h1' hbase' e hmi hR0 hb hr htl brl hll hl
 obtain ⟨R,hR⟩:∃ R:ByteArray,R=⟨r.toArray⟩:=⟨_,rfl⟩
 have hRl:R.data.toList=r:=by rw [hR]
 have hRs:R.size=r.length:=by rw [Lib.size_eq,hRl]
 rw [<-hR] at HB
 have hR80:R.size<=80:=by omega
 have HRL:=hid hRl
 have HRS:=hid hRs
 clear hRl hRs hR hrl
 rw [E.out]
 go_enter Tryz.func102,Tryz.ntmps102
 go_wp2_with fail
 refine H1.out.mono ?_
 rintro e w' ⟨rfl,rfl⟩
 go_wp2_with fail
 refine (HB.out w').mono ?_
 rintro e w1 ⟨rfl,hb1⟩
 by_cases hz:b=10/\1<r.length/\r.getD 0 0=48
 ·have e2:readBy mi b r=(0,4):=by unfold readBy;rw [if_pos hz]
  obtain ⟨rfl,z1,z2⟩:=hz
  have hpos:0<R.size:=by have:=HRS.out;omega
  have z3:(1:Int)<(R.size:Int):=by have:=HRS.out;omega
  have z4:(((R[0]'hpos).toNat:Int)==48)=true:=by
   rw [byte0 R hpos,HRL.out,z2];rfl
  have E2:=hid e2
  clear e2 z1 z2
  go_wp2_with fail
  go_ret2
  exact ⟨by rw [E2.out];rfl,hb1⟩
 ·have e2:readBy mi b r=readEnd mi (numLoop b (intsNm r) 95 0 0):=by unfold readBy;rw [if_neg hz]
  obtain ⟨Q,hQ⟩:∃ Q,Q=numLoop b (intsNm r) 95 0 0:=⟨_,rfl⟩
  rw [<-hQ] at e2
  have HQ:=hid hQ
  have E2:=hid e2
  obtain ⟨cap,w2,hconv,-,-,hg,hC⟩:=Gx.conv_bytes_run (P:=Tryz.prog) w1 9 180 5 R Tryz.underlying9 Tryz.underlying180 Tryz.underlying5
  have hb2:Below w'.heap.size w' w2:=hb1.grown hg hb1.size (by simp)
  have HC:=hid hC
  have hcase:(b=10/\∃ h:1<R.size,(((R[0]'(by omega)).toNat:Int)==48)=false)\/(b=10/\¬ (1<R.size))\/¬ (b=10):=by
   by_cases c1:b=10
   ·by_cases c2:1<R.size
    ·left
     refine ⟨c1,c2,?_⟩
     rw [byte0 R (by omega),HRL.out]
     cases c3:((((r.getD 0 0).toNat:Nat):Int)==48) with
     | false=>rfl
     | true =>
       exfalso
       refine hz ⟨c1,by rw [<-HRS.out];exact c2,?_⟩
       apply UInt8.toNat_inj.1
       have c4:(((r.getD 0 0).toNat:Nat):Int)=48:=by simpa using c3
       show (r.getD 0 0).toNat=48
       omega
    ·exact .inr (.inl ⟨c1,c2⟩)
   ·exact .inr (.inr c1)
  clear e2 hz hQ hg hC hb1
  have hcase2:(∃ h:1<R.size,((b:Int)==10)=true/\(((R[0]'(by omega)).toNat:Int)==48)=false)\/(((b:Int)==10)=true/\¬ (1<R.size))\/((b:Int)==10)=false:=by
   rcases hcase with ⟨c1,z1,z2⟩|⟨c1,z1⟩|z1
   ·exact .inl ⟨z1,by rw [c1];rfl,z2⟩
   ·exact .inr (.inl ⟨by rw [c1];rfl,z1⟩)
   ·exact .inr (.inr (by simp;omega))
  clear hcase
  rcases hcase2 with ⟨z1,z2,z3⟩|⟨z1,z2⟩|z1
  all_goals
   go_wp2_with fail
   clear hconv
   go_loop [7,8,9,45] (fun nv ov yv iv=>∃ (k n:Nat) (o y:Int),nv=.int .u64 n/\ov=.int .u64 o/\yv=.int .u8 y/\iv=.int .i64 k/\k<=R.size/\n<18446744073709551616/\0<=y/\y<256/\Hid (numLoop b ((intsNm r).drop k) y n o=Q))
    (fun _ _ _ iv=>R.size - (intOf iv).toNat)
   case atStart=>exact ⟨0,0,0,95,rfl,rfl,rfl,rfl,Nat.zero_le _,by decide,by decide,by decide,by rw [List.drop_zero];exact HQ.out.symm⟩
   case round =>
    obtain ⟨k,n,o,y,rfl,rfl,rfl,rfl,hk,hn,hy0,hy1,hq⟩:=hrel
    by_cases hkl:k<R.size
    ·have hkd:k<R.data.size:=hkl
     have hcell:=HC.out k hkd
     have hkr:k<(intsNm r).length:=by unfold intsNm;rw [List.length_map,<-HRS.out];exact hkl
     have hdrop:=ints_drop R r HRL.out k hkd
     have hxlt:=UInt8.toNat_lt (R.data[k])
     obtain ⟨x,hx⟩:∃ x:Nat,x=R.data[k].toNat:=⟨_,rfl⟩
     rw [<-hx] at hcell hdrop hxlt
     have hst:=hq.out
     rw [hdrop,numLoop] at hst
     clear hdrop hx hkr
     have HD:=hid (fun w=>digit_any (x:Int) w (by omega) (by omega))
     unfold DigitPost at HD
     have hdl:=digitOf_le (x:Int)
     obtain ⟨d,hd⟩:∃ d,d=digitOf (x:Int):=⟨_,rfl⟩
     rw [<-hd] at HD hst hdl
     clear hd
     obtain ⟨hd0,hd99⟩:=hdl
     by_cases hx95:x=95
     ·subst hx95
      by_cases hy95:y=95
      ·subst hy95
       have hQ:Q=none:=by rw [<-hst];rfl
       have HQQ:=hid hQ
       clear hst hQ
       go_wp2_with fail
       go_ret2
       exact ⟨by rw [E2.out,HQQ.out];rfl,hb2⟩
      ·have hq2:Hid (numLoop b ((intsNm r).drop (k+1)) 95 n o=Q):=by
        show _=_
        rw [<-hst,if_pos (show ((95:Nat):Int)=95 from rfl),if_neg hy95]
       have hyb:(y==95)=false:=by simpa using hy95
       clear hst
       go_wp2_with fail
       go_round
       case rel=>exact ⟨k+1,n,o,95,rfl,rfl,rfl,by go_num,hkl,hn,by decide,by decide,hq2⟩
       case measure=>simp [intOf];omega
     ·have hxb:((x:Int)==95)=false:=by simp;omega
      rw [if_neg (show ¬ ((x:Int)=95) by omega)] at hst
      by_cases hdb:(b:Int)<=d
      ·have hQ:Q=none:=by rw [<-hst,if_pos hdb]
       have HQQ:=hid hQ
       have hdbd:decide ((b:Int)<=d)=true:=decide_eq_true hdb
       clear hst hQ
       go_wp2_with fail
       refine (HD.out _).mono ?_
       rintro e v1 ⟨rfl,rfl⟩
       go_wp2_with fail
       go_ret2
       exact ⟨by rw [E2.out,HQQ.out];rfl,hb2⟩
      ·have hdbd:decide ((b:Int)<=d)=false:=decide_eq_false hdb
       rw [if_neg hdb] at hst
       have hst2:numLoop b ((intsNm r).drop (k+1)) x (numStep b n o d).1 (numStep b n o d).2=Q:=hst
       have hnl:=numStep_lt b n o d
       unfold numStep at hst2 hnl
       have hm:=fun w=>Tryz.bits_Mul64 n b hn (by omega) w
       obtain ⟨lo,hlo⟩:∃ lo,lo=n * b % 18446744073709551616:=⟨_,rfl⟩
       obtain ⟨hi,hhi⟩:∃ hi,hi=n * b / 18446744073709551616:=⟨_,rfl⟩
       simp only [<-hlo,<-hhi] at hm hst2 hnl
       have hadd:=add64_run (lo:Int) d (by omega) hd0
       obtain ⟨S,hS⟩:∃ S:Nat,(S:Int)=((lo:Int)+d+0) % 18446744073709551616:=⟨(((lo:Int)+d+0) % 18446744073709551616).toNat,by omega⟩
       obtain ⟨cy,hcy⟩:∃ cy,cy=((lo:Int)+d+0) / 18446744073709551616:=⟨_,rfl⟩
       rw [<-hS,Int.toNat_natCast] at hst2 hnl
       rw [<-hcy] at hst2
       rw [<-hS,<-hcy] at hadd
       have HM:=hid hm
       have HST:=hid hst2
       have hAdd:=hadd
       clear hlo hhi hm hst2 hadd hS hcy
       clear hst
       go_wp2_with fail
       refine (HD.out _).mono ?_
       rintro e v1 ⟨rfl,rfl⟩
       go_wp2_with fail
       refine (HM.out _).mono ?_
       rintro e v1 ⟨rfl,rfl⟩
       go_wp2_with fail
       refine (HD.out _).mono ?_
       rintro e v1 ⟨rfl,rfl⟩
       go_wp2_with fail
       go_round
       case rel=>exact ⟨k+1,S,_,x,rfl,rfl,rfl,by go_num,hkl,hnl,by omega,by omega,HST⟩
       case measure=>simp [intOf];omega
    ·have hk2:k=R.size:=by omega
     have hnil:(intsNm r).drop k=[]:=by
      refine List.drop_eq_nil_of_le ?_
      unfold intsNm
      rw [List.length_map,<-HRS.out,hk2];exact Nat.le_refl _
     have hQ:=hq.out
     rw [hnil,numLoop] at hQ
     have HQQ:=hid hQ
     clear hnil hQ
     subst hk2
     by_cases hy95:y=95
     ·subst hy95
      have hE:readEnd mi Q=(0,4):=by rw [<-HQQ.out];rfl
      have HE:=hid hE
      clear hE
      cases mi with
      | true =>
        go_wp2_with fail
        go_ret2
        exact ⟨by rw [E2.out,HE.out];rfl,hb2⟩
      | false =>
        go_wp2_with fail
        go_ret2
        exact ⟨by rw [E2.out,HE.out];rfl,hb2⟩
     ·have hyb:(y==95)=false:=by simpa using hy95
      by_cases ho:0<o
      ·have hE:readEnd mi Q=(0,7):=by rw [<-HQQ.out];unfold readEnd;simp only;rw [if_neg hy95,if_pos (.inl ho)]
       have HE:=hid hE
       have hod:decide (0<o)=true:=decide_eq_true ho
       clear hE
       cases mi with
       | true =>
         go_wp2_with fail
         go_ret2
         exact ⟨by rw [E2.out,HE.out];rfl,hb2⟩
       | false =>
         go_wp2_with fail
         go_ret2
         exact ⟨by rw [E2.out,HE.out];rfl,hb2⟩
      ·have hod:decide (0<o)=false:=decide_eq_false ho
       cases mi with
       | true =>
         by_cases hlim:9223372036854775808<n
         ·have hE:readEnd true Q=(0,7):=by rw [<-HQQ.out];unfold readEnd;simp only;rw [if_neg hy95,if_pos (.inr hlim)]
          have HE:=hid hE
          have hld:decide ((9223372036854775808:Int)<(n:Int))=true:=decide_eq_true (by omega)
          clear hE
          go_wp2_with fail
          go_ret2
          exact ⟨by rw [E2.out,HE.out];rfl,hb2⟩
         ·have hE:readEnd true Q=(-(n:Int),0):=by
           rw [<-HQQ.out];unfold readEnd;simp only;rw [if_neg hy95,if_neg (by intro h;rcases h with h|h;exact ho h;exact hlim h)];rfl
          have HE:=hid hE
          have hld:decide ((9223372036854775808:Int)<(n:Int))=false:=decide_eq_false (by omega)
          have hcv:wrap64 (-wrap64 (n:Int))=-(n:Int):=by unfold wrap64;omega
          have HCV:=hid hcv
          clear hE hcv
          go_wp2_with fail
          go_ret2
          refine ⟨?_,hb2⟩
          rw [E2.out,HE.out]
          show Ending.returned (Value.tuple #[Value.int .i64 (wrap64 (-wrap64 (n:Int))),Value.int .i64 0])=_
          rw [HCV.out]
       | false =>
         by_cases hlim:9223372036854775807<n
         ·have hE:readEnd false Q=(0,7):=by rw [<-HQQ.out];unfold readEnd;simp only;rw [if_neg hy95,if_pos (.inr hlim)]
          have HE:=hid hE
          have hld:decide ((9223372036854775807:Int)<(n:Int))=true:=decide_eq_true (by omega)
          clear hE
          go_wp2_with fail
          go_ret2
          exact ⟨by rw [E2.out,HE.out];rfl,hb2⟩
         ·have hE:readEnd false Q=((n:Int),0):=by
           rw [<-HQQ.out];unfold readEnd;simp only;rw [if_neg hy95,if_neg (by intro h;rcases h with h|h;exact ho h;exact hlim h)];rfl
          have HE:=hid hE
          have hld:decide ((9223372036854775807:Int)<(n:Int))=false:=decide_eq_false (by omega)
          have hcv:IntKind.i64.wrap (n:Int)=(n:Int):=by rw [IntKind.wrap_i64];omega
          clear hE
          go_wp2_with fail
          go_ret2
          exact ⟨by rw [E2.out,HE.out];rfl,hb2⟩
def digBNm (d:Nat):UInt8:=if d<10 then UInt8.ofNat (48+d) else UInt8.ofNat (87+d)
def digFNm:Nat->Nat->Nat->List UInt8
 | 0,_,_=>[]
 | f+1,b,u=>if u<b then [digBNm u] else digFNm f b (u / b)++[digBNm (u % b)]
theorem digFNm_pos (f b u:Nat) (h:u<f):1<=(digFNm f b u).length:=by
 cases f with
 | zero=>omega
 | succ f =>
   unfold digFNm
   split
   ·simp
   ·rw [List.length_append];simp
theorem digFNm_len (b k:Nat) (hb:2<=b):∀ (f u m:Nat),u<f->u<b ^ m->1<=m->(digFNm f b u).length<=m
 | 0,u,m,h,_,_=>by omega
 | f+1,u,m,h,hm,h1=>by
   unfold digFNm
   by_cases hu:u<b
   ·rw [if_pos hu];simpa using h1
   ·rw [if_neg hu,List.length_append]
    have hdiv:u / b<u:=Nat.div_lt_self (by omega) (by omega)
    obtain ⟨j,rfl⟩:∃ j,m=j+1:=⟨m - 1,by omega⟩
    have hj:1<=j:=by
     rcases Nat.eq_zero_or_pos j with h0|h0
     ·subst h0;rw [Nat.zero_add,Nat.pow_one] at hm;omega
     ·exact h0
    have:=digFNm_len b k hb f (u / b) j (by omega) (by rw [Nat.pow_succ,Nat.mul_comm] at hm;exact Nat.div_lt_of_lt_mul hm) hj
    simpa using this
theorem dec_digF:∀ (f u:Nat),u<f->Lib.decDigits u=digFNm f 10 u
 | 0,u,h=>by omega
 | f+1,u,h=>by
   rw [Lib.decDigits]
   unfold digFNm
   by_cases hu:u<10
   ·rw [dif_pos hu,if_pos hu]
    unfold digBNm;rw [if_pos hu]
   ·rw [dif_neg hu,if_neg hu,dec_digF f (u / 10) (by omega)]
    have:u % 10<10:=Nat.mod_lt _ (by decide)
    unfold digBNm;rw [if_pos this]
def frontOf (b:Nat):List UInt8:=if b=16 then [48,120] else if b=8 then [48,111] else if b=2 then [48,98] else []
def toldOf (neg:Bool) (b u:Nat):List UInt8:=(if neg then [45] else [])++(frontOf b++digFNm (u+1) b u)
theorem itoa_told (n:Int):Lib.itoa n=toldOf (decide (n<0)) 10 n.natAbs:=by
 unfold Lib.itoa toldOf
 by_cases h:n<0
 ·rw [if_pos h,decide_eq_true h,dec_digF (n.natAbs+1) n.natAbs (by omega)];rfl
 ·rw [if_neg h,decide_eq_false h,dec_digF (n.natAbs+1) n.toNat (by omega),show n.toNat=n.natAbs by omega];rfl
end Go.Proofs.YtgnonbdkmmkdgaaGreatDoor
namespace Go.Proofs.YtgnonbdkmmkdgaaGreatDoor
open Go
end Go.Proofs.YtgnonbdkmmkdgaaGreatDoor
namespace Go.Proofs.YtgnonbdkmmkdgaaGreatDoor
open Go.RowKit Gx
def more (r:Int) (n:Nat) (x:Option (List Int×Nat)):Option (List Int×Nat):=x.map fun p=>(r::p.1,n+p.2)
theorem enc_ascii (r:Int) (h0:0<=r) (h1:r<=127):Lib.encodeRune r=[r.toNat.toUInt8]:=by
 unfold Lib.encodeRune;rw [Lib.encodeRuneZ_one h0 h1];rfl
theorem enc_high (r:Int) (hg:good r=true) (h:128<=r):∀ b∈Lib.encodeRune r,128<=b.toNat:=by
 rw [good_iff] at hg
 have key:∀ z:Int,128<=z->z<256->128<=(z.toNat.toUInt8).toNat:=by
  intro z h0 h1;rw [byteNat z (by omega) h1];omega
 intro b hb
 unfold Lib.encodeRune at hb
 by_cases r2:r<=2047
 ·rw [Lib.encodeRuneZ_two (by omega) r2] at hb
  simp only [List.map_cons,List.map_nil,List.mem_cons,List.not_mem_nil,or_false] at hb
  rcases hb with rfl|rfl<;>exact key _ (by omega) (by omega)
 by_cases r3:r<=65535
 ·rw [Lib.encodeRuneZ_three (by omega)] at hb
  simp only [List.map_cons,List.map_nil,List.mem_cons,List.not_mem_nil,or_false] at hb
  rcases hb with rfl|rfl|rfl<;>exact key _ (by omega) (by omega)
 ·rw [Lib.encodeRuneZ_four (by omega) (by omega)] at hb
  simp only [List.map_cons,List.map_nil,List.mem_cons,List.not_mem_nil,or_false] at hb
  rcases hb with rfl|rfl|rfl|rfl<;>exact key _ (by omega) (by omega)
theorem okText_ascii (c:UInt8) (hc:c.toNat<128) (x:List UInt8):okText (c::x)↔okText x:=by
 have h:=okText_code (c.toNat:Int) (by rw [good_iff];omega) x
 rw [enc_ascii _ (by omega) (by omega)] at h
 have e:((c.toNat:Int)).toNat.toUInt8=c:=by simp
 rw [e] at h
 exact h
theorem okText_asciis (l:List UInt8) (hl:∀ c∈l,c.toNat<128) (x:List UInt8):okText (l++x)↔okText x:=by
 induction l with
 | nil=>exact Iff.rfl
 | cons c l ih =>
   rw [List.cons_append,okText_ascii c (hl c (by simp)),ih (fun c hc=>hl c (by simp [hc]))]
structure Mv where
 k:Int
 p:List ByteArray
 key:ByteArray
 dst:ByteArray
 v:V
def setE (v:V) (e:List (ByteArray×V)):V:=.mk v.k v.n v.f v.s v.l e
def mvText (s:ByteArray):V:=.mk 4 0 0 s [] []
def intOfN (n:Int):V:=.mk 2 n 0 ⟨#[]⟩ [] []
def listOf (l:List V):V:=.mk 5 0 0 ⟨#[]⟩ l []
def becomeV (x:V) (k:Int):Except Int V :=
 if k=4 then (if x.k=2 then .ok (mvText ⟨(Lib.itoa x.n).toArray⟩) else .error 10)
 else if k=5 then (if x.k=4 then (if (readOf x.s.data.toList).2=0 then .ok (intOfN (readOf x.s.data.toList).1) else .error (readOf x.s.data.toList).2) else .error 10)
 else if k=6 then .ok (listOf [x])
 else if x.k=5 then (if x.l.length=1 then .ok (x.l.getD 0 .zero) else .error 8) else .error 10
def entAt (e:List (ByteArray×V)) (s:ByteArray):V:=(e.getD (fidx s e) (⟨#[]⟩,.zero)).2
def tableM (m:Mv) (v:V):Except Int V :=
 if m.k=3 then (if fidx m.key v.e<v.e.length then .error 9 else .ok (setE v (putL v.e m.key m.v)))
 else if fidx m.key v.e<v.e.length then
  (if m.k=1 then (if m.dst≠m.key/\fidx m.dst v.e<v.e.length then .error 9 else .ok (setE v (putL (dropL v.e m.key) m.dst (entAt v.e m.key))))
  else if m.k=2 then .ok (setE v (dropL v.e m.key))
  else match becomeV (entAt v.e m.key) m.k with
   | .ok y=>.ok (setE v (putL v.e m.key y))
   | .error c=>.error c)
 else .error 8
def alongV (ch:V->Except Int V):List ByteArray->V->Except Int V
 | [],v=>if v.k=6 then ch v else .error 10
 | s::p,v=>if v.k=6 then (if fidx s v.e<v.e.length then (match alongV ch p (entAt v.e s) with
    | .ok x=>.ok (setE v (putL v.e s x))
    | .error c=>.error c) else .error 8) else .error 10
def modF (l:List (Fd Ty)) (s:ByteArray) (g:Ty->Ty):List (Fd Ty):=match l with
 | []=>[]
 | f::l=>if f.n=s then { f with t:=g f.t }::l else f::modF l s g
def delF (l:List (Fd Ty)) (s:ByteArray):List (Fd Ty):=match l with
 | []=>[]
 | f::l=>if f.n=s then l else f::delF l s
def setF (a:Ty) (f:List (Fd Ty)):Ty:=.mk a.k a.lo a.hi a.x a.t f a.n
def BecR (a:Ty) (k:Int) (y:Ty):Prop :=
 (k=4/\a.k=4/\y.k=6/\y.lo=1/\y.hi=20) \/
 (k=5/\a.k=7/\y.k=4/\∀ s∈a.x,(readOf s.data.toList).2=0/\y.lo<=(readOf s.data.toList).1/\(readOf s.data.toList).1<=y.hi) \/
 (k=6/\y.k=8/\y.lo=1/\y.hi=1/\y.t=[a]) \/
 (k≠4/\k≠5/\k≠6/\a.k=8/\a.lo=1/\a.hi=1/\y=a.t.getD 0 default)
def RecR (m:Mv) (a u:Ty):Prop:=u=setF a u.f /\
 ((m.k=3/\fdOf a.f m.key=none/\∃ x,Fit false x m.v/\u.f.Perm (a.f++[⟨m.key,false,false,x,.zero⟩])) \/
  (m.k≠3/\∃ f,fdOf a.f m.key=some f/\f.o=false/\f.h=false /\
    ((m.k=1/\(m.dst≠m.key->fdOf a.f m.dst=none)/\u.f.Perm (delF a.f m.key++[{ f with n:=m.dst }])) \/
     (m.k=2/\u.f=delF a.f m.key) \/
     (m.k≠1/\m.k≠2/\∃ y,BecR f.t m.k y/\u.f=modF a.f m.key (fun _=>y)))))
def TypedR (m:Mv):List ByteArray->Ty->Ty->Prop
 | [],a,u=>a.k=10/\RecR m a u
 | s::p,a,u=>a.k=10/\∃ f x,fdOf a.f s=some f/\f.o=false/\f.h=false/\TypedR m p f.t x/\u=setF a (modF a.f s (fun _=>x))
inductive Uq:Ty->Prop
 | mk (a:Ty) (hn:(a.f.map Fd.n).Nodup) (ht:∀ b∈a.t,Uq b) (hf:∀ b∈a.f,Uq b.t):Uq a
theorem fdOf_mem {τ:Type} {l:List (Fd τ)} {s:ByteArray} {f:Fd τ} (h:fdOf l s=some f):f∈l/\f.n=s:=by
 unfold fdOf at h
 have h1:=List.find?_some h
 exact ⟨List.mem_of_find?_eq_some h,by simpa using h1⟩
theorem fdOf_none {τ:Type} {l:List (Fd τ)} {s:ByteArray}:fdOf l s=none↔s∉l.map Fd.n:=by
 unfold fdOf
 rw [List.find?_eq_none,List.mem_map]
 constructor
 ·rintro h ⟨f,hf,rfl⟩
  exact h f hf (by simp)
 ·intro h f hf hs
  exact h ⟨f,hf,by simpa using hs⟩
theorem fdOf_some {τ:Type} {l:List (Fd τ)} {s:ByteArray}:(fdOf l s).isSome=true↔s∈l.map Fd.n:=by
 rw [Option.isSome_iff_ne_none,Ne,fdOf_none,Classical.not_not]
theorem fdOf_uq {τ:Type}:∀ {l:List (Fd τ)} {f:Fd τ},(l.map Fd.n).Nodup->f∈l->fdOf l f.n=some f
 | [],_,_,hf=>absurd hf List.not_mem_nil
 | g::l,f,hn,hf=>by
   rw [List.map_cons,List.nodup_cons] at hn
   unfold fdOf
   rw [List.find?_cons]
   rcases List.mem_cons.1 hf with rfl|hf
   ·simp
   ·have:g.n≠f.n:=fun e=>hn.1 (List.mem_map.2 ⟨f,hf,e.symm⟩)
    rw [decide_eq_false this]
    exact fdOf_uq hn.2 hf
theorem mem_delF:∀ {l:List (Fd Ty)} {s:ByteArray} {g:Fd Ty},(l.map Fd.n).Nodup->(g∈delF l s↔g∈l/\g.n≠s)
 | [],s,g,_=>by simp [delF]
 | f::l,s,g,hn=>by
   rw [List.map_cons,List.nodup_cons] at hn
   rw [delF]
   by_cases h:f.n=s
   ·rw [if_pos h,List.mem_cons]
    constructor
    ·intro hg
     exact ⟨.inr hg,fun e=>hn.1 (List.mem_map.2 ⟨g,hg,e.trans h.symm⟩)⟩
    ·rintro ⟨rfl|hg,h2⟩
     ·exact absurd h h2
     ·exact hg
   ·rw [if_neg h,List.mem_cons,List.mem_cons,mem_delF hn.2]
    constructor
    ·rintro (rfl|hg)
     ·exact ⟨.inl rfl,h⟩
     ·exact ⟨.inr hg.1,hg.2⟩
    ·rintro ⟨rfl|hg,h2⟩
     ·exact .inl rfl
     ·exact .inr ⟨hg,h2⟩
theorem mem_modF:∀ {l:List (Fd Ty)} {s:ByteArray} {y:Ty} {g:Fd Ty},(l.map Fd.n).Nodup->g∈modF l s (fun _=>y)->(g∈l/\g.n≠s)\/∃ f,f∈l/\f.n=s/\g={ f with t:=y }
 | [],s,y,g,_,hg=>absurd hg List.not_mem_nil
 | f::l,s,y,g,hn,hg=>by
   rw [List.map_cons,List.nodup_cons] at hn
   rw [modF] at hg
   by_cases h:f.n=s
   ·rw [if_pos h] at hg
    rcases List.mem_cons.1 hg with rfl|hg
    ·exact .inr ⟨f,List.mem_cons_self,h,rfl⟩
    ·exact .inl ⟨List.mem_cons_of_mem _ hg,fun e=>hn.1 (List.mem_map.2 ⟨g,hg,e.trans h.symm⟩)⟩
   ·rw [if_neg h] at hg
    rcases List.mem_cons.1 hg with rfl|hg
    ·exact .inl ⟨List.mem_cons_self,h⟩
    ·rcases mem_modF hn.2 hg with h1|⟨f',h1,h2,h3⟩
     ·exact .inl ⟨List.mem_cons_of_mem _ h1.1,h1.2⟩
     ·exact .inr ⟨f',List.mem_cons_of_mem _ h1,h2,h3⟩
theorem names_modF:∀ {l:List (Fd Ty)} {s:ByteArray} {g:Ty->Ty},(modF l s g).map Fd.n=l.map Fd.n
 | [],_,_=>rfl
 | f::l,s,g=>by
   rw [modF]
   by_cases h:f.n=s
   ·rw [if_pos h];rfl
   ·rw [if_neg h,List.map_cons,List.map_cons,names_modF]
theorem ent_find {e:List (ByteArray×V)} {s:ByteArray} (h:fidx s e<e.length):(s,entAt e s)∈e:=by
 unfold entAt fidx at *
 have h1:=List.findIdx_getElem (w:=h)
 rw [isK_iff] at h1
 rw [List.getD_eq_getElem?_getD,List.getElem?_eq_getElem h]
 show (s,(e[List.findIdx (isK s) e]).2)∈e
 have h2:(s,(e[List.findIdx (isK s) e]).2)=e[List.findIdx (isK s) e]:=Prod.ext h1.symm rfl
 rw [h2]
 exact List.getElem_mem h
theorem drop_mem {l:List (ByteArray×V)} {s:ByteArray} {x:ByteArray×V}:x∈dropL l s↔x∈l/\x.1≠s:=by
 unfold dropL
 rw [List.mem_filter]
 refine and_congr_right fun _=>?_
 rw [Bool.not_eq_true',<-Bool.not_eq_true,isK_iff]
theorem fit_record {full:Bool} {a:Ty} {v:V} (ha:a.k=10) (h:Fit full a v):v.k=6/\(∀ c∈v.e,c.1∈a.f.map Fd.n)/\(∀ c∈v.e,∀ f,fdOf a.f c.1=some f->Fit full f.t c.2)/\∀ f∈a.f,askF full f=true->f.n∈v.e.map Prod.fst:=by
 cases h with
 | mk _ _ b hb hi hs ho hn hl hm hr hf hq =>
   unfold Ty.pick at hb
   rw [Ty.flat_one (by omega),List.find?_cons] at hb
   cases ht:tells a.k v.k with
   | false=>rw [ht] at hb;simp at hb
   | true =>
     rw [ht] at hb
     obtain rfl:=Option.some.inj hb
     have h6:v.k=6:=by
      rw [ha] at ht
      unfold tells at ht
      simpa using ht
     exact ⟨h6,fun c hc=>fdOf_some.1 (hr ha c hc),hf ha,hq ha⟩
theorem record_fit {full:Bool} {a:Ty} {v:V} (ha:a.k=10) (hv:v.k=6) (h1:∀ c∈v.e,c.1∈a.f.map Fd.n) (h2:∀ c∈v.e,∀ f,fdOf a.f c.1=some f->Fit full f.t c.2) (h3:∀ f∈a.f,askF full f=true->f.n∈v.e.map Prod.fst):Fit full a v:=by
 refine .mk a v a ?_ (fun h=>?_) (fun h=>?_) (fun h=>?_) (fun h=>?_) (fun h=>?_) (fun h=>?_) (fun _ c hc=>fdOf_some.2 (h1 c hc)) (fun _=>h2) (fun _=>h3)
 ·unfold Ty.pick
  rw [Ty.flat_one (by omega),List.find?_cons,ha,hv]
  rfl
 all_goals omega
theorem fit_plain {full:Bool} {a:Ty} {v:V} (ha:a.k≠11) (h:Fit full a v):tells a.k v.k=true/\(a.k=4->a.lo<=v.n/\v.n<=a.hi)/\(a.k=7->v.s∈a.x)/\(a.k=8->(a.lo<=v.l.length/\(v.l.length:Int)<=a.hi)/\∀ c∈v.l,Fit full (a.t.getD 0 default) c):=by
 cases h with
 | mk _ _ b hb hi hs ho hn hl hm hr hf hq =>
   unfold Ty.pick at hb
   rw [Ty.flat_one ha,List.find?_cons] at hb
   cases ht:tells a.k v.k with
   | false=>rw [ht] at hb;simp at hb
   | true =>
     rw [ht] at hb
     obtain rfl:=Option.some.inj hb
     exact ⟨rfl,hi,ho,fun h8=>⟨hn h8,hl h8⟩⟩
theorem pick_self {a:Ty} {v:Int} (ha:a.k≠11) (ht:tells a.k v=true):a.pick v=some a:=by
 unfold Ty.pick
 rw [Ty.flat_one ha,List.find?_cons,ht]
theorem dig_small10:∀ (f u:Nat),∀ c∈digFNm f 10 u,c.toNat<128
 | 0,_,c,hc=>absurd hc List.not_mem_nil
 | f+1,u,c,hc=>by
   have hd:∀ d,d<10->(digBNm d).toNat<128:=fun d h=>by
    have key:∀ e:Fin 10,(digBNm e.val).toNat<128:=by decide
    exact key ⟨d,h⟩
   rw [digFNm] at hc
   split at hc
   ·obtain rfl:=List.mem_singleton.1 hc;exact hd _ (by assumption)
   ·rcases List.mem_append.1 hc with hc|hc
    ·exact dig_small10 f _ c hc
    ·obtain rfl:=List.mem_singleton.1 hc;exact hd _ (Nat.mod_lt _ (by decide))
theorem encs_ascii:∀ (rs:List Int),rs.all good=true->(∀ c∈encs rs,c.toNat<128)->(encs rs).length=rs.length
 | [],_,_=>rfl
 | r::rs,hg,hc=>by
   rw [List.all_cons,Bool.and_eq_true] at hg
   rw [encs_cons] at hc ⊢
   have h0:=good_iff r |>.1 hg.1
   have hr:r<128:=by
    rcases Int.lt_or_le r 128 with h|h
    ·exact h
    ·exfalso
     have hl:=(enc_len r).1
     cases he:Lib.encodeRune r with
     | nil=>rw [he] at hl;simp at hl
     | cons b t =>
       have h1:=enc_high r hg.1 h b (by rw [he];exact List.mem_cons_self)
       have h2:=hc b (by rw [he];simp)
       omega
   rw [enc_ascii r (by omega) (by omega)] at hc ⊢
   rw [List.length_append,encs_ascii rs hg.2 (fun c h=>hc c (List.mem_append_right _ h))]
   simp;omega
theorem rune_ascii {l:List UInt8} (h:∀ c∈l,c.toNat<128):runeN l=l.length:=by
 have ho:okText l:=by
  have:=(okText_asciis l h []).2 okText_nil
  rwa [List.append_nil] at this
 unfold runeN
 rw [dif_pos ho]
 obtain ⟨h1,h2⟩:=ho.choose_spec
 rw [<-encs_ascii _ h1 (by rw [<-h2];exact h),<-h2]
theorem rune_itoa (n:Int):runeN (Lib.itoa n)=(Lib.itoa n).length:=by
 refine rune_ascii (fun c hc=>?_)
 unfold Lib.itoa at hc
 have hd:∀ u,∀ c∈Lib.decDigits u,c.toNat<128:=fun u c hc=>by
  rw [dec_digF (u+1) u (by omega)] at hc
  exact dig_small10 _ _ c hc
 split at hc
 ·rcases List.mem_cons.1 hc with rfl|hc
  ·decide
  ·exact hd _ c hc
 ·exact hd _ c hc
theorem itoa_bound (n:Int) (h0:-9223372036854775808<=n) (h1:n<=9223372036854775807):1<=(Lib.itoa n).length/\(Lib.itoa n).length<=20:=by
 rw [itoa_told]
 have key:∀ u:Nat,u<=9223372036854775808->1<=(digFNm (u+1) 10 u).length/\(digFNm (u+1) 10 u).length<=19:=fun u hu =>
  ⟨digFNm_pos _ _ _ (by omega),digFNm_len 10 0 (by omega) (u+1) u 19 (by omega) (by omega) (by omega)⟩
 obtain ⟨k1,k2⟩:=key n.natAbs (by omega)
 have hf:frontOf 10=[]:=rfl
 unfold toldOf
 rw [hf,List.nil_append,List.length_append]
 split<;>simp<;>omega
theorem become_fit {a y:Ty} {x:V} {k:Int} (h:BecR a k y) (hx:Fit false a x) (hw:x.wf):∃ z,becomeV x k=.ok z/\Fit false y z:=by
 rcases h with ⟨rfl,ha,y1,y2,y3⟩|⟨rfl,ha,y1,y2⟩|⟨rfl,y1,y2,y3,y4⟩|⟨k4,k5,k6,ha,a2,a3,rfl⟩
 ·obtain ⟨t1,-⟩:=fit_plain (by omega) hx
  have hk:x.k=2:=by rw [ha] at t1;unfold tells at t1;simpa using t1
  refine ⟨mvText ⟨(Lib.itoa x.n).toArray⟩,by unfold becomeV;rw [if_pos rfl,if_pos hk],?_⟩
  obtain ⟨b1,b2⟩:=itoa_bound x.n hw.n0 hw.n1
  have hr:=rune_itoa x.n
  refine .mk y _ y (pick_self (by omega) (by rw [y1];rfl)) (fun h=>?_) (fun h=>?_) (fun h=>?_) (fun h=>?_) (fun h=>?_) (fun h=>?_) (fun h=>?_) (fun h=>?_) (fun h=>?_)
  case refine_2 =>
   show y.lo<=runeN (Lib.itoa x.n)/\(runeN (Lib.itoa x.n):Int)<=y.hi
   rw [hr];omega
  all_goals omega
 ·obtain ⟨t1,-,t3,-⟩:=fit_plain (by omega) hx
  have hk:x.k=4:=by rw [ha] at t1;unfold tells at t1;simpa using t1
  obtain ⟨r1,r2,r3⟩:=y2 _ (t3 ha)
  refine ⟨intOfN (readOf x.s.data.toList).1,by unfold becomeV;rw [if_neg (by decide),if_pos rfl,if_pos hk,if_pos r1],?_⟩
  refine .mk y _ y (pick_self (by omega) (by rw [y1];rfl)) (fun h=>?_) (fun h=>?_) (fun h=>?_) (fun h=>?_) (fun h=>?_) (fun h=>?_) (fun h=>?_) (fun h=>?_) (fun h=>?_)
  case refine_1=>exact ⟨r2,r3⟩
  all_goals omega
 ·refine ⟨listOf [x],by unfold becomeV;rw [if_neg (by decide),if_neg (by decide),if_pos rfl],?_⟩
  refine .mk y _ y (pick_self (by omega) (by rw [y1];rfl)) (fun h=>?_) (fun h=>?_) (fun h=>?_) (fun h=>?_) (fun h=>?_) (fun h=>?_) (fun h=>?_) (fun h=>?_) (fun h=>?_)
  case refine_4=>show y.lo<=((1:Nat):Int)/\((1:Nat):Int)<=y.hi;omega
  case refine_5 =>
   intro c hc
   obtain rfl:c=x:=List.mem_singleton.1 hc
   rw [y4];exact hx
  all_goals omega
 ·obtain ⟨t1,-,-,t4⟩:=fit_plain (by omega) hx
  have hk:x.k=5:=by rw [ha] at t1;unfold tells at t1;simpa using t1
  obtain ⟨⟨l1,l2⟩,l3⟩:=t4 ha
  have hl:x.l.length=1:=by omega
  obtain ⟨z,hz⟩:∃ z,x.l=[z]:=List.length_eq_one_iff.1 hl
  refine ⟨z,by unfold becomeV;rw [if_neg k4,if_neg k5,if_neg k6,if_pos hk,if_pos hl,hz];rfl,l3 z (by rw [hz];exact List.mem_singleton_self _)⟩
def WfD:Nat->V->Prop
 | 0,_=>True
 | d+1,v=>v.wf/\(∀ c∈v.l,WfD d c)/\∀ c∈v.e,WfD d c.2
theorem put_fit {a u:Ty} {v:V} {s:ByteArray} {f:Fd Ty} {y:Ty} {z:V} (hn:(a.f.map Fd.n).Nodup) (f1:f∈a.f) (h1:∀ c∈v.e,c.1∈a.f.map Fd.n) (old:∀ c∈v.e,∀ g∈a.f,g.n=c.1->Fit false g.t c.2) (h3:∀ g∈a.f,askF false g=true->g.n∈v.e.map Prod.fst)
 (hp:u.f=modF a.f s (fun _=>y)) (hf:fdOf a.f s=some f) (hz:Fit false y z)
 (key:∀ e:List (ByteArray×V),(∀ c∈e,c.1∈u.f.map Fd.n)->(∀ c∈e,∀ f∈u.f,f.n=c.1->Fit false f.t c.2)->(∀ f∈u.f,askF false f=true->f.n∈e.map Prod.fst)->Fit false u (setE v e)):Fit false u (setE v (putL v.e s z)):=by
 obtain ⟨-,f2⟩:=fdOf_mem hf
 have hnm:u.f.map Fd.n=a.f.map Fd.n:=by rw [hp,names_modF]
 refine key _ ?_ ?_ ?_
 ·intro c hc
  rw [hnm]
  rcases put_mem.1 hc with rfl|⟨hc,-⟩
  ·exact List.mem_map.2 ⟨f,f1,f2⟩
  ·exact h1 c hc
 ·intro c hc g hg e
  rw [hp] at hg
  rcases put_mem.1 hc with rfl|⟨hc,hne⟩
  ·rcases mem_modF hn hg with ⟨-,hg2⟩|⟨f',-,-,rfl⟩
   ·exact absurd e hg2
   ·exact hz
  ·rcases mem_modF hn hg with ⟨hg1,-⟩|⟨f',-,e2,rfl⟩
   ·exact old c hc g hg1 e
   ·exact absurd (e.symm.trans e2) hne
 ·intro g hg ha'
  rw [hp] at hg
  rw [put_keys]
  rcases mem_modF hn hg with ⟨hg1,-⟩|⟨f',hf',e2,rfl⟩
  ·exact .inr (h3 g hg1 ha')
  ·exact .inl e2
theorem table_fit {m:Mv} {a u:Ty} {v:V} (ha:a.k=10) (h:RecR m a u) (hn:(a.f.map Fd.n).Nodup) (hx:Fit false a v) (hw:∀ c∈v.e,c.2.wf):∃ z,tableM m v=.ok z/\Fit false u z:=by
 obtain ⟨hk,h1,h2,h3⟩:=fit_record ha hx
 obtain ⟨hu,h⟩:=h
 have hu10:u.k=10:=by rw [hu];exact ha
 have hz:∀ e,(setE v e).k=6:=fun e=>hk
 have key:∀ e:List (ByteArray×V),(∀ c∈e,c.1∈u.f.map Fd.n)->(∀ c∈e,∀ f∈u.f,f.n=c.1->Fit false f.t c.2)->(∀ f∈u.f,askF false f=true->f.n∈e.map Prod.fst)->Fit false u (setE v e) :=
  fun e k1 k2 k3=>record_fit hu10 (hz e) k1 (fun c hc f hf=>k2 c hc f (fdOf_mem hf).1 (fdOf_mem hf).2) k3
 have old:∀ c∈v.e,∀ f∈a.f,f.n=c.1->Fit false f.t c.2:=fun c hc f hf e=>h2 c hc f (by rw [<-e];exact fdOf_uq hn hf)
 rcases h with ⟨m3,hno,x,hxf,hp⟩|⟨m3,f,hf,ho,hh,h⟩
 ·have hno':=fdOf_none.1 hno
  have hnf:¬ fidx m.key v.e<v.e.length:=by
   rw [fidx_lt]
   rintro hm
   obtain ⟨c,hc,e⟩:=List.mem_map.1 hm
   exact hno' (e▸h1 c hc)
  refine ⟨setE v (putL v.e m.key m.v),by unfold tableM;rw [if_pos m3,if_neg hnf],key _ ?_ ?_ ?_⟩
  ·intro c hc
   rw [(hp.map Fd.n).mem_iff,List.map_append,List.mem_append]
   rcases put_mem.1 hc with rfl|⟨hc,-⟩
   ·exact .inr (by simp)
   ·exact .inl (h1 c hc)
  ·intro c hc g hg e
   rw [hp.mem_iff,List.mem_append,List.mem_singleton] at hg
   rcases put_mem.1 hc with rfl|⟨hc,hne⟩
   ·rcases hg with hg|rfl
    ·exact absurd (List.mem_map.2 ⟨g,hg,e⟩) hno'
    ·exact hxf
   ·rcases hg with hg|rfl
    ·exact old c hc g hg e
    ·exact absurd e.symm hne
  ·intro g hg ha'
   rw [hp.mem_iff,List.mem_append,List.mem_singleton] at hg
   rw [put_keys]
   rcases hg with hg|rfl
   ·exact .inr (h3 g hg ha')
   ·exact .inl rfl
 ·obtain ⟨f1,f2⟩:=fdOf_mem hf
  have hask:askF false f=true:=by unfold askF;rw [ho,hh];rfl
  have hin:fidx m.key v.e<v.e.length:=by rw [fidx_lt,<-f2];exact h3 f f1 hask
  have hent:=ent_find hin
  have hfx:=h2 _ hent f hf
  have hwx:=hw _ hent
  unfold tableM
  rw [if_neg m3,if_pos hin]
  rcases h with ⟨m1,hto,hp⟩|⟨m2,hp⟩|⟨m1,m2,y,hb,hp⟩
  ·have hnt:¬ (m.dst≠m.key/\fidx m.dst v.e<v.e.length):=by
    rintro ⟨e1,e2⟩
    rw [fidx_lt] at e2
    obtain ⟨c,hc,e⟩:=List.mem_map.1 e2
    exact fdOf_none.1 (hto e1) (e▸h1 c hc)
   rw [if_pos m1,if_neg hnt]
   have hdst:∀ g∈a.f,g.n≠m.key->g.n≠m.dst:=fun g hg e1 e2=>fdOf_none.1 (hto (by rw [<-e2];exact e1)) (List.mem_map.2 ⟨g,hg,e2⟩)
   refine ⟨_,rfl,key _ ?_ ?_ ?_⟩
   ·intro c hc
    rw [(hp.map Fd.n).mem_iff,List.map_append,List.mem_append]
    rcases put_mem.1 hc with rfl|⟨hc,-⟩
    ·exact .inr (by simp)
    ·obtain ⟨hc,hne⟩:=drop_mem.1 hc
     obtain ⟨g,hg,e⟩:=List.mem_map.1 (h1 c hc)
     exact .inl (List.mem_map.2 ⟨g,(mem_delF hn).2 ⟨hg,by rw [e];exact hne⟩,e⟩)
   ·intro c hc g hg e
    rw [hp.mem_iff,List.mem_append,List.mem_singleton] at hg
    rcases put_mem.1 hc with rfl|⟨hc,hne⟩
    ·rcases hg with hg|rfl
     ·obtain ⟨g1,g2⟩:=(mem_delF hn).1 hg
      exact absurd e (hdst g g1 g2)
     ·exact hfx
    ·obtain ⟨hc,hnk⟩:=drop_mem.1 hc
     rcases hg with hg|rfl
     ·exact old c hc g ((mem_delF hn).1 hg).1 e
     ·exact absurd e.symm hne
   ·intro g hg ha'
    rw [hp.mem_iff,List.mem_append,List.mem_singleton] at hg
    rw [put_keys]
    rcases hg with hg|rfl
    ·obtain ⟨g1,g2⟩:=(mem_delF hn).1 hg
     obtain ⟨c,hc,e⟩:=List.mem_map.1 (h3 g g1 ha')
     exact .inr (List.mem_map.2 ⟨c,drop_mem.2 ⟨hc,by rw [e];exact g2⟩,e⟩)
    ·exact .inl rfl
  ·rw [if_neg (by omega),if_pos m2]
   refine ⟨_,rfl,key _ ?_ ?_ ?_⟩
   ·intro c hc
    obtain ⟨hc,hne⟩:=drop_mem.1 hc
    obtain ⟨g,hg,e⟩:=List.mem_map.1 (h1 c hc)
    rw [hp]
    exact List.mem_map.2 ⟨g,(mem_delF hn).2 ⟨hg,by rw [e];exact hne⟩,e⟩
   ·intro c hc g hg e
    rw [hp] at hg
    exact old c (drop_mem.1 hc).1 g ((mem_delF hn).1 hg).1 e
   ·intro g hg ha'
    rw [hp] at hg
    obtain ⟨g1,g2⟩:=(mem_delF hn).1 hg
    obtain ⟨c,hc,e⟩:=List.mem_map.1 (h3 g g1 ha')
    exact List.mem_map.2 ⟨c,drop_mem.2 ⟨hc,by rw [e];exact g2⟩,e⟩
  ·rw [if_neg m1,if_neg m2]
   obtain ⟨z,hz1,hz2⟩:=become_fit hb hfx hwx
   rw [hz1]
   refine ⟨_,rfl,put_fit hn ?_ h1 old h3 hp hf hz2 key⟩
   exact f1
theorem along_fit {m:Mv}:∀ (p:List ByteArray) (a u:Ty) (v:V),TypedR m p a u->Uq a->Fit false a v->(∀ d,WfD d v)->∃ z,alongV (tableM m) p v=.ok z/\Fit false u z
 | [],a,u,v,h,hq,hx,hw=>by
   have hk:=(fit_record h.1 hx).1
   rw [alongV,if_pos hk]
   cases hq with
   | mk _ hn _ _=>exact table_fit h.1 h.2 hn hx (fun c hc=>(hw 2).2.2 c hc |>.1)
 | s::p,a,u,v,h,hq,hx,hw=>by
   obtain ⟨ha,f,x,hf,ho,hh,ht,hu⟩:=h
   obtain ⟨hk,h1,h2,h3⟩:=fit_record ha hx
   cases hq with
   | mk _ hn _ hqf =>
     obtain ⟨f1,f2⟩:=fdOf_mem hf
     have hask:askF false f=true:=by unfold askF;rw [ho,hh];rfl
     have hin:fidx s v.e<v.e.length:=by rw [fidx_lt,<-f2];exact h3 f f1 hask
     have hent:=ent_find hin
     obtain ⟨z,hz1,hz2⟩:=along_fit p f.t x (entAt v.e s) ht (hqf f f1) (h2 _ hent f hf) (fun d=>(hw (d+1)).2.2 (s,entAt v.e s) hent)
     rw [alongV,if_pos hk,if_pos hin,hz1]
     have hu10:u.k=10:=by rw [hu];exact ha
     refine ⟨_,rfl,put_fit (a:=a) (u:=u) hn f1 h1 (fun c hc g hg e=>h2 c hc g (by rw [<-e];exact fdOf_uq hn hg)) h3 (by rw [hu];rfl) hf hz2 (fun e k1 k2 k3=>record_fit hu10 hk k1 (fun c hc g hg=>k2 c hc g (fdOf_mem hg).1 (fdOf_mem hg).2) k3)⟩
structure Ty.wf (a:Ty):Prop where
 k0:-9223372036854775808<=a.k
 k1:a.k<=9223372036854775807
 l0:-9223372036854775808<=a.lo
 l1:a.lo<=9223372036854775807
 h0:-9223372036854775808<=a.hi
 h1:a.hi<=9223372036854775807
 s1:a.n.size<=140737488351232
theorem Ty.wf_zero:Ty.zero.wf:=⟨by decide,by decide,by decide,by decide,by decide,by decide,by decide⟩
structure Lt where
 v:Ty
 xd:Option Addr
 xc:Nat
 td:Option Addr
 tc:Nat
 fd:Option Addr
 fc:Nat
instance:Inhabited Lt:=⟨⟨.zero,none,0,none,0,none,0⟩⟩
def Lt.val (q:Lt):Value:=.agg #[.int .i64 q.v.k,.int .i64 q.v.lo,.int .i64 q.v.hi,.slice q.xd q.v.x.length q.xc,.slice q.td q.v.t.length q.tc,.slice q.fd q.v.f.length q.fc,.string q.v.n]
def Lt.cs (q:Lt):List Value:=[.int .i64 q.v.k,.int .i64 q.v.lo,.int .i64 q.v.hi,.slice q.xd q.v.x.length q.xc,.slice q.td q.v.t.length q.tc,.slice q.fd q.v.f.length q.fc,.string q.v.n]
structure TcAt (w:World) (b o:Nat) (q:Lt):Prop where
 c0:w.cell? ⟨b,o,none⟩=some (.int .i64 q.v.k)
 c1:w.cell? ⟨b,o+1,none⟩=some (.int .i64 q.v.lo)
 c2:w.cell? ⟨b,o+2,none⟩=some (.int .i64 q.v.hi)
 c3:w.cell? ⟨b,o+3,none⟩=some (.slice q.xd q.v.x.length q.xc)
 c4:w.cell? ⟨b,o+4,none⟩=some (.slice q.td q.v.t.length q.tc)
 c5:w.cell? ⟨b,o+5,none⟩=some (.slice q.fd q.v.f.length q.fc)
 c6:w.cell? ⟨b,o+6,none⟩=some (.string q.v.n)
theorem TcAt.through {w w':World} {b o:Nat} {q:Lt} (h:TcAt w b o q) (hb:w'.heap[b]?=w.heap[b]?):TcAt w' b o q:=by
 have hq:∀ o,w'.cell? ⟨b,o,none⟩=w.cell? ⟨b,o,none⟩:=fun o=>World.cell?_of_block hb
 exact ⟨(hq _).trans h.c0,(hq _).trans h.c1,(hq _).trans h.c2,(hq _).trans h.c3,(hq _).trans h.c4,(hq _).trans h.c5,(hq _).trans h.c6⟩
theorem TcAt.box {w:World} {b:Nat} {q:Lt} {ty:TypeId} (h:w.heap[b]?=some (.cells q.cs.toArray ty)):TcAt w b 0 q:=by
 constructor<;>simp [World.cell?,h,Lt.cs]
inductive SRow (w:World) (B:Nat->Prop):List ByteArray->Value->Prop
 | nil (ad:Option Addr) (cap:Nat):SRow w B [] (.slice ad 0 cap)
 | row (xs:List ByteArray) (blk off cap:Nat) (hne:xs≠[]) (hn:xs.length * 16<=140737488351232) (hB:B blk) (hlt:blk<w.heap.size) (hc:∀ i x,xs[i]?=some x->w.cell? ⟨blk,off+i,none⟩=some (.string x)/\x.size<=140737488351232) :
   SRow w B xs (.slice (some ⟨blk,off,none⟩) xs.length cap)
def tf (l:List Ty):List (Fd Ty):=l.map fun x=>⟨⟨#[]⟩,false,false,x,.zero⟩
theorem tf_len (l:List Ty):(tf l).length=l.length:=by simp [tf]
theorem tf_get {l:List Ty} {i:Nat} {x:Ty} (h:l[i]?=some x):(tf l)[i]?=some ⟨⟨#[]⟩,false,false,x,.zero⟩:=by simp [tf,h]
def sw (t:Bool):Nat:=if t then 16 else 7
def so (t:Bool):Nat:=if t then 3 else 0
inductive TRow (w:World) (B:Nat->Prop):Bool->List (Fd Ty)->Value->Prop
 | nil (t:Bool) (ad:Option Addr) (cap:Nat):TRow w B t [] (.slice ad 0 cap)
 | row (t:Bool) (xs:List (Fd Ty)) (blk off cap:Nat) (sx st sf vl ve:Nat->Value) (hne:xs≠[]) (hn:xs.length * 112<=140737488351232) (hB:B blk) (hlt:blk<w.heap.size)
   (hk:t=true->∀ i x,xs[i]?=some x->(w.cell? ⟨blk,off+i * 16,none⟩=some (.string x.n)/\x.n.size<=140737488351232)/\w.cell? ⟨blk,off+i * 16+1,none⟩=some (.bool x.o)/\w.cell? ⟨blk,off+i * 16+2,none⟩=some (.bool x.h))
   (hd:t=true->∀ i x,xs[i]?=some x->x.d.wf/\w.cell? ⟨blk,off+i * 16+10,none⟩=some (.int .i64 x.d.k)/\w.cell? ⟨blk,off+i * 16+11,none⟩=some (.int .i64 x.d.n)/\w.cell? ⟨blk,off+i * 16+12,none⟩=some (.int .u64 x.d.f) /\
     w.cell? ⟨blk,off+i * 16+13,none⟩=some (.string x.d.s)/\w.cell? ⟨blk,off+i * 16+14,none⟩=some (vl i)/\w.cell? ⟨blk,off+i * 16+15,none⟩=some (ve i))
   (hc:∀ i x,xs[i]?=some x->x.t.wf/\w.cell? ⟨blk,off+i * sw t+so t,none⟩=some (.int .i64 x.t.k)/\w.cell? ⟨blk,off+i * sw t+so t+1,none⟩=some (.int .i64 x.t.lo)/\w.cell? ⟨blk,off+i * sw t+so t+2,none⟩=some (.int .i64 x.t.hi) /\
     w.cell? ⟨blk,off+i * sw t+so t+3,none⟩=some (sx i)/\w.cell? ⟨blk,off+i * sw t+so t+4,none⟩=some (st i)/\w.cell? ⟨blk,off+i * sw t+so t+5,none⟩=some (sf i)/\w.cell? ⟨blk,off+i * sw t+so t+6,none⟩=some (.string x.t.n))
   (hx:∀ i x,xs[i]?=some x->SRow w B x.t.x (sx i)) (ht:∀ i x,xs[i]?=some x->TRow w B false (tf x.t.t) (st i)) (hf:∀ i x,xs[i]?=some x->TRow w B true x.t.f (sf i))
   (hl:t=true->∀ i x,xs[i]?=some x->RowAt w B false (lp x.d.l) (vl i)) (he:t=true->∀ i x,xs[i]?=some x->RowAt w B true x.d.e (ve i)) :
   TRow w B t xs (.slice (some ⟨blk,off,none⟩) xs.length cap)
structure TyAt (w:World) (B:Nat->Prop) (q:Lt):Prop where
 wf:q.v.wf
 x:SRow w B q.v.x (.slice q.xd q.v.x.length q.xc)
 t:TRow w B false (tf q.v.t) (.slice q.td q.v.t.length q.tc)
 f:TRow w B true q.v.f (.slice q.fd q.v.f.length q.fc)
theorem SRow.through {w w':World} {B C:Nat->Prop} {xs:List ByteArray} {v:Value} (h:SRow w B xs v) (hs:w.heap.size<=w'.heap.size)
 (hb:∀ b,B b->b<w.heap.size->w'.heap[b]?=w.heap[b]?) (hC:∀ b,B b->b<w.heap.size->C b):SRow w' C xs v:=by
 cases h with
 | nil ad cap=>exact .nil ad cap
 | row xs blk off cap hne hn hB hlt hc =>
   have hq:∀ o,w'.cell? ⟨blk,o,none⟩=w.cell? ⟨blk,o,none⟩:=fun o=>World.cell?_of_block (hb blk hB hlt)
   exact .row xs blk off cap hne hn (hC _ hB hlt) (Nat.lt_of_lt_of_le hlt hs) (fun i x hi=>by rw [hq];exact hc i x hi)
theorem TRow.through {w w':World} {B C:Nat->Prop} {t:Bool} {xs:List (Fd Ty)} {v:Value} (h:TRow w B t xs v) (hs:w.heap.size<=w'.heap.size)
 (hb:∀ b,B b->b<w.heap.size->w'.heap[b]?=w.heap[b]?) (hC:∀ b,B b->b<w.heap.size->C b):TRow w' C t xs v:=by
 induction h with
 | nil t ad cap=>exact .nil t ad cap
 | row t xs blk off cap sx st sf vl ve hne hn hB hlt hk hd hc hx ht hf hl he iht ihf =>
   have hq:∀ o,w'.cell? ⟨blk,o,none⟩=w.cell? ⟨blk,o,none⟩:=fun o=>World.cell?_of_block (hb blk hB hlt)
   refine .row t xs blk off cap sx st sf vl ve hne hn (hC _ hB hlt) (Nat.lt_of_lt_of_le hlt hs) (fun h i x hi=>?_) (fun h i x hi=>?_) (fun i x hi=>?_) (fun i x hi=>(hx i x hi).through hs hb hC) iht ihf
    (fun h i x hi=>(hl h i x hi).through hs hb hC) (fun h i x hi=>(he h i x hi).through hs hb hC)
   ·rw [hq,hq,hq];exact hk h i x hi
   ·rw [hq,hq,hq,hq,hq,hq];exact hd h i x hi
   ·rw [hq,hq,hq,hq,hq,hq,hq];exact hc i x hi
theorem SRow.len {w:World} {B:Nat->Prop} {xs:List ByteArray} {v:Value} (h:SRow w B xs v):∃ ad cap,v=.slice ad xs.length cap:=by
 cases h with
 | nil ad cap=>exact ⟨ad,cap,rfl⟩
 | row xs blk off cap=>exact ⟨_,cap,rfl⟩
theorem TRow.len {w:World} {B:Nat->Prop} {t:Bool} {xs:List (Fd Ty)} {v:Value} (h:TRow w B t xs v):∃ ad cap,v=.slice ad xs.length cap:=by
 cases h with
 | nil t ad cap=>exact ⟨ad,cap,rfl⟩
 | row t xs blk off cap=>exact ⟨_,cap,rfl⟩
theorem TRow.wide {w:World} {B:Nat->Prop} {t:Bool} {xs:List (Fd Ty)} {v:Value} (h:TRow w B t xs v):xs.length * 112<=140737488351232:=by
 cases h with
 | nil t ad cap=>simp
 | row t xs blk off cap sx st sf vl ve hne hn=>exact hn
theorem TRow.bound {w:World} {B:Nat->Prop} {t:Bool} {xs:List (Fd Ty)} {v:Value} (h:TRow w B t xs v):xs.length * 8<=140737488351232:=by have:=h.wide;omega
theorem SRow.bound {w:World} {B:Nat->Prop} {xs:List ByteArray} {v:Value} (h:SRow w B xs v):xs.length * 16<=140737488351232:=by
 cases h with
 | nil ad cap=>simp
 | row xs blk off cap hne hn=>exact hn
theorem TRow.tlen {w:World} {B:Nat->Prop} {l:List Ty} {v:Value} (h:TRow w B false (tf l) v):∃ ad cap,v=.slice ad l.length cap:=by
 have:=h.len;rw [tf_len] at this;exact this
theorem TRow.elem {w:World} {B:Nat->Prop} {l:List Ty} {ad:Option Addr} {n cap:Nat} (h:TRow w B false (tf l) (.slice ad n cap)) (hl:0<l.length):∃ b off,ad=some ⟨b,off,none⟩/\B b/\b<w.heap.size /\
 ∀ i x,l[i]?=some x->∃ q:Lt,q.v=x/\TyAt w B q/\TcAt w b (off+i * 7) q:=by
 generalize hx:tf l=xs at h
 generalize hv:Value.slice ad n cap=v at h
 generalize ht:false=t at h
 cases h with
 | nil t ad cap=>have:=congrArg List.length hx;rw [tf_len,List.length_nil] at this;omega
 | row t xs blk off cap sx st sf vl ve hne hn hB hlt hk hd hc hx2 ht2 hf hl he =>
   subst hx
   subst ht
   simp only [Value.slice.injEq] at hv
   obtain ⟨rfl,rfl,rfl⟩:=hv
   refine ⟨blk,off,rfl,hB,hlt,fun i x hi=>?_⟩
   obtain ⟨h0,h1,h2,h3,h4,h5,h6,h7⟩:=hc i _ (tf_get hi)
   have hx':=hx2 i _ (tf_get hi)
   have ht':=ht2 i _ (tf_get hi)
   have hf':=hf i _ (tf_get hi)
   obtain ⟨a1,c1,e1⟩:=hx'.len
   obtain ⟨a2,c2,e2⟩:=ht'.tlen
   obtain ⟨a3,c3,e3⟩:=hf'.len
   rw [e1] at h4 hx'
   rw [e2] at h5 ht'
   rw [e3] at h6 hf'
   exact ⟨⟨x,a1,c1,a2,c2,a3,c3⟩,rfl,⟨h0,hx',ht',hf'⟩,h1,h2,h3,h4,h5,h6,h7⟩
theorem TRow.field {w:World} {B:Nat->Prop} {l:List (Fd Ty)} {ad:Option Addr} {n cap:Nat} (h:TRow w B true l (.slice ad n cap)) (hl:0<l.length):∃ b off,ad=some ⟨b,off,none⟩/\B b/\b<w.heap.size /\
 ∀ i x,l[i]?=some x->x.n.size<=140737488351232/\w.cell? ⟨b,off+i * 16,none⟩=some (.string x.n)/\w.cell? ⟨b,off+i * 16+1,none⟩=some (.bool x.o)/\w.cell? ⟨b,off+i * 16+2,none⟩=some (.bool x.h) /\
  (∃ q:Lt,q.v=x.t/\TyAt w B q/\TcAt w b (off+i * 16+3) q)/\∃ p:Loc,p.v=x.d/\VAt w B p/\CellsAt w b (off+i * 16+10) p:=by
 generalize hv:Value.slice ad n cap=v at h
 generalize ht:true=t at h
 cases h with
 | nil t ad cap=>simp at hl
 | row t xs blk off cap sx st sf vl ve hne hn hB hlt hk hd hc hx ht2 hf hl he =>
   subst ht
   simp only [Value.slice.injEq] at hv
   obtain ⟨rfl,rfl,rfl⟩:=hv
   refine ⟨blk,off,rfl,hB,hlt,fun i x hi=>?_⟩
   obtain ⟨h0,h1,h2,h3,h4,h5,h6,h7⟩:=hc i _ hi
   obtain ⟨⟨k1,k2⟩,k3,k4⟩:=hk rfl i x hi
   obtain ⟨d0,d1,d2,d3,d4,d5,d6⟩:=hd rfl i x hi
   have hx':=hx i _ hi
   have ht':=ht2 i _ hi
   have hf':=hf i _ hi
   have hl':=hl rfl i _ hi
   have he':=he rfl i _ hi
   obtain ⟨a1,c1,e1⟩:=hx'.len
   obtain ⟨a2,c2,e2⟩:=ht'.tlen
   obtain ⟨a3,c3,e3⟩:=hf'.len
   obtain ⟨a4,c4,e4⟩:=hl'.llen
   obtain ⟨a5,c5,e5⟩:=he'.len
   rw [e1] at h4 hx'
   rw [e2] at h5 ht'
   rw [e3] at h6 hf'
   rw [e4] at d5 hl'
   rw [e5] at d6 he'
   exact ⟨k2,k1,k3,k4,⟨⟨x.t,a1,c1,a2,c2,a3,c3⟩,rfl,⟨h0,hx',ht',hf'⟩,h1,h2,h3,h4,h5,h6,h7⟩,⟨x.d,a4,c4,a5,c5⟩,rfl,⟨d0,hl',he'⟩,d1,d2,d3,d4,d5,d6⟩
variable {w w':World} {B C:Nat->Prop} {q:Lt}
theorem TRow.keep' {t:Bool} {xs:List (Fd Ty)} {v:Value} (h:TRow w B t xs v) (hb:Below w.heap.size w w'):TRow w' B t xs v:=h.through hb.size (fun b _ hl=>hb.block b hl) (fun _ h _=>h)
theorem TyAt.through (h:TyAt w B q) (hs:w.heap.size<=w'.heap.size) (hb:∀ b,B b->b<w.heap.size->w'.heap[b]?=w.heap[b]?) (hC:∀ b,B b->b<w.heap.size->C b):TyAt w' C q :=
 ⟨h.wf,h.x.through hs hb hC,h.t.through hs hb hC,h.f.through hs hb hC⟩
theorem TyAt.weak (h:TyAt w B q) (hC:∀ b,B b->b<w.heap.size->C b):TyAt w C q:=h.through (Nat.le_refl _) (fun _ _ _=>rfl) hC
theorem TyAt.keep (h:TyAt w B q) (hb:Below w.heap.size w w'):TyAt w' B q:=h.through hb.size (fun b _ hl=>hb.block b hl) (fun _ h _=>h)
theorem TyAt.grow {row:Option Nat} (h:TyAt w B q) (hg:w.grownBy w' row) (hr:∀ b,row=some b->¬ B b):TyAt w' B q:=h.through hg.size (fun b hB hl=>hg.block b hl (fun e=>hr b e.symm hB)) (fun _ h _=>h)
theorem TyAt.zero (w:World) (B:Nat->Prop) (a b c:Option Addr) (m n o:Nat):TyAt w B ⟨.zero,a,m,b,n,c,o⟩:=⟨Ty.wf_zero,.nil _ _,.nil _ _ _,.nil _ _ _⟩
end Go.Proofs.YtgnonbdkmmkdgaaGreatDoor
namespace Go.Proofs.YtgnonbdkmmkdgaaGreatDoor
open Go.RowKit Gx
theorem grown_alloc' {v:Value} {w w1:World} (o:Obj) (h:(w.alloc o).grownBy w1 v.ownBlock):w.grownBy w1 v.ownBlock :=
 ⟨h.os,h.tape,h.output,Nat.le_trans (by simp) h.size,fun i hi hne=>(h.block i (by simp;omega) hne).trans (Below.heap_alloc w o i hi)⟩
def cellsT (t:Bool) (p:ByteArray×Loc):List Value:=if t then .string p.1::p.2.cs else p.2.cs
theorem cellsT_len (t:Bool) (p:ByteArray×Loc):(cellsT t p).length=st t:=by cases t<;>rfl
theorem flat_get {α:Type} {f:α->List Value} {k:Nat} (hk:∀ a,(f a).length=k):∀ (ps:List α) (i:Nat) (p:α),ps[i]?=some p->∀ j,j<k->(ps.flatMap f)[i * k+j]?=(f p)[j]?
 | [],i,p,h,_,_=>by simp at h
 | q::ps,0,p,h,j,hj=>by
   obtain rfl:q=p:=by simpa using h
   rw [List.flatMap_cons,Nat.zero_mul,Nat.zero_add,List.getElem?_append_left (by rw [hk];exact hj)]
 | q::ps,i+1,p,h,j,hj=>by
   have ih:=flat_get hk ps i p (by simpa using h) j hj
   rw [List.flatMap_cons,List.getElem?_append_right (by rw [hk,Nat.succ_mul];omega),hk,show (i+1) * k+j - k=i * k+j by rw [Nat.succ_mul];omega]
   exact ih
structure Acc (w:World) (vb:Nat) (t:Bool) (e:TypeId) (v:Value) (ps:List (ByteArray×Loc)):Prop where
 own:w.ownsRow (vb+1) e (st t) v ps.length (ps.flatMap (cellsT t))
 at_:∀ p∈ps,VAt w (fun b=>vb<b/\v.ownBlock≠some b) p.2
 key:∀ p∈ps,p.1.size<=140737488351232
theorem Acc.nil (w:World) (vb:Nat) (t:Bool) (e:TypeId):Acc w vb t e (.slice none 0 0) []:=⟨World.ownsRow_nil _ _ _ _,fun _ h=>absurd h List.not_mem_nil,fun _ h=>absurd h List.not_mem_nil⟩
theorem Acc.grow {w w':World} {vb:Nat} {t:Bool} {e:TypeId} {v:Value} {ps:List (ByteArray×Loc)} {r:Option Nat} (h:Acc w vb t e v ps) (hg:w.grownBy w' r) (hr:∀ b,r=some b->b<=vb):Acc w' vb t e v ps:=by
 refine ⟨h.own.kept hg ?_,fun p hp=>(h.at_ p hp).grow hg (fun b hb hb2=>by have:=hr b hb;omega),h.key⟩
 cases hv:v.ownBlock with
 | none=>exact .inl rfl
 | some b =>
   have:=(h.own.lt b hv).1
   exact .inr (fun e=>by have:=hr b e.symm;omega)
theorem Acc.push {w w':World} {vb:Nat} {t:Bool} {e:TypeId} {v v':Value} {ps:List (ByteArray×Loc)} {p:ByteArray×Loc} (h:Acc w vb t e v ps) (hp:VAt w (fun b=>vb<b/\v.ownBlock≠some b) p.2) (hk:p.1.size<=140737488351232)
 (ho:w'.ownsRow (vb+1) e (st t) v' (ps.length+1) (ps.flatMap (cellsT t)++cellsT t p)) (hg:w.grownBy w' v.ownBlock) (hm:Moved v v' w.heap.size):Acc w' vb t e v' (ps++[p]):=by
 refine ⟨by rw [List.length_append,List.flatMap_append];simpa using ho,fun x hx=>?_,fun x hx=>?_⟩
 ·have hx':VAt w (fun b=>vb<b/\v.ownBlock≠some b) x.2:=by
   rcases List.mem_append.1 hx with hx|hx
   ·exact h.at_ x hx
   ·obtain rfl:x=p:=by simpa using hx
    exact hp
  refine hx'.through hg.size (fun b hb hl=>hg.block b hl (fun e=>hb.2 e.symm)) (fun b hb hl=>⟨hb.1,fun e=>?_⟩)
  rcases hm with hm|⟨g,hm,hgl⟩
  ·exact hb.2 (by rw [<-hm];exact e)
  ·rw [hm] at e;have:g=b:=Option.some.inj e;omega
 ·rcases List.mem_append.1 hx with hx|hx
  ·exact h.key x hx
  ·obtain rfl:x=p:=by simpa using hx
   exact hk
theorem Acc.row {w:World} {vb:Nat} {t:Bool} {e:TypeId} {v:Value} {ps:List (ByteArray×Loc)} {xs:List (ByteArray×V)} (h:Acc w vb t e v ps) (hl:ps.length * (st t * 16 - 8)<=140737488351232) (hx:xs=ps.map fun p=>(p.1,p.2.v)):RowAt w (vb<·) t xs v:=by
 subst hx
 have hcell:=fun g=>h.own.cells (g:=g)
 have hlt:=h.own.lt
 rcases h.own.2 with ⟨rfl,h0⟩|⟨g,cap,cur,rfl,hb,-⟩
 ·obtain rfl:ps=[]:=List.eq_nil_of_length_eq_zero h0
  exact .nil _ _ _
 by_cases hne:ps=[]
 ·subst hne;exact .nil _ _ _
 have hm:(ps.map fun p=>(p.1,p.2.v)).length=ps.length:=List.length_map _
 have hget:∀ i x,(ps.map fun p=>(p.1,p.2.v))[i]?=some x->∃ p:ByteArray×Loc,ps[i]?=some p/\(p.1,p.2.v)=x:=fun i x hi=>by
  rw [List.getElem?_map] at hi
  exact Option.map_eq_some_iff.1 hi
 have hc:∀ i p,ps[i]?=some p->∀ j u,j<st t->(cellsT t p)[j]?=some u->w.cell? ⟨g,0+i * st t+j,none⟩=some u:=fun i p hi j u hj hu=>by
  have:=hcell g rfl (i * st t+j) u ((flat_get (cellsT_len t) ps i p hi j hj).trans hu)
  rw [Addr.add_lit] at this
  rw [Nat.add_assoc];exact this
 have hin:∀ i p,ps[i]?=some p->p∈ps:=fun i p hi=>List.mem_of_getElem? hi
 have hB:∀ {p:ByteArray×Loc},p∈ps->VAt w (vb<·) p.2:=fun hp=>(h.at_ _ hp).weak (fun b hb _=>hb.1)
 have hsl:∀ i:Nat,∃ s:Value×Value,∀ p,ps[i]?=some p->s=(p.2.sl,p.2.se):=fun i=>by
  cases hp:ps[i]? with
  | none=>exact ⟨(undef,undef),fun p h=>(by cases h)⟩
  | some p=>exact ⟨(p.2.sl,p.2.se),fun q h=>(by cases h;rfl)⟩
 obtain ⟨S,hS⟩:∃ S:Nat->Value×Value,∀ i p,ps[i]?=some p->S i=(p.2.sl,p.2.se):=⟨fun i=>Classical.choose (hsl i),fun i=>Classical.choose_spec (hsl i)⟩
 have hgt:=(hlt g rfl)
 have key:RowAt w (vb<·) t (ps.map fun p=>(p.1,p.2.v)) (.slice (some ⟨g,0,none⟩) (ps.map fun p=>(p.1,p.2.v)).length cap):=by
  refine .row t _ g 0 cap (fun i=>(S i).1) (fun i=>(S i).2) (by simpa using hne) (by rw [hm];exact hl) (by omega) hgt.2 (fun ht i x hi=>?_) (fun i x hi=>?_) (fun i x hi=>?_) (fun i x hi=>?_)
  ·obtain ⟨p,hp,rfl⟩:=hget i x hi
   subst ht
   exact ⟨hc i p hp 0 _ (by decide) rfl,h.key p (hin i p hp)⟩
  ·obtain ⟨p,hp,rfl⟩:=hget i x hi
   refine ⟨(hB (hin i p hp)).wf,?_⟩
   simp only [hS i p hp]
   cases t with
   | false=>exact ⟨hc i p hp 0 _ (by decide) rfl,hc i p hp 1 _ (by decide) rfl,hc i p hp 2 _ (by decide) rfl,hc i p hp 3 _ (by decide) rfl,hc i p hp 4 _ (by decide) rfl,hc i p hp 5 _ (by decide) rfl⟩
   | true=>exact ⟨hc i p hp 1 _ (by decide) rfl,hc i p hp 2 _ (by decide) rfl,hc i p hp 3 _ (by decide) rfl,hc i p hp 4 _ (by decide) rfl,hc i p hp 5 _ (by decide) rfl,hc i p hp 6 _ (by decide) rfl⟩
  ·obtain ⟨p,hp,rfl⟩:=hget i x hi
   simp only [hS i p hp]
   exact (hB (hin i p hp)).l
  ·obtain ⟨p,hp,rfl⟩:=hget i x hi
   simp only [hS i p hp]
   exact (hB (hin i p hp)).e
 rw [hm] at key
 exact key
theorem Tryz.info_val:(Tryz.prog.info? 32).map (fun i=>(i.zero,i.size,i.bytes))=some (some (.agg #[.int .i64 0,.int .i64 0,.int .u64 0,.string ⟨#[]⟩,.slice none 0 0,.slice none 0 0]),6,88):=by kernel_rfl
theorem Tryz.info_ent:(Tryz.prog.info? 96).map (fun i=>(i.zero,i.size,i.bytes))=some (some (.agg #[.string ⟨#[]⟩,.int .i64 0,.int .i64 0,.int .u64 0,.string ⟨#[]⟩,.slice none 0 0,.slice none 0 0]),7,104):=by kernel_rfl
theorem cellsT_one (t:Bool) (p:ByteArray×Loc):∀ u∈cellsT t p,u.oneCell'=true:=by
 intro u hu
 cases t with
 | false =>
   simp only [cellsT,Loc.cs,List.mem_cons,List.not_mem_nil,or_false,if_neg (show ¬ (false=true) by decide)] at hu
   rcases hu with rfl|rfl|rfl|rfl|rfl|rfl<;>rfl
 | true =>
   simp only [cellsT,Loc.cs,List.mem_cons,List.not_mem_nil,or_false,if_true] at hu
   rcases hu with rfl|rfl|rfl|rfl|rfl|rfl|rfl<;>rfl
theorem step_acc {t:Bool} {e ti:TypeId} {z:Value} {bytes:Nat} (ht:Tryz.prog.underlying ti=some (.slice e)) (hinfo:(Tryz.prog.info? e).map (fun i=>(i.zero,i.size,i.bytes))=some (some z,st t,bytes)) (hzs:z.cells.size=st t) (hby:bytes<=104)
 {ops:Array Oper} {o:Oper} {ac:Act} {K:Act->World->Prop} {Q:Exit->Act->World->Prop} {F:Prop} {w:World} {vb:Nat} {v:Value} {ps:List (ByteArray×Loc)} (hgd:o.guard=none) (s x:Operand)
 (ho:o.op=.call { callee:=.builtin .append,args:=#[s,x],argTypes:=#[ti,ti] }) (h:Acc w vb t e v ps) (hb:vb+1<=w.heap.size) (p:ByteArray×Loc) (hp:VAt w (fun b=>vb<b/\v.ownBlock≠some b) p.2) (hk:p.1.size<=140737488351232)
 (W:World) (hW:W=w.alloc (.cells (cellsT t p).toArray e)) (hs:ac.eval s=v) (hx:ac.eval x=.slice (some ⟨w.heap.size,0,none⟩) 1 1) (n:Nat) (hn:ps.length=n) (hl:(n+1) * bytes<=140737488351232) (h63:n<=10000000000000)
 (hK:∀ ao c w',Acc w' vb t e (.slice ao (n+1) c) (ps++[p])->w.grownBy w' v.ownBlock->K (ac.put o.dst (.slice ao (n+1) c)) w') :
 if Region.wanted o (yielded ops ac.tmps)=true then Oper.wp Tryz.prog o ac W K Q else F:=by
 subst hW
 subst hn
 obtain ⟨i0,hi,hz0,hz1,hz2⟩:=info_parts hinfo
 have hw:Region.wanted o (yielded ops ac.tmps)=true:=by simp [Region.wanted,hgd]
 rw [if_pos hw]
 have hst:0<st t:=by cases t<;>decide
 obtain ⟨v',w',hr,ho2,hg,hm,hnn⟩:=run_append_moved (P:=Tryz.prog) (w.alloc (.cells (cellsT t p).toArray e)) (vb+1) ti o.type e i0 z (st t) bytes ht hi hz0 hz1 hz2 hzs hst v ps.length (ps.flatMap (cellsT t))
  (h.own.alloc _) ⟨w.heap.size,0,none⟩ 1 1 (cellsT t p) (by rw [cellsT_len,Nat.one_mul])
  (fun j u hj=>by
    rw [Addr.add_lit]
    have:=World.cell?_alloc_mark w (cellsT t p).toArray e (0,0) (0+j)
    rw [this];simpa using hj)
  (cellsT_one t p) (Nat.le_trans hl (by decide)) (by unfold maxLen;omega) (by simp;omega)
 have hg':=grown_alloc' (.cells (cellsT t p).toArray e) hg
 have hm':Moved v v' w.heap.size:=by
  rcases hm with hm|⟨g,hm,hgl⟩
  ·exact .inl hm
  ·exact .inr ⟨g,hm,by simp at hgl;omega⟩
 have hacc:=h.push hp hk ho2 hg' hm'
 obtain ⟨ao,c,rfl⟩:=own_form ho2
 unfold Oper.wp execOp
 simp only [ho,resolve,invoke,builtin,Sem.run_bind,Sem.run_pure,Result.andThen_ok,List.map_toArray,List.map_cons,List.map_nil,hs,hx,hr]
 exact hK ao c w' hacc hg'
theorem Acc.above {W:World} {vb:Nat} {t:Bool} {e:TypeId} {v:Value} {ps:List (ByteArray×Loc)} (h:Acc W vb t e v ps):∀ b,v.ownBlock=some b->vb<b:=fun b hb=>(h.own.lt b hb).1
theorem Acc.fresh {W W':World} {vb:Nat} {t:Bool} {e:TypeId} {v:Value} {ps:List (ByteArray×Loc)} {q:Loc} (h:Acc W vb t e v ps) (hv:vb<W.heap.size) (hq:VAt W' (fun b=>W.heap.size<=b) q):VAt W' (fun b=>vb<b/\v.ownBlock≠some b) q :=
 hq.weak (fun b hb _=>⟨by omega,fun e=>by have:=(h.own.lt b e).2;omega⟩)
theorem grown_none {W W':World} (hb:Below W.heap.size W W'):W.grownBy W' none:=⟨hb.os,hb.tape,hb.output,hb.size,fun i hi _=>hb.block i hi⟩
theorem grown_cell (w:World) (b j:Nat) (v:Value):w.grownBy (w.setCell ⟨b,j,none⟩ v) (some b) :=
 ⟨rfl,rfl,rfl,by simp [World.setCell],fun k _ hk=>Below.heap_setCell _ _ _ k (fun e=>hk (by rw [e]))⟩
theorem six_store {w:World} {b:Nat} {ty:TypeId} {a0 a1 a2 a3 a4 a5:Value} (h:w.heap[b]?=some (.cells #[a0,a1,a2,a3,a4,a5] ty)) (j:Nat) (u:Value):(w.setCell ⟨b,j,none⟩ u).heap[b]?=some (.cells (#[a0,a1,a2,a3,a4,a5].setIfInBounds j u) ty):=by
 simp [World.setCell,Array.getElem?_modify,h]
theorem six_cells {w:World} {b:Nat} {ty:TypeId} {a0 a1 a2 a3 a4 a5:Value} (h:w.heap[b]?=some (.cells #[a0,a1,a2,a3,a4,a5] ty)):w.cell? ⟨b,0,none⟩=some a0/\w.cell? ⟨b,1,none⟩=some a1/\w.cell? ⟨b,2,none⟩=some a2/\w.cell? ⟨b,3,none⟩=some a3/\w.cell? ⟨b,4,none⟩=some a4/\w.cell? ⟨b,5,none⟩=some a5/\(∀ j,w.frozen? ⟨b,j,none⟩=false) :=
 ⟨by simp [World.cell?,h],by simp [World.cell?,h],by simp [World.cell?,h],by simp [World.cell?,h],by simp [World.cell?,h],by simp [World.cell?,h],fun j=>by simp [World.frozen?,h]⟩
theorem seven_cells {w:World} {b:Nat} {ty:TypeId} {a0 a1 a2 a3 a4 a5 a6:Value} (h:w.heap[b]?=some (.cells #[a0,a1,a2,a3,a4,a5,a6] ty)):w.cell? ⟨b,0,none⟩=some a0/\w.cell? ⟨b,1,none⟩=some a1/\w.cell? ⟨b,2,none⟩=some a2/\w.cell? ⟨b,3,none⟩=some a3/\w.cell? ⟨b,4,none⟩=some a4/\w.cell? ⟨b,5,none⟩=some a5/\w.cell? ⟨b,6,none⟩=some a6 :=
 ⟨by simp [World.cell?,h],by simp [World.cell?,h],by simp [World.cell?,h],by simp [World.cell?,h],by simp [World.cell?,h],by simp [World.cell?,h],by simp [World.cell?,h]⟩
theorem six_all {W:World} {b:Nat} {ty:TypeId} {a0 a1 a2 a3 a4 a5:Value} (h:W.heap[b]?=some (.cells #[a0,a1,a2,a3,a4,a5] ty)) (u0 u1 u2 u3 u4 u5:Value) :
 ∃ W9,W9=(((((W.setCell ⟨b,0,none⟩ u0).setCell ⟨b,1,none⟩ u1).setCell ⟨b,2,none⟩ u2).setCell ⟨b,3,none⟩ u3).setCell ⟨b,4,none⟩ u4).setCell ⟨b,5,none⟩ u5 /\
  W9.heap[b]?=some (.cells #[u0,u1,u2,u3,u4,u5] ty)/\(∀ c,c≠b->W9.heap[c]?=W.heap[c]?)/\W.heap.size<=W9.heap.size /\
  (∀ B w,Below B w W->B<=b->Below B w W9)/\∀ B q,VAt W B q->¬ B b->VAt W9 B q:=by
 have h0:(W.setCell ⟨b,0,none⟩ u0).heap[b]?=some (.cells #[u0,a1,a2,a3,a4,a5] ty):=six_store h 0 u0
 have h1:((W.setCell ⟨b,0,none⟩ u0).setCell ⟨b,1,none⟩ u1).heap[b]?=some (.cells #[u0,u1,a2,a3,a4,a5] ty):=six_store h0 1 u1
 have h2:(((W.setCell ⟨b,0,none⟩ u0).setCell ⟨b,1,none⟩ u1).setCell ⟨b,2,none⟩ u2).heap[b]?=some (.cells #[u0,u1,u2,a3,a4,a5] ty):=six_store h1 2 u2
 have h3:((((W.setCell ⟨b,0,none⟩ u0).setCell ⟨b,1,none⟩ u1).setCell ⟨b,2,none⟩ u2).setCell ⟨b,3,none⟩ u3).heap[b]?=some (.cells #[u0,u1,u2,u3,a4,a5] ty):=six_store h2 3 u3
 have h4:(((((W.setCell ⟨b,0,none⟩ u0).setCell ⟨b,1,none⟩ u1).setCell ⟨b,2,none⟩ u2).setCell ⟨b,3,none⟩ u3).setCell ⟨b,4,none⟩ u4).heap[b]?=some (.cells #[u0,u1,u2,u3,u4,a5] ty):=six_store h3 4 u4
 have h5:((((((W.setCell ⟨b,0,none⟩ u0).setCell ⟨b,1,none⟩ u1).setCell ⟨b,2,none⟩ u2).setCell ⟨b,3,none⟩ u3).setCell ⟨b,4,none⟩ u4).setCell ⟨b,5,none⟩ u5).heap[b]?=some (.cells #[u0,u1,u2,u3,u4,u5] ty):=six_store h4 5 u5
 have hh:∀ (B:Nat->Prop),¬ B b->∀ b',some b=some b'->¬ B b':=fun B hn b' e=>by cases e;exact hn
 refine ⟨_,rfl,h5,fun c hc=>?_,by simp,fun B w hb hB=>(((((hb.setCell hB u0).setCell hB u1).setCell hB u2).setCell hB u3).setCell hB u4).setCell hB u5,fun B q hq hn =>
  (((((hq.grow (grown_cell _ _ 0 u0) (hh B hn)).grow (grown_cell _ _ 1 u1) (hh B hn)).grow (grown_cell _ _ 2 u2) (hh B hn)).grow (grown_cell _ _ 3 u3) (hh B hn)).grow (grown_cell _ _ 4 u4) (hh B hn)).grow (grown_cell _ _ 5 u5) (hh B hn)⟩
 by_cases hl:c<W.heap.size
 ·have g:∀ (X:World) (j:Nat) (u:Value),c<X.heap.size->(X.setCell ⟨b,j,none⟩ u).heap[c]?=X.heap[c]?:=fun X j u hx=>(grown_cell X b j u).block c hx (fun e=>hc (Option.some.inj e))
  have z:∀ (X:World) (j:Nat) (u:Value),c<X.heap.size->c<(X.setCell ⟨b,j,none⟩ u).heap.size:=fun X j u hx=>Nat.lt_of_lt_of_le hx (grown_cell X b j u).size
  have l0:=z W 0 u0 hl
  have l1:=z _ 1 u1 l0
  have l2:=z _ 2 u2 l1
  have l3:=z _ 3 u3 l2
  have l4:=z _ 4 u4 l3
  rw [g _ 5 u5 l4,g _ 4 u4 l3,g _ 3 u3 l2,g _ 2 u2 l1,g _ 1 u1 l0,g _ 0 u0 hl]
 ·rw [Array.getElem?_eq_none (by simp;omega),Array.getElem?_eq_none (by omega)]
end Go.Proofs.YtgnonbdkmmkdgaaGreatDoor
