/-
  Lemmas for the statement: plain laws, and what functions answer; the conditions stand in each.
-/
import Derived.Shelf.Unicode.PredsPay
import Derived.Lib.Repeat
import Derived.Lib.IndexBytes
import Derived.Test.YtldhmfkojaekfaaGreatDoorProg
import Derived.Deep.DeepCutAuto
import Derived.Deep.CutBlock
import Derived.Deep.DeepFit
import Derived.Outline
import Derived.WalkLawsBesides
import Derived.StillTailTactics
import Derived.Deep.RegionHeld3
import Derived.Deep.RegionLaw
import Derived.Test.YtldhmfkojaekfaaGreatDoorMeanTwiceAllPartL
set_option linter.unusedVariables false
set_option linter.unusedSimpArgs false
namespace Go.Proofs.YtldhmfkojaekfaaGreatDoor
open Go.RowKit Gx
set_option maxRecDepth 100000
def LitPost (l:List UInt8) (w:World) (e:Ending) (w':World):Prop :=
 (litOf l=none/\e=.returned (.tuple #[.string ⟨#[]⟩,.int .i64 0,.bool false])/\Below w.heap.size w w') \/
 (∃ (d:ByteArray) (x:Int),litOf l=some (d.data.toList,x)/\e=.returned (.tuple #[.string d,.int .i64 x,.bool true])/\Below w.heap.size w w')
theorem bytes_nilFl {s:ByteArray} (h:s.size=0):s=⟨#[]⟩:=by
 apply ByteArray.ext
 apply Array.toList_inj.1
 exact List.eq_nil_of_length_eq_zero (by rw [<-Lib.size_eq];exact h)
theorem list_nilFl {s:ByteArray} (h:s.size=0):s.data.toList=[]:=List.eq_nil_of_length_eq_zero (by rw [<-Lib.size_eq];exact h)
theorem list_neFl {s:ByteArray} (h:0<s.size):s.data.toList≠[]:=by
 intro h2
 have:=Lib.size_eq s
 rw [h2,List.length_nil] at this
 omega
theorem bytes_emFl {s:ByteArray} (h:0<s.size):s.toList.isEmpty=false/\¬ s.toList=[]:=by
 have h3:s.toList.length=s.size:=by rw [Go.Lib.toList_data];simp
 have:s.toList≠[]:=by intro h4;rw [h4,List.length_nil] at h3;omega
 exact ⟨by cases h4:s.toList with
  | nil=>exact absurd h4 this
  | cons=>rfl,this⟩
theorem byte_isFl (b c:UInt8):((b.toNat:Int)==(c.toNat:Int))=decide (b=c):=by
 rw [Bool.eq_iff_iff,beq_iff_eq,decide_eq_true_eq]
 constructor
 ·intro h;exact UInt8.toNat_inj.1 (by omega)
 ·rintro rfl;rfl
theorem byte_nFl (b:UInt8) (c:UInt8) (n:Int) (hn:n=(c.toNat:Int)) (h:b≠c):((b.toNat:Int)==n)=false/\((b.toNat:Int) != n)=true:=by
 subst hn
 have:=byte_isFl b c
 rw [decide_eq_false h] at this
 exact ⟨this,by unfold bne;rw [this];rfl⟩
theorem byte_yFl (b:UInt8) (c:UInt8) (n:Int) (hn:n=(c.toNat:Int)) (h:b=c):((b.toNat:Int)==n)=true/\((b.toNat:Int) != n)=false:=by
 subst hn
 have:=byte_isFl b c
 rw [decide_eq_true h] at this
 exact ⟨this,by unfold bne;rw [this];rfl⟩
theorem litOf_no1 (l:List UInt8) (h:l.takeWhile isDigit=[]\/((l.takeWhile isDigit).head?=some 48/\1<(l.takeWhile isDigit).length)\/l.dropWhile isDigit=[]):litOf l=none:=by
 unfold litOf;rw [if_pos h]
theorem litOf_go (l:List UInt8) (h:¬ (l.takeWhile isDigit=[]\/((l.takeWhile isDigit).head?=some 48/\1<(l.takeWhile isDigit).length)\/l.dropWhile isDigit=[])) :
 litOf l=(fracOf (l.dropWhile isDigit)).bind (litEnd (l.takeWhile isDigit)):=by
 unfold litOf;rw [if_neg h]
theorem litEnd_nil (wh F:List UInt8):litEnd wh (F,[])=some (wh++F,0 - (F.length:Int)):=rfl
theorem litEnd_no (wh F R:List UInt8) (h:R≠[]) (h2:R.head?≠some 101):litEnd wh (F,R)=none:=by
 unfold litEnd expOf;rw [if_neg h,if_pos h2];rfl
theorem litEnd_e (wh F R:List UInt8) (h2:R.head?=some 101):litEnd wh (F,R)=(expEnd (signOf R.tail)).map fun x=>(wh++F,x - (F.length:Int)):=by
 have h:R≠[]:=by intro h;rw [h] at h2;cases h2
 unfold litEnd expOf;rw [if_neg h,if_neg (by simp [h2])]
theorem hasPrefix_oneFl (l:List UInt8) (c:UInt8):Lib.hasPrefix l [c]=decide (l.head?=some c):=by
 unfold Lib.hasPrefix
 cases l with
 | nil=>rfl
 | cons a t =>
   have h:List.isPrefixOf [c] (a::t)=(c==a):=by simp [List.isPrefixOf]
   rw [h,Bool.eq_iff_iff,beq_iff_eq,decide_eq_true_eq]
   constructor
   ·rintro rfl;rfl
   ·intro h;exact (Option.some.inj h).symm
theorem expEnd_no (m:Bool) (l e t:List UInt8) (he:e=l.takeWhile isDigit) (ht:t=l.dropWhile isDigit) (h:e=[]\/t≠[]):expEnd (m,l)=none:=by
 subst he ht;unfold expEnd;rw [if_pos h]
theorem expEnd_yes (m:Bool) (l e t:List UInt8) (he:e=l.takeWhile isDigit) (ht:t=l.dropWhile isDigit) (h:e≠[]) (h2:t=[]):expEnd (m,l)=some (if m then -(expVal e:Int) else (expVal e:Int)):=by
 subst he ht;unfold expEnd;rw [if_neg (by rintro (h3|h3);exact h h3;exact h3 h2)]
theorem tw_len (l:List UInt8):(l.takeWhile isDigit).length<=l.length/\(l.dropWhile isDigit).length<=l.length :=
 ⟨(List.takeWhile_sublist _).length_le,(List.dropWhile_sublist _).length_le⟩
theorem expVal_take (e:ByteArray) (k:Nat) (h:k<e.size):expVal (e.data.toList.take (k+1))=min (expVal (e.data.toList.take k) * 10+(e[k].toNat - 48)) 100000:=by
 rw [List.take_succ_eq_append_getElem (by rw [<-Lib.size_eq];exact h)]
 unfold expVal
 rw [List.foldl_append];rfl
theorem expVal_le (l:List UInt8):expVal l<=100000:=by
 unfold expVal
 rw [expF l 0 0 rfl];omega
theorem digit_at (e:ByteArray) (h:∀ b∈e.data.toList,isDigit b=true) (k:Nat) (hk:k<e.size):48<=e[k].toNat/\e[k].toNat<=57:=by
 have h1:=h e[k] (by
  have:e[k]=e.data.toList[k]'(by rw [<-Lib.size_eq];exact hk):=rfl
  rw [this];exact List.getElem_mem _)
 have:=(digit_iff e[k]).1 h1
 omega
theorem tw_digits:∀ (l:List UInt8),∀ b∈l.takeWhile isDigit,isDigit b=true
 | [],b,hb=>by simp at hb
 | a::l,b,hb=>by
   cases ha:isDigit a with
   | false=>simp [ha] at hb
   | true =>
     rw [List.takeWhile_cons,if_pos ha] at hb
     rcases List.mem_cons.1 hb with rfl|hb
     ·exact ha
     ·exact tw_digits l b hb
set_option maxHeartbeats 8000000 in
theorem literal_any (s:ByteArray) (w:World) (hs:s.size<=900):Calls Tryz.prog 124 #[.string s] w (LitPost s.data.toList w):=by
 have HNO:=Lib.hid (fun w' (h:litOf s.data.toList=none) (hb:Below w.heap.size w w')=>(show LitPost s.data.toList w (.returned (.tuple #[.string ⟨#[]⟩,.int .i64 0,.bool false])) w' from .inl ⟨h,rfl,hb⟩))
 have HYES:=Lib.hid (fun w' (d:ByteArray) (x:Int) (h:litOf s.data.toList=some (d.data.toList,x)) (hb:Below w.heap.size w w')=>(show LitPost s.data.toList w (.returned (.tuple #[.string d,.int .i64 x,.bool true])) w' from .inr ⟨d,x,h,rfl,hb⟩))
 have HP:=fun w0 (t:ByteArray)=>Tryz.strings_HasPrefix t ⟨#[45]⟩ w0
 have HQ:=fun w0 (t:ByteArray)=>Tryz.strings_HasPrefix t ⟨#[43]⟩ w0
 have e45:(⟨#[45]⟩:ByteArray).data.toList=[45]:=rfl
 have e43:(⟨#[43]⟩:ByteArray).data.toList=[43]:=rfl
 simp only [e45,hasPrefix_oneFl] at HP
 simp only [e43,hasPrefix_oneFl] at HQ
 replace HP:=Lib.hid HP
 replace HQ:=Lib.hid HQ
 have HD:=Lib.hid (fun (t:ByteArray) w0 (h:t.size<=1000)=>digits_any t w0 h)
 unfold DigitsPost at HD
 have hl:=tw_len s.data.toList
 rw [<-Lib.size_eq s] at hl
 have hgo:=litOf_go s.data.toList
 have hno:=litOf_no1 s.data.toList
 generalize LitPost s.data.toList w=POST at *
 generalize litOf s.data.toList=LIT at *
 have H1:=Lib.hid (HD.out s w (by omega))
 generalize List.takeWhile isDigit s.data.toList=tw at *
 generalize List.dropWhile isDigit s.data.toList=dw at *
 obtain ⟨l1,l2⟩:=hl
 have HGO:=Lib.hid hgo
 have HN1:=Lib.hid hno
 clear hgo hno e45 e43
 go_enter Tryz.func124,Tryz.ntmps124
 go_wp2_with fail
 refine H1.out.mono ?_
 rintro e0 w1 ⟨a,b,rfl,rfl,rfl,hb1⟩
 rw [<-Lib.size_eq] at l1 l2
 have B1:=Lib.hid hb1
 clear hb1 H1
 rcases Nat.eq_zero_or_pos a.size with za|pa
 ·obtain rfl:=bytes_nilFl za
  have N1:=HN1.out (.inl rfl)
  have N:=Lib.hid N1
  clear N1 za
  go_wp2_with fail
  go_ret3
  exact HNO.out w1 N.out B1.out
 have ea:=bytes_emFl pa
 obtain ⟨ea1,ea2⟩:=ea
 have hh:=head_ofFl a pa
 by_cases h48:a[0]=48/\1<a.size
 ·have y0:=(byte_yFl a[0] 48 48 rfl h48.1).1
  have y1:decide ((1:Int)<(a.size:Int))=true:=decide_eq_true (by omega)
  have N1:=HN1.out (.inr (.inl ⟨by rw [hh,h48.1],by rw [<-Lib.size_eq];exact h48.2⟩))
  have N:=Lib.hid N1
  clear N1 h48 hh
  go_wp2_with fail
  go_ret3
  exact HNO.out w1 N.out B1.out
 have tz:(((a[0].toNat:Int)==48)=false)\/(((a[0].toNat:Int)==48)=true/\decide ((1:Int)<(a.size:Int))=false):=by
  by_cases h:a[0]=48
  ·exact .inr ⟨(byte_yFl a[0] 48 48 rfl h).1,decide_eq_false (fun h2=>h48 ⟨h,by omega⟩)⟩
  ·exact .inl (byte_nFl a[0] 48 48 rfl h).1
 rcases Nat.eq_zero_or_pos b.size with zb|pb
 ·obtain rfl:=bytes_nilFl zb
  have N1:=HN1.out (.inr (.inr rfl))
  have N:=Lib.hid N1
  clear N1 zb h48 hh
  rcases tz with tz|⟨tz,tz2⟩
  all_goals
   go_wp2_with fail
   go_ret3
   exact HNO.out w1 N.out B1.out
 have HB:=Lib.hid (HGO.out (by
  rintro (h|⟨h,h2⟩|h)
  ·exact list_neFl pa h
  ·rw [hh] at h
   exact h48 ⟨by simpa using h,by rw [Lib.size_eq];exact h2⟩
  ·exact list_neFl pb h))
 obtain ⟨eb1,eb2⟩:=bytes_emFl pb
 have hbh:=head_ofFl b pb
 have b0:(0:Int)<(b.size:Int):=by omega
 have b1:(1:Int)<=(b.size:Int):=by omega
 clear hh h48 HGO HN1
 by_cases hdot:b[0]=46
 ·obtain ⟨d1,d2⟩:=byte_yFl b[0] 46 46 rfl hdot
  have HX:=HD.out (b.extract 1 b.size) w1 (by simp;omega)
  have hex:(b.extract 1 b.size).data.toList=b.data.toList.tail:=by rw [Lib.extract_to_end];simp
  rw [hex] at HX
  have hl:=tw_len b.data.toList.tail
  have hlt:b.data.toList.tail.length<=b.size:=by rw [List.length_tail,<-Lib.size_eq];omega
  have hfr:fracOf b.data.toList=if b.data.toList.tail.takeWhile isDigit=[] then none else some (b.data.toList.tail.takeWhile isDigit,b.data.toList.tail.dropWhile isDigit):=by
   unfold fracOf;rw [if_pos (by rw [hbh,hdot])]
  generalize b.data.toList.tail.takeWhile isDigit=tf at *
  generalize b.data.toList.tail.dropWhile isDigit=df at *
  have HF:=Lib.hid hfr
  have H2:=Lib.hid HX
  obtain ⟨f1,f2⟩:=hl
  clear HX hex hfr hbh hdot
  rcases tz with tz|⟨tz,tz2⟩
  all_goals
   go_wp2_with fail
   refine H2.out.mono ?_
   rintro e0 w2 ⟨f,r,rfl,rfl,rfl,hb2⟩
   rw [<-Lib.size_eq] at f1 f2
   have B2:=Lib.hid (B1.out.trans (hb2.mono B1.out.size))
   rcases Nat.eq_zero_or_pos f.size with zf|pf
   ·obtain rfl:=bytes_nilFl zf
    have N:=HB.out
    rw [HF.out,if_pos rfl] at N
    replace N:=Lib.hid N
    clear hb2 zf
    go_wp2_with fail
    go_ret3
    exact HNO.out w2 N.out B2.out
   ·have HL:=HB.out
    rw [HF.out,if_neg (list_neFl pf)] at HL
    have HL2:=Lib.hid (show LIT=litEnd a.data.toList (f.data.toList,r.data.toList) from HL)
    obtain ⟨ef1,ef2⟩:=bytes_emFl pf
    have r900:r.size<=900:=by omega
    have f900:f.size<=900:=by omega
    clear hb2 HL pf HF HB
    rcases Nat.eq_zero_or_pos r.size with zr|pr
    ·obtain rfl:=bytes_nilFl zr
     have Y:=HL2.out
     rw [show (⟨#[]⟩:ByteArray).data.toList=[] from rfl,litEnd_nil] at Y
     replace Y:=Lib.hid Y
     clear zr
     go_wp2_with fail
     go_ret3
     refine HYES.out w2 _ _ ?_ B2.out
     rw [Y.out];simp
    obtain ⟨er1,er2⟩:=bytes_emFl pr
    have hrh:=head_ofFl r pr
    rcases (Classical.em (r[0]=101)).symm with he|he
    ·obtain ⟨n1,n2⟩:=byte_nFl r[0] 101 101 rfl he
     have N:=HL2.out
     rw [litEnd_no _ _ _ (list_neFl pr) (by rw [hrh];exact fun h=>he (by simpa using h))] at N
     replace N:=Lib.hid N
     clear hrh he
     go_wp2_with fail
     go_ret3
     exact HNO.out w2 N.out B2.out
    obtain ⟨n1,n2⟩:=byte_yFl r[0] 101 101 rfl he
    have HS:=HL2.out
    rw [litEnd_e _ _ _ (by rw [hrh,he])] at HS
    have hex:(r.extract 1 r.size).data.toList=r.data.toList.tail:=by rw [Lib.extract_to_end];simp
    rw [<-hex] at HS
    have hsz:(r.extract 1 r.size).size=r.size - 1:=by simp
    have HMI:=HP.out w2 (r.extract 1 r.size)
    have HPL:=HQ.out w2 (r.extract 1 r.size)
    obtain ⟨g,hg⟩:∃ g,g=r.extract 1 r.size:=⟨_,rfl⟩
    rw [<-hg] at HS HMI HPL hsz
    have r1:(1:Int)<=(r.size:Int):=by omega
    have g900:g.size<=900:=by omega
    have HG:=Lib.hid hg
    clear hrh he hex hg hsz HL2
    have hsig:(g.data.toList.head?=some 45/\signOf g.data.toList=(true,g.data.toList.tail))\/(g.data.toList.head?≠some 45/\g.data.toList.head?=some 43/\signOf g.data.toList=(false,g.data.toList.tail)) \/
     (g.data.toList.head?≠some 45/\g.data.toList.head?≠some 43/\signOf g.data.toList=(false,g.data.toList)):=by
     unfold signOf
     by_cases h1:g.data.toList.head?=some 45
     ·exact .inl ⟨h1,by rw [if_pos h1]⟩
     ·by_cases h2:g.data.toList.head?=some 43
      ·exact .inr (.inl ⟨h1,h2,by rw [if_neg h1,if_pos h2]⟩)
      ·exact .inr (.inr ⟨h1,h2,by rw [if_neg h1,if_neg h2]⟩)
    have hgt:(g.extract 1 g.size).data.toList=g.data.toList.tail:=by rw [Lib.extract_to_end];simp
    rcases hsig with ⟨h1,h3⟩|⟨h1,h2,h3⟩|⟨h1,h2,h3⟩
    ·rw [decide_eq_true h1] at HMI
     have gp:0<g.size:=by
      rcases Nat.eq_zero_or_pos g.size with h|h
      ·rw [list_nilFl h] at h1;cases h1
      ·exact h
     have g1:(1:Int)<=(g.size:Int):=by omega
     rw [h3,<-hgt] at HS
     have hxs:(g.extract 1 g.size).size<=1000:=by simp;omega
     have H3:=Lib.hid (fun w0=>HD.out (g.extract 1 g.size) w0 hxs)
     have HSS:=Lib.hid HS
     have HM:=Lib.hid HMI
     have HPP:=Lib.hid HPL
     clear h1 h3 HS HMI HPL hgt hxs
     go_wp2_with fail
     rw [<-HG.out]
     refine HM.out.mono ?_
     rintro e0 w3 ⟨rfl,rfl⟩
     go_wp2_with fail
     try rw [<-HG.out]
     refine (H3.out w3).mono ?_
     rintro e0 w5 ⟨ex,t,rfl,he1,he2,hb5⟩
     have B5:=Lib.hid (B2.out.trans (hb5.mono B2.out.size))
     have hdg:=tw_digits (g.extract 1 g.size).data.toList
     rw [<-he1] at hdg
     have hex9:ex.size<=1000:=by
      have h:=(tw_len (g.extract 1 g.size).data.toList).1
      rw [<-he1,<-Lib.size_eq,<-Lib.size_eq] at h
      exact Nat.le_trans h (by first|(simp;omega)|omega)
     by_cases hbad:ex.size=0\/0<t.size
     ·have N:=HSS.out
      rw [expEnd_no true _ _ _ he1 he2 (by
       rcases hbad with h|h
       ·exact .inl (list_nilFl h)
       ·exact .inr (list_neFl h))] at N
      replace N:=Lib.hid N
      clear hb5 he1 he2 hdg
      rcases Nat.eq_zero_or_pos ex.size with ze|pe
      ·obtain rfl:=bytes_nilFl ze
       clear ze hbad
       go_wp2_with fail
       go_ret3
       exact HNO.out w5 N.out B5.out
      ·obtain ⟨k1,k2⟩:=bytes_emFl pe
       have pt:0<t.size:=by omega
       obtain ⟨k3,k4⟩:=bytes_emFl pt
       clear hbad
       go_wp2_with fail
       go_ret3
       exact HNO.out w5 N.out B5.out
     have pe:0<ex.size:=by omega
     have zt:t.size=0:=by omega
     obtain rfl:=bytes_nilFl zt
     obtain ⟨k1,k2⟩:=bytes_emFl pe
     have Y:=HSS.out
     rw [expEnd_yes true _ _ _ he1 he2 (list_neFl pe) rfl] at Y
     replace Y:=Lib.hid Y
     obtain ⟨cap,w6,hconv,-,hsz6,hgr,hC⟩:=Gx.conv_bytes_run (P:=Tryz.prog) w5 9 72 5 ex Tryz.underlying9 Tryz.underlying72 Tryz.underlying5
     have B6:=Lib.hid (B5.out.trans ((Gx.grown_below hgr (Nat.le_refl _) (by simp)).mono B5.out.size))
     have HC:=Lib.hid hC
     have HDG:=Lib.hid (digit_at ex hdg)
     have HEV:=Lib.hid (expVal_take ex)
     clear hb5 he1 he2 hdg hbad zt hgr hC hsz6
     go_wp2_with fail
     clear hconv
     go_loop [3,79,10] (fun xv iv cv=>∃ k:Nat,k<=ex.size/\iv=.int .i64 k/\xv=.int .i64 (expVal (ex.data.toList.take k))) (fun _ iv _=>ex.size - (intOf iv).toNat)
     case atStart=>exact ⟨0,Nat.zero_le _,rfl,rfl⟩
     case round =>
      obtain ⟨k,hk,rfl,rfl⟩:=hrel
      obtain ⟨k0,k1'⟩:0<=(k:Int)/\(k:Int)<=(ex.size:Int):=by omega
      have hle:=expVal_le (ex.data.toList.take k)
      by_cases hlt:k<ex.size
      ·have c0:=HC.out k hlt
       have hdk:=HDG.out k hlt
       have hev:=HEV.out k hlt
       have e1:ex.data[k]=ex[k]:=rfl
       rw [e1] at c0
       obtain ⟨x,hx⟩:∃ x:Nat,x=ex[k].toNat:=⟨_,rfl⟩
       rw [<-hx] at c0 hdk hev
       obtain ⟨v,hv⟩:∃ v:Nat,v=expVal (ex.data.toList.take k):=⟨_,rfl⟩
       rw [<-hv] at hev hle ⊢
       obtain ⟨x1,x2⟩:48<=(x:Int)/\(x:Int)<=57:=by omega
       have HEV2:=Lib.hid hev
       clear e1 hx hv hev hdk
       go_wp2_with fail
       go_round
       case rel=>exact ⟨k+1,by omega,by go_num,by rw [HEV2.out];congr 1;omega⟩
       case measure=>simp [intOf];omega
      ·obtain rfl:k=ex.size:=by omega
       have hfull:ex.data.toList.take ex.size=ex.data.toList:=List.take_of_length_le (by rw [<-Lib.size_eq];exact Nat.le_refl _)
       rw [hfull] at hle ⊢
       clear hfull
       obtain ⟨v,hv⟩:∃ v:Nat,v=expVal ex.data.toList:=⟨_,rfl⟩
       rw [<-hv] at hle ⊢
       have HV:=Lib.hid hv
       clear hv
       go_wp2_with fail
       go_ret3
       exact HYES.out w6 _ _ (by rw [Y.out,<-HV.out];simp) B6.out
    ·rw [decide_eq_false h1] at HMI
     rw [decide_eq_true h2] at HPL
     have gp:0<g.size:=by
      rcases Nat.eq_zero_or_pos g.size with h|h
      ·rw [list_nilFl h] at h2;cases h2
      ·exact h
     have g1:(1:Int)<=(g.size:Int):=by omega
     rw [h3,<-hgt] at HS
     have hxs:(g.extract 1 g.size).size<=1000:=by simp;omega
     have H3:=Lib.hid (fun w0=>HD.out (g.extract 1 g.size) w0 hxs)
     have HSS:=Lib.hid HS
     have HM:=Lib.hid HMI
     have HPP:=Lib.hid HPL
     clear h1 h2 h3 HS HMI HPL hgt hxs
     go_wp2_with fail
     rw [<-HG.out]
     refine HM.out.mono ?_
     rintro e0 w3 ⟨rfl,rfl⟩
     go_wp2_with fail
     try rw [<-HG.out]
     refine HPP.out.mono ?_
     rintro e0 w4 ⟨rfl,rfl⟩
     obtain ⟨w3,rfl⟩:∃ w3:World,w3=w4:=⟨_,rfl⟩
     go_wp2_with fail
     try rw [<-HG.out]
     refine (H3.out w3).mono ?_
     rintro e0 w5 ⟨ex,t,rfl,he1,he2,hb5⟩
     have B5:=Lib.hid (B2.out.trans (hb5.mono B2.out.size))
     have hdg:=tw_digits (g.extract 1 g.size).data.toList
     rw [<-he1] at hdg
     have hex9:ex.size<=1000:=by
      have h:=(tw_len (g.extract 1 g.size).data.toList).1
      rw [<-he1,<-Lib.size_eq,<-Lib.size_eq] at h
      exact Nat.le_trans h (by first|(simp;omega)|omega)
     by_cases hbad:ex.size=0\/0<t.size
     ·have N:=HSS.out
      rw [expEnd_no false _ _ _ he1 he2 (by
       rcases hbad with h|h
       ·exact .inl (list_nilFl h)
       ·exact .inr (list_neFl h))] at N
      replace N:=Lib.hid N
      clear hb5 he1 he2 hdg
      rcases Nat.eq_zero_or_pos ex.size with ze|pe
      ·obtain rfl:=bytes_nilFl ze
       clear ze hbad
       go_wp2_with fail
       go_ret3
       exact HNO.out w5 N.out B5.out
      ·obtain ⟨k1,k2⟩:=bytes_emFl pe
       have pt:0<t.size:=by omega
       obtain ⟨k3,k4⟩:=bytes_emFl pt
       clear hbad
       go_wp2_with fail
       go_ret3
       exact HNO.out w5 N.out B5.out
     have pe:0<ex.size:=by omega
     have zt:t.size=0:=by omega
     obtain rfl:=bytes_nilFl zt
     obtain ⟨k1,k2⟩:=bytes_emFl pe
     have Y:=HSS.out
     rw [expEnd_yes false _ _ _ he1 he2 (list_neFl pe) rfl] at Y
     replace Y:=Lib.hid Y
     obtain ⟨cap,w6,hconv,-,hsz6,hgr,hC⟩:=Gx.conv_bytes_run (P:=Tryz.prog) w5 9 72 5 ex Tryz.underlying9 Tryz.underlying72 Tryz.underlying5
     have B6:=Lib.hid (B5.out.trans ((Gx.grown_below hgr (Nat.le_refl _) (by simp)).mono B5.out.size))
     have HC:=Lib.hid hC
     have HDG:=Lib.hid (digit_at ex hdg)
     have HEV:=Lib.hid (expVal_take ex)
     clear hb5 he1 he2 hdg hbad zt hgr hC hsz6
     go_wp2_with fail
     clear hconv
     go_loop [3,79,10] (fun xv iv cv=>∃ k:Nat,k<=ex.size/\iv=.int .i64 k/\xv=.int .i64 (expVal (ex.data.toList.take k))) (fun _ iv _=>ex.size - (intOf iv).toNat)
     case atStart=>exact ⟨0,Nat.zero_le _,rfl,rfl⟩
     case round =>
      obtain ⟨k,hk,rfl,rfl⟩:=hrel
      obtain ⟨k0,k1'⟩:0<=(k:Int)/\(k:Int)<=(ex.size:Int):=by omega
      have hle:=expVal_le (ex.data.toList.take k)
      by_cases hlt:k<ex.size
      ·have c0:=HC.out k hlt
       have hdk:=HDG.out k hlt
       have hev:=HEV.out k hlt
       have e1:ex.data[k]=ex[k]:=rfl
       rw [e1] at c0
       obtain ⟨x,hx⟩:∃ x:Nat,x=ex[k].toNat:=⟨_,rfl⟩
       rw [<-hx] at c0 hdk hev
       obtain ⟨v,hv⟩:∃ v:Nat,v=expVal (ex.data.toList.take k):=⟨_,rfl⟩
       rw [<-hv] at hev hle ⊢
       obtain ⟨x1,x2⟩:48<=(x:Int)/\(x:Int)<=57:=by omega
       have HEV2:=Lib.hid hev
       clear e1 hx hv hev hdk
       go_wp2_with fail
       go_round
       case rel=>exact ⟨k+1,by omega,by go_num,by rw [HEV2.out];congr 1;omega⟩
       case measure=>simp [intOf];omega
      ·obtain rfl:k=ex.size:=by omega
       have hfull:ex.data.toList.take ex.size=ex.data.toList:=List.take_of_length_le (by rw [<-Lib.size_eq];exact Nat.le_refl _)
       rw [hfull] at hle ⊢
       clear hfull
       obtain ⟨v,hv⟩:∃ v:Nat,v=expVal ex.data.toList:=⟨_,rfl⟩
       rw [<-hv] at hle ⊢
       have HV:=Lib.hid hv
       clear hv
       go_wp2_with fail
       go_ret3
       exact HYES.out w6 _ _ (by rw [Y.out,<-HV.out];simp) B6.out
    ·rw [decide_eq_false h1] at HMI
     rw [decide_eq_false h2] at HPL
     rw [h3] at HS
     have hxs:g.size<=1000:=by omega
     have H3:=Lib.hid (fun w0=>HD.out (g) w0 hxs)
     have HSS:=Lib.hid HS
     have HM:=Lib.hid HMI
     have HPP:=Lib.hid HPL
     clear h1 h2 h3 HS HMI HPL hgt hxs
     go_wp2_with fail
     rw [<-HG.out]
     refine HM.out.mono ?_
     rintro e0 w3 ⟨rfl,rfl⟩
     go_wp2_with fail
     try rw [<-HG.out]
     refine HPP.out.mono ?_
     rintro e0 w4 ⟨rfl,rfl⟩
     obtain ⟨w3,rfl⟩:∃ w3:World,w3=w4:=⟨_,rfl⟩
     go_wp2_with fail
     try rw [<-HG.out]
     refine (H3.out w3).mono ?_
     rintro e0 w5 ⟨ex,t,rfl,he1,he2,hb5⟩
     have B5:=Lib.hid (B2.out.trans (hb5.mono B2.out.size))
     have hdg:=tw_digits (g).data.toList
     rw [<-he1] at hdg
     have hex9:ex.size<=1000:=by
      have h:=(tw_len (g).data.toList).1
      rw [<-he1,<-Lib.size_eq,<-Lib.size_eq] at h
      exact Nat.le_trans h (by first|(simp;omega)|omega)
     by_cases hbad:ex.size=0\/0<t.size
     ·have N:=HSS.out
      rw [expEnd_no false _ _ _ he1 he2 (by
       rcases hbad with h|h
       ·exact .inl (list_nilFl h)
       ·exact .inr (list_neFl h))] at N
      replace N:=Lib.hid N
      clear hb5 he1 he2 hdg
      rcases Nat.eq_zero_or_pos ex.size with ze|pe
      ·obtain rfl:=bytes_nilFl ze
       clear ze hbad
       go_wp2_with fail
       go_ret3
       exact HNO.out w5 N.out B5.out
      ·obtain ⟨k1,k2⟩:=bytes_emFl pe
       have pt:0<t.size:=by omega
       obtain ⟨k3,k4⟩:=bytes_emFl pt
       clear hbad
       go_wp2_with fail
       go_ret3
       exact HNO.out w5 N.out B5.out
     have pe:0<ex.size:=by omega
     have zt:t.size=0:=by omega
     obtain rfl:=bytes_nilFl zt
     obtain ⟨k1,k2⟩:=bytes_emFl pe
     have Y:=HSS.out
     rw [expEnd_yes false _ _ _ he1 he2 (list_neFl pe) rfl] at Y
     replace Y:=Lib.hid Y
     obtain ⟨cap,w6,hconv,-,hsz6,hgr,hC⟩:=Gx.conv_bytes_run (P:=Tryz.prog) w5 9 72 5 ex Tryz.underlying9 Tryz.underlying72 Tryz.underlying5
     have B6:=Lib.hid (B5.out.trans ((Gx.grown_below hgr (Nat.le_refl _) (by simp)).mono B5.out.size))
     have HC:=Lib.hid hC
     have HDG:=Lib.hid (digit_at ex hdg)
     have HEV:=Lib.hid (expVal_take ex)
     clear hb5 he1 he2 hdg hbad zt hgr hC hsz6
     go_wp2_with fail
     clear hconv
     go_loop [3,79,10] (fun xv iv cv=>∃ k:Nat,k<=ex.size/\iv=.int .i64 k/\xv=.int .i64 (expVal (ex.data.toList.take k))) (fun _ iv _=>ex.size - (intOf iv).toNat)
     case atStart=>exact ⟨0,Nat.zero_le _,rfl,rfl⟩
     case round =>
      obtain ⟨k,hk,rfl,rfl⟩:=hrel
      obtain ⟨k0,k1'⟩:0<=(k:Int)/\(k:Int)<=(ex.size:Int):=by omega
      have hle:=expVal_le (ex.data.toList.take k)
      by_cases hlt:k<ex.size
      ·have c0:=HC.out k hlt
       have hdk:=HDG.out k hlt
       have hev:=HEV.out k hlt
       have e1:ex.data[k]=ex[k]:=rfl
       rw [e1] at c0
       obtain ⟨x,hx⟩:∃ x:Nat,x=ex[k].toNat:=⟨_,rfl⟩
       rw [<-hx] at c0 hdk hev
       obtain ⟨v,hv⟩:∃ v:Nat,v=expVal (ex.data.toList.take k):=⟨_,rfl⟩
       rw [<-hv] at hev hle ⊢
       obtain ⟨x1,x2⟩:48<=(x:Int)/\(x:Int)<=57:=by omega
       have HEV2:=Lib.hid hev
       clear e1 hx hv hev hdk
       go_wp2_with fail
       go_round
       case rel=>exact ⟨k+1,by omega,by go_num,by rw [HEV2.out];congr 1;omega⟩
       case measure=>simp [intOf];omega
      ·obtain rfl:k=ex.size:=by omega
       have hfull:ex.data.toList.take ex.size=ex.data.toList:=List.take_of_length_le (by rw [<-Lib.size_eq];exact Nat.le_refl _)
       rw [hfull] at hle ⊢
       clear hfull
       obtain ⟨v,hv⟩:∃ v:Nat,v=expVal ex.data.toList:=⟨_,rfl⟩
       rw [<-hv] at hle ⊢
       have HV:=Lib.hid hv
       clear hv
       go_wp2_with fail
       go_ret3
       exact HYES.out w6 _ _ (by rw [Y.out,<-HV.out];simp) B6.out
 ·obtain ⟨d1,d2⟩:=byte_nFl b[0] 46 46 rfl hdot
  have hfr:fracOf b.data.toList=some ([],b.data.toList):=by
   unfold fracOf;rw [if_neg];rw [hbh];exact fun h=>hdot (by simpa using h)
  have HL:=HB.out
  rw [hfr] at HL
  have HL2:=Lib.hid (show LIT=litEnd a.data.toList ([],b.data.toList) from HL)
  obtain ⟨r,rfl⟩:∃ r,r=b:=⟨_,rfl⟩
  obtain ⟨w2,rfl⟩:∃ w2:World,w2=w1:=⟨_,rfl⟩
  have B2:=B1
  have r900:r.size<=900:=by omega
  clear HL hfr hbh hdot HB
  rcases tz with tz|⟨tz,tz2⟩
  all_goals
   have pr:=pb
   obtain ⟨er1,er2⟩:=bytes_emFl pr
   have hrh:=head_ofFl r pr
   rcases (Classical.em (r[0]=101)).symm with he|he
   ·obtain ⟨n1,n2⟩:=byte_nFl r[0] 101 101 rfl he
    have N:=HL2.out
    rw [litEnd_no _ _ _ (list_neFl pr) (by rw [hrh];exact fun h=>he (by simpa using h))] at N
    replace N:=Lib.hid N
    clear hrh he
    go_wp2_with fail
    go_ret3
    exact HNO.out w2 N.out B2.out
   obtain ⟨n1,n2⟩:=byte_yFl r[0] 101 101 rfl he
   have HS:=HL2.out
   rw [litEnd_e _ _ _ (by rw [hrh,he])] at HS
   have hex:(r.extract 1 r.size).data.toList=r.data.toList.tail:=by rw [Lib.extract_to_end];simp
   rw [<-hex] at HS
   have hsz:(r.extract 1 r.size).size=r.size - 1:=by simp
   have HMI:=HP.out w2 (r.extract 1 r.size)
   have HPL:=HQ.out w2 (r.extract 1 r.size)
   obtain ⟨g,hg⟩:∃ g,g=r.extract 1 r.size:=⟨_,rfl⟩
   rw [<-hg] at HS HMI HPL hsz
   have r1:(1:Int)<=(r.size:Int):=by omega
   have g900:g.size<=900:=by omega
   have HG:=Lib.hid hg
   clear hrh he hex hg hsz HL2
   have hsig:(g.data.toList.head?=some 45/\signOf g.data.toList=(true,g.data.toList.tail))\/(g.data.toList.head?≠some 45/\g.data.toList.head?=some 43/\signOf g.data.toList=(false,g.data.toList.tail)) \/
    (g.data.toList.head?≠some 45/\g.data.toList.head?≠some 43/\signOf g.data.toList=(false,g.data.toList)):=by
    unfold signOf
    by_cases h1:g.data.toList.head?=some 45
    ·exact .inl ⟨h1,by rw [if_pos h1]⟩
    ·by_cases h2:g.data.toList.head?=some 43
     ·exact .inr (.inl ⟨h1,h2,by rw [if_neg h1,if_pos h2]⟩)
     ·exact .inr (.inr ⟨h1,h2,by rw [if_neg h1,if_neg h2]⟩)
   have hgt:(g.extract 1 g.size).data.toList=g.data.toList.tail:=by rw [Lib.extract_to_end];simp
   rcases hsig with ⟨h1,h3⟩|⟨h1,h2,h3⟩|⟨h1,h2,h3⟩
   ·rw [decide_eq_true h1] at HMI
    have gp:0<g.size:=by
     rcases Nat.eq_zero_or_pos g.size with h|h
     ·rw [list_nilFl h] at h1;cases h1
     ·exact h
    have g1:(1:Int)<=(g.size:Int):=by omega
    rw [h3,<-hgt] at HS
    have hxs:(g.extract 1 g.size).size<=1000:=by simp;omega
    have H3:=Lib.hid (fun w0=>HD.out (g.extract 1 g.size) w0 hxs)
    have HSS:=Lib.hid HS
    have HM:=Lib.hid HMI
    have HPP:=Lib.hid HPL
    clear h1 h3 HS HMI HPL hgt hxs
    go_wp2_with fail
    rw [<-HG.out]
    refine HM.out.mono ?_
    rintro e0 w3 ⟨rfl,rfl⟩
    go_wp2_with fail
    try rw [<-HG.out]
    refine (H3.out w3).mono ?_
    rintro e0 w5 ⟨ex,t,rfl,he1,he2,hb5⟩
    have B5:=Lib.hid (B2.out.trans (hb5.mono B2.out.size))
    have hdg:=tw_digits (g.extract 1 g.size).data.toList
    rw [<-he1] at hdg
    have hex9:ex.size<=1000:=by
     have h:=(tw_len (g.extract 1 g.size).data.toList).1
     rw [<-he1,<-Lib.size_eq,<-Lib.size_eq] at h
     exact Nat.le_trans h (by first|(simp;omega)|omega)
    by_cases hbad:ex.size=0\/0<t.size
    ·have N:=HSS.out
     rw [expEnd_no true _ _ _ he1 he2 (by
      rcases hbad with h|h
      ·exact .inl (list_nilFl h)
      ·exact .inr (list_neFl h))] at N
     replace N:=Lib.hid N
     clear hb5 he1 he2 hdg
     rcases Nat.eq_zero_or_pos ex.size with ze|pe
     ·obtain rfl:=bytes_nilFl ze
      clear ze hbad
      go_wp2_with fail
      go_ret3
      exact HNO.out w5 N.out B5.out
     ·obtain ⟨k1,k2⟩:=bytes_emFl pe
      have pt:0<t.size:=by omega
      obtain ⟨k3,k4⟩:=bytes_emFl pt
      clear hbad
      go_wp2_with fail
      go_ret3
      exact HNO.out w5 N.out B5.out
    have pe:0<ex.size:=by omega
    have zt:t.size=0:=by omega
    obtain rfl:=bytes_nilFl zt
    obtain ⟨k1,k2⟩:=bytes_emFl pe
    have Y:=HSS.out
    rw [expEnd_yes true _ _ _ he1 he2 (list_neFl pe) rfl] at Y
    replace Y:=Lib.hid Y
    obtain ⟨cap,w6,hconv,-,hsz6,hgr,hC⟩:=Gx.conv_bytes_run (P:=Tryz.prog) w5 9 72 5 ex Tryz.underlying9 Tryz.underlying72 Tryz.underlying5
    have B6:=Lib.hid (B5.out.trans ((Gx.grown_below hgr (Nat.le_refl _) (by simp)).mono B5.out.size))
    have HC:=Lib.hid hC
    have HDG:=Lib.hid (digit_at ex hdg)
    have HEV:=Lib.hid (expVal_take ex)
    clear hb5 he1 he2 hdg hbad zt hgr hC hsz6
    go_wp2_with fail
    clear hconv
    go_loop [3,79,10] (fun xv iv cv=>∃ k:Nat,k<=ex.size/\iv=.int .i64 k/\xv=.int .i64 (expVal (ex.data.toList.take k))) (fun _ iv _=>ex.size - (intOf iv).toNat)
    case atStart=>exact ⟨0,Nat.zero_le _,rfl,rfl⟩
    case round =>
     obtain ⟨k,hk,rfl,rfl⟩:=hrel
     obtain ⟨k0,k1'⟩:0<=(k:Int)/\(k:Int)<=(ex.size:Int):=by omega
     have hle:=expVal_le (ex.data.toList.take k)
     by_cases hlt:k<ex.size
     ·have c0:=HC.out k hlt
      have hdk:=HDG.out k hlt
      have hev:=HEV.out k hlt
      have e1:ex.data[k]=ex[k]:=rfl
      rw [e1] at c0
      obtain ⟨x,hx⟩:∃ x:Nat,x=ex[k].toNat:=⟨_,rfl⟩
      rw [<-hx] at c0 hdk hev
      obtain ⟨v,hv⟩:∃ v:Nat,v=expVal (ex.data.toList.take k):=⟨_,rfl⟩
      rw [<-hv] at hev hle ⊢
      obtain ⟨x1,x2⟩:48<=(x:Int)/\(x:Int)<=57:=by omega
      have HEV2:=Lib.hid hev
      clear e1 hx hv hev hdk
      go_wp2_with fail
      go_round
      case rel=>exact ⟨k+1,by omega,by go_num,by rw [HEV2.out];congr 1;omega⟩
      case measure=>simp [intOf];omega
     ·obtain rfl:k=ex.size:=by omega
      have hfull:ex.data.toList.take ex.size=ex.data.toList:=List.take_of_length_le (by rw [<-Lib.size_eq];exact Nat.le_refl _)
      rw [hfull] at hle ⊢
      clear hfull
      obtain ⟨v,hv⟩:∃ v:Nat,v=expVal ex.data.toList:=⟨_,rfl⟩
      rw [<-hv] at hle ⊢
      have HV:=Lib.hid hv
      clear hv
      go_wp2_with fail
      go_ret3
      exact HYES.out w6 _ _ (by rw [Y.out,<-HV.out];simp) B6.out
   ·rw [decide_eq_false h1] at HMI
    rw [decide_eq_true h2] at HPL
    have gp:0<g.size:=by
     rcases Nat.eq_zero_or_pos g.size with h|h
     ·rw [list_nilFl h] at h2;cases h2
     ·exact h
    have g1:(1:Int)<=(g.size:Int):=by omega
    rw [h3,<-hgt] at HS
    have hxs:(g.extract 1 g.size).size<=1000:=by simp;omega
    have H3:=Lib.hid (fun w0=>HD.out (g.extract 1 g.size) w0 hxs)
    have HSS:=Lib.hid HS
    have HM:=Lib.hid HMI
    have HPP:=Lib.hid HPL
    clear h1 h2 h3 HS HMI HPL hgt hxs
    go_wp2_with fail
    rw [<-HG.out]
    refine HM.out.mono ?_
    rintro e0 w3 ⟨rfl,rfl⟩
    go_wp2_with fail
    try rw [<-HG.out]
    refine HPP.out.mono ?_
    rintro e0 w4 ⟨rfl,rfl⟩
    obtain ⟨w3,rfl⟩:∃ w3:World,w3=w4:=⟨_,rfl⟩
    go_wp2_with fail
    try rw [<-HG.out]
    refine (H3.out w3).mono ?_
    rintro e0 w5 ⟨ex,t,rfl,he1,he2,hb5⟩
    have B5:=Lib.hid (B2.out.trans (hb5.mono B2.out.size))
    have hdg:=tw_digits (g.extract 1 g.size).data.toList
    rw [<-he1] at hdg
    have hex9:ex.size<=1000:=by
     have h:=(tw_len (g.extract 1 g.size).data.toList).1
     rw [<-he1,<-Lib.size_eq,<-Lib.size_eq] at h
     exact Nat.le_trans h (by first|(simp;omega)|omega)
    by_cases hbad:ex.size=0\/0<t.size
    ·have N:=HSS.out
     rw [expEnd_no false _ _ _ he1 he2 (by
      rcases hbad with h|h
      ·exact .inl (list_nilFl h)
      ·exact .inr (list_neFl h))] at N
     replace N:=Lib.hid N
     clear hb5 he1 he2 hdg
     rcases Nat.eq_zero_or_pos ex.size with ze|pe
     ·obtain rfl:=bytes_nilFl ze
      clear ze hbad
      go_wp2_with fail
      go_ret3
      exact HNO.out w5 N.out B5.out
     ·obtain ⟨k1,k2⟩:=bytes_emFl pe
      have pt:0<t.size:=by omega
      obtain ⟨k3,k4⟩:=bytes_emFl pt
      clear hbad
      go_wp2_with fail
      go_ret3
      exact HNO.out w5 N.out B5.out
    have pe:0<ex.size:=by omega
    have zt:t.size=0:=by omega
    obtain rfl:=bytes_nilFl zt
    obtain ⟨k1,k2⟩:=bytes_emFl pe
    have Y:=HSS.out
    rw [expEnd_yes false _ _ _ he1 he2 (list_neFl pe) rfl] at Y
    replace Y:=Lib.hid Y
    obtain ⟨cap,w6,hconv,-,hsz6,hgr,hC⟩:=Gx.conv_bytes_run (P:=Tryz.prog) w5 9 72 5 ex Tryz.underlying9 Tryz.underlying72 Tryz.underlying5
    have B6:=Lib.hid (B5.out.trans ((Gx.grown_below hgr (Nat.le_refl _) (by simp)).mono B5.out.size))
    have HC:=Lib.hid hC
    have HDG:=Lib.hid (digit_at ex hdg)
    have HEV:=Lib.hid (expVal_take ex)
    clear hb5 he1 he2 hdg hbad zt hgr hC hsz6
    go_wp2_with fail
    clear hconv
    go_loop [3,79,10] (fun xv iv cv=>∃ k:Nat,k<=ex.size/\iv=.int .i64 k/\xv=.int .i64 (expVal (ex.data.toList.take k))) (fun _ iv _=>ex.size - (intOf iv).toNat)
    case atStart=>exact ⟨0,Nat.zero_le _,rfl,rfl⟩
    case round =>
     obtain ⟨k,hk,rfl,rfl⟩:=hrel
     obtain ⟨k0,k1'⟩:0<=(k:Int)/\(k:Int)<=(ex.size:Int):=by omega
     have hle:=expVal_le (ex.data.toList.take k)
     by_cases hlt:k<ex.size
     ·have c0:=HC.out k hlt
      have hdk:=HDG.out k hlt
      have hev:=HEV.out k hlt
      have e1:ex.data[k]=ex[k]:=rfl
      rw [e1] at c0
      obtain ⟨x,hx⟩:∃ x:Nat,x=ex[k].toNat:=⟨_,rfl⟩
      rw [<-hx] at c0 hdk hev
      obtain ⟨v,hv⟩:∃ v:Nat,v=expVal (ex.data.toList.take k):=⟨_,rfl⟩
      rw [<-hv] at hev hle ⊢
      obtain ⟨x1,x2⟩:48<=(x:Int)/\(x:Int)<=57:=by omega
      have HEV2:=Lib.hid hev
      clear e1 hx hv hev hdk
      go_wp2_with fail
      go_round
      case rel=>exact ⟨k+1,by omega,by go_num,by rw [HEV2.out];congr 1;omega⟩
      case measure=>simp [intOf];omega
     ·obtain rfl:k=ex.size:=by omega
      have hfull:ex.data.toList.take ex.size=ex.data.toList:=List.take_of_length_le (by rw [<-Lib.size_eq];exact Nat.le_refl _)
      rw [hfull] at hle ⊢
      clear hfull
      obtain ⟨v,hv⟩:∃ v:Nat,v=expVal ex.data.toList:=⟨_,rfl⟩
      rw [<-hv] at hle ⊢
      have HV:=Lib.hid hv
      clear hv
      go_wp2_with fail
      go_ret3
      exact HYES.out w6 _ _ (by rw [Y.out,<-HV.out];simp) B6.out
   ·rw [decide_eq_false h1] at HMI
    rw [decide_eq_false h2] at HPL
    rw [h3] at HS
    have hxs:g.size<=1000:=by omega
    have H3:=Lib.hid (fun w0=>HD.out (g) w0 hxs)
    have HSS:=Lib.hid HS
    have HM:=Lib.hid HMI
    have HPP:=Lib.hid HPL
    clear h1 h2 h3 HS HMI HPL hgt hxs
    go_wp2_with fail
    rw [<-HG.out]
    refine HM.out.mono ?_
    rintro e0 w3 ⟨rfl,rfl⟩
    go_wp2_with fail
    try rw [<-HG.out]
    refine HPP.out.mono ?_
    rintro e0 w4 ⟨rfl,rfl⟩
    obtain ⟨w3,rfl⟩:∃ w3:World,w3=w4:=⟨_,rfl⟩
    go_wp2_with fail
    try rw [<-HG.out]
    refine (H3.out w3).mono ?_
    rintro e0 w5 ⟨ex,t,rfl,he1,he2,hb5⟩
    have B5:=Lib.hid (B2.out.trans (hb5.mono B2.out.size))
    have hdg:=tw_digits (g).data.toList
    rw [<-he1] at hdg
    have hex9:ex.size<=1000:=by
     have h:=(tw_len (g).data.toList).1
     rw [<-he1,<-Lib.size_eq,<-Lib.size_eq] at h
     exact Nat.le_trans h (by first|(simp;omega)|omega)
    by_cases hbad:ex.size=0\/0<t.size
    ·have N:=HSS.out
     rw [expEnd_no false _ _ _ he1 he2 (by
      rcases hbad with h|h
      ·exact .inl (list_nilFl h)
      ·exact .inr (list_neFl h))] at N
     replace N:=Lib.hid N
     clear hb5 he1 he2 hdg
     rcases Nat.eq_zero_or_pos ex.size with ze|pe
     ·obtain rfl:=bytes_nilFl ze
      clear ze hbad
      go_wp2_with fail
      go_ret3
      exact HNO.out w5 N.out B5.out
     ·obtain ⟨k1,k2⟩:=bytes_emFl pe
      have pt:0<t.size:=by omega
      obtain ⟨k3,k4⟩:=bytes_emFl pt
      clear hbad
      go_wp2_with fail
      go_ret3
      exact HNO.out w5 N.out B5.out
    have pe:0<ex.size:=by omega
    have zt:t.size=0:=by omega
    obtain rfl:=bytes_nilFl zt
    obtain ⟨k1,k2⟩:=bytes_emFl pe
    have Y:=HSS.out
    rw [expEnd_yes false _ _ _ he1 he2 (list_neFl pe) rfl] at Y
    replace Y:=Lib.hid Y
    obtain ⟨cap,w6,hconv,-,hsz6,hgr,hC⟩:=Gx.conv_bytes_run (P:=Tryz.prog) w5 9 72 5 ex Tryz.underlying9 Tryz.underlying72 Tryz.underlying5
    have B6:=Lib.hid (B5.out.trans ((Gx.grown_below hgr (Nat.le_refl _) (by simp)).mono B5.out.size))
    have HC:=Lib.hid hC
    have HDG:=Lib.hid (digit_at ex hdg)
    have HEV:=Lib.hid (expVal_take ex)
    clear hb5 he1 he2 hdg hbad zt hgr hC hsz6
    go_wp2_with fail
    clear hconv
    go_loop [3,79,10] (fun xv iv cv=>∃ k:Nat,k<=ex.size/\iv=.int .i64 k/\xv=.int .i64 (expVal (ex.data.toList.take k))) (fun _ iv _=>ex.size - (intOf iv).toNat)
    case atStart=>exact ⟨0,Nat.zero_le _,rfl,rfl⟩
    case round =>
     obtain ⟨k,hk,rfl,rfl⟩:=hrel
     obtain ⟨k0,k1'⟩:0<=(k:Int)/\(k:Int)<=(ex.size:Int):=by omega
     have hle:=expVal_le (ex.data.toList.take k)
     by_cases hlt:k<ex.size
     ·have c0:=HC.out k hlt
      have hdk:=HDG.out k hlt
      have hev:=HEV.out k hlt
      have e1:ex.data[k]=ex[k]:=rfl
      rw [e1] at c0
      obtain ⟨x,hx⟩:∃ x:Nat,x=ex[k].toNat:=⟨_,rfl⟩
      rw [<-hx] at c0 hdk hev
      obtain ⟨v,hv⟩:∃ v:Nat,v=expVal (ex.data.toList.take k):=⟨_,rfl⟩
      rw [<-hv] at hev hle ⊢
      obtain ⟨x1,x2⟩:48<=(x:Int)/\(x:Int)<=57:=by omega
      have HEV2:=Lib.hid hev
      clear e1 hx hv hev hdk
      go_wp2_with fail
      go_round
      case rel=>exact ⟨k+1,by omega,by go_num,by rw [HEV2.out];congr 1;omega⟩
      case measure=>simp [intOf];omega
     ·obtain rfl:k=ex.size:=by omega
      have hfull:ex.data.toList.take ex.size=ex.data.toList:=List.take_of_length_le (by rw [<-Lib.size_eq];exact Nat.le_refl _)
      rw [hfull] at hle ⊢
      clear hfull
      obtain ⟨v,hv⟩:∃ v:Nat,v=expVal ex.data.toList:=⟨_,rfl⟩
      rw [<-hv] at hle ⊢
      have HV:=Lib.hid hv
      clear hv
      go_wp2_with fail
      go_ret3
      exact HYES.out w6 _ _ (by rw [Y.out,<-HV.out];simp) B6.out
set_option maxRecDepth 100000
def FTab (w:World):Prop:=Lib.TabIs Tryz.prog w "internal/strconv.uint64pow10" .u64 Lib.pow10Tab
theorem FTab.keep {w w':World} (h:FTab w) (hb:Below w.heap.size w w'):FTab w':=TabIs_below (g:=3) (by kernel_rfl) h hb
theorem below_growFl (w:World) (k:Nat) (os:Array Obj):Below w.heap.size w (Go.Sort.grow (w.drewN k) os):=by
 refine ⟨rfl,rfl,rfl,?_,fun i hi=>?_⟩
 ·show w.heap.size<=(w.heap++os).size
  simp
 ·show (w.heap++os)[i]?=w.heap[i]?
  rw [Array.getElem?_append_left hi]
theorem ret_strFl {a b:ByteArray} (h:a.data.toList=b.data.toList):Ending.returned (.string a)=.returned (.string b):=by
 rw [show a=b from ByteArray.ext (Array.toList_inj.1 h)]
def StrPostFl (x:List UInt8) (w:World) (e:Ending) (w':World):Prop:=e=.returned (.string ⟨x.toArray⟩)/\Below w.heap.size w w'
theorem repeat_one (j:Nat):Lib.repeatL [48] j=List.replicate j 48:=by
 induction j with
 | zero=>rfl
 | succ j ih=>rw [Lib.repeatL,ih];rfl
theorem rep_any (j:Nat) (hj:j<=100000) (w:World):Calls Tryz.prog 93 #[.string ⟨#[48]⟩,.int .i64 j] w (StrPostFl (List.replicate j 48) w):=by
 have h:=Tryz.strings_Repeat ⟨#[48]⟩ j w (by omega) (by show 1 * j<=_;omega)
 rw [show (⟨#[48]⟩:ByteArray).data.toList=[48] from rfl,repeat_one] at h
 exact h
theorem itoa_any (y:Int) (h0:-100000<=y) (h1:y<=100000) (w:World) (hT:FTab w):Calls Tryz.prog 137 #[.int .i64 y] w (StrPostFl (Lib.itoa y) w):=by
 refine (Tryz.strconv_Itoa y (by omega) (by omega) w hT).mono ?_
 rintro e w2 ⟨rfl,k,os,rfl⟩
 exact ⟨rfl,below_growFl w k os⟩
set_option maxHeartbeats 2000000 in
theorem point_any (s:ByteArray) (k:Int) (w:World) (h1:1<=s.size) (h2:s.size<=17) (h3:-2000<=k) (h4:k<=2000) (hT:FTab w) :
 Calls Tryz.prog 116 #[.string s,.int .i64 k] w (StrPostFl (pointOf s.data.toList k) w):=by
 have hL:s.data.toList.length=s.size:=(Lib.size_eq s).symm
 have HT:=Lib.hid hT
 clear hT
 by_cases c1:-3<=(s.size:Int)+k/\(s.size:Int)+k<=0
 ·obtain ⟨j,hj⟩:∃ j:Nat,(s.size:Int)+k=-(j:Int):=⟨(-((s.size:Int)+k)).toNat,by omega⟩
  have e:pointOf s.data.toList k=[48,46]++List.replicate j 48++s.data.toList:=by
   unfold pointOf
   rw [hL,if_pos c1,show (-((s.size:Int)+k)).toNat=j by omega]
  rw [e]
  have HL:=Lib.hid hL
  have t1:decide (-3<=-(j:Int))=true:=decide_eq_true (by omega)
  have t2:decide (-(j:Int)<=0)=true:=decide_eq_true (by omega)
  have HR:=Lib.hid (fun w0=>rep_any j (by omega) w0)
  unfold StrPostFl at HR
  obtain ⟨j0,j1⟩:0<=(j:Int)/\(j:Int)<=3:=by omega
  clear e c1 hL
  go_enter Tryz.func116,Tryz.ntmps116
  go_wp2_with fail
  refine (HR.out w).mono ?_
  rintro e0 w1 ⟨rfl,hb⟩
  have B1:=Lib.hid hb
  clear hb
  go_wp2
  go_ret
  exact ⟨ret_strFl (by simp),B1.out⟩
 by_cases c2:0<(s.size:Int)+k/\(s.size:Int)+k<s.size
 ·obtain ⟨p,hp⟩:∃ p:Nat,(s.size:Int)+k=(p:Int):=⟨((s.size:Int)+k).toNat,by omega⟩
  have e:pointOf s.data.toList k=s.data.toList.take p++46::s.data.toList.drop p:=by
   unfold pointOf
   rw [hL,if_neg c1,if_pos c2,show ((s.size:Int)+k).toNat=p by omega]
  rw [e]
  have HL:=Lib.hid hL
  have t1:decide (-3<=(p:Int))=true:=decide_eq_true (by omega)
  have t2:decide ((p:Int)<=0)=false:=decide_eq_false (by omega)
  have t3:decide ((0:Int)<(p:Int))=true:=decide_eq_true (by omega)
  have t3n:0<p:=by omega
  have t4:decide ((p:Int)<(s.size:Int))=true:=decide_eq_true (by omega)
  have t4n:p<s.size:=by omega
  have t2n:p≠0:=by omega
  obtain ⟨j0,j1⟩:0<=(p:Int)/\(p:Int)<=(s.size:Int):=by omega
  clear e c1 c2 hL HT
  go_enter Tryz.func116,Tryz.ntmps116
  go_wp2_with fail
  go_quiet (fail)
  go_wp2
  go_ret
  have x1:(s.extract 0 p).data.toList=s.data.toList.take p:=by rw [Lib.extract_data,List.drop_zero,Nat.sub_zero]
  have x2:(s.extract p s.size).data.toList=s.data.toList.drop p:=Lib.extract_to_end s p
  exact ⟨ret_strFl (by simp only [ByteArray.data_append,Array.toList_append,x1,x2];simp),Gx.drewN_below _ _ _⟩
 by_cases c3:(s.size:Int)<=(s.size:Int)+k/\(s.size:Int)+k<=17
 ·obtain ⟨j,hj⟩:∃ j:Nat,k=(j:Int):=⟨k.toNat,by omega⟩
  subst hj
  have e:pointOf s.data.toList (j:Int)=s.data.toList++List.replicate j 48++[46,48]:=by
   unfold pointOf
   rw [hL,if_neg c1,if_neg c2,if_pos c3,show ((s.size:Int)+(j:Int) - (s.size:Int)).toNat=j by omega]
  rw [e]
  have HL:=Lib.hid hL
  have HR:=Lib.hid (fun w0=>rep_any j (by omega) w0)
  unfold StrPostFl at HR
  have t1:decide (-3<=(s.size:Int)+(j:Int))=true:=decide_eq_true (by omega)
  have t2:decide ((s.size:Int)+(j:Int)<=0)=false:=decide_eq_false (by omega)
  have t3:decide ((0:Int)<(s.size:Int)+(j:Int))=true:=decide_eq_true (by omega)
  have t4:decide ((s.size:Int)+(j:Int)<(s.size:Int))=false:=decide_eq_false (by omega)
  have t5:decide ((s.size:Int)<=(s.size:Int)+(j:Int))=true:=decide_eq_true (by omega)
  have t6:decide ((s.size:Int)+(j:Int)<=17)=true:=decide_eq_true (by omega)
  have ej:Hid ((s.size:Int)+(j:Int) - (s.size:Int)=(j:Int)):=by show _=_;omega
  obtain ⟨j0,j1⟩:0<=(j:Int)/\(s.size:Int)+(j:Int)<=17:=by omega
  clear e c1 c2 c3 hL
  go_enter Tryz.func116,Tryz.ntmps116
  go_wp2_with fail
  try rw [ej.out]
  refine (HR.out w).mono ?_
  rintro e0 w1 ⟨rfl,hb⟩
  have B1:=Lib.hid hb
  clear hb
  go_wp2
  go_ret
  exact ⟨ret_strFl (by simp),B1.out⟩
 obtain ⟨p,hp⟩:∃ p:Int,(s.size:Int)+k=p:=⟨_,rfl⟩
 have t1:decide (-3<=p)=false\/(decide (-3<=p)=true/\decide (p<=0)=false):=by
  by_cases h:-3<=p
  ·exact .inr ⟨decide_eq_true h,decide_eq_false (by omega)⟩
  ·exact .inl (decide_eq_false h)
 have t2:decide (0<p)=false\/(decide (0<p)=true/\decide (p<(s.size:Int))=false):=by
  by_cases h:0<p
  ·exact .inr ⟨decide_eq_true h,decide_eq_false (by omega)⟩
  ·exact .inl (decide_eq_false h)
 have t3:decide ((s.size:Int)<=p)=false\/(decide ((s.size:Int)<=p)=true/\decide (p<=17)=false):=by
  by_cases h:(s.size:Int)<=p
  ·exact .inr ⟨decide_eq_true h,decide_eq_false (by omega)⟩
  ·exact .inl (decide_eq_false h)
 obtain ⟨p0,p1⟩:-2000<=p/\p<=2100:=by omega
 have HI:=Lib.hid (itoa_any (p - 1) (by omega) (by omega) w HT.out)
 unfold StrPostFl at HI
 have hil:=itoa_len (p - 1) (by omega) (by omega)
 obtain ⟨it,hit⟩:∃ it,it=Lib.itoa (p - 1):=⟨_,rfl⟩
 rw [<-hit] at HI hil
 have s1:(1:Int)<=(s.size:Int):=by omega
 by_cases c4:1<s.size
 ·have e:pointOf s.data.toList k=s.data.toList.take 1++46::s.data.toList.drop 1++101::it:=by
   unfold pointOf
   rw [hL,if_neg c1,if_neg c2,if_neg c3,if_pos c4,hp,hit]
  rw [e]
  have HL:=Lib.hid hL
  have c4d:decide ((1:Int)<(s.size:Int))=true:=decide_eq_true (by omega)
  clear e c1 c2 c3 hL HT hit
  rcases t1 with t1|⟨t1,t1'⟩<;>rcases t2 with t2|⟨t2,t2'⟩<;>rcases t3 with t3|⟨t3,t3'⟩
  all_goals
   go_enter Tryz.func116,Tryz.ntmps116
   go_wp2_with fail
   refine HI.out.mono ?_
   rintro e0 w1 ⟨rfl,hb⟩
   have B1:=Lib.hid hb
   clear hb
   go_wp2
   go_ret
   have x1:(s.extract 0 1).data.toList=s.data.toList.take 1:=by rw [Lib.extract_data,List.drop_zero,Nat.sub_zero]
   have x2:(s.extract 1 s.size).data.toList=s.data.toList.drop 1:=Lib.extract_to_end s 1
   exact ⟨ret_strFl (by simp only [ByteArray.data_append,Array.toList_append,x1,x2];simp),B1.out⟩
 ·have e:pointOf s.data.toList k=s.data.toList++101::it:=by
   unfold pointOf
   rw [hL,if_neg c1,if_neg c2,if_neg c3,if_neg c4,hp,List.append_nil,List.take_of_length_le (by omega),hit]
  rw [e]
  have hx:s.extract 0 1=s:=by
   have:s.size=1:=by omega
   rw [<-this];exact ByteArray.extract_zero_size
  have HX:=Lib.hid hx
  have HL:=Lib.hid hL
  have c4d:decide ((1:Int)<(s.size:Int))=false:=decide_eq_false (by omega)
  clear e c1 c2 c3 hL HT hx hit
  rcases t1 with t1|⟨t1,t1'⟩<;>rcases t2 with t2|⟨t2,t2'⟩<;>rcases t3 with t3|⟨t3,t3'⟩
  all_goals
   go_enter Tryz.func116,Tryz.ntmps116
   go_wp2_with fail
   refine HI.out.mono ?_
   rintro e0 w1 ⟨rfl,hb⟩
   have B1:=Lib.hid hb
   clear hb
   go_wp2
   go_ret
   exact ⟨ret_strFl (by rw [HX.out];simp),B1.out⟩
set_option maxRecDepth 100000
def ReadPostF (l:List UInt8) (w:World) (e:Ending) (w':World):Prop:=∃ (x:Nat) (er:Int),e=.returned (.tuple #[.int .u64 x,.int .i64 er])/\ReadIs l x er/\Below w.heap.size w w'
theorem or_sign (f:Nat) (h:f<9223372036854775808):bits BinOp.or IntKind.u64 (f:Int) 9223372036854775808=((f+9223372036854775808:Nat):Int):=by
 have h52:(2:Nat) ^ 63=9223372036854775808:=by decide
 have h2:=bits_or_u64_nat f 9223372036854775808 (by omega) (by omega)
 have h3:=Nat.shiftLeft_add_eq_or_of_lt (b:=f) (i:=63) (by rw [h52];exact h) 1
 rw [Nat.shiftLeft_eq,Nat.one_mul,h52,Nat.or_comm] at h3
 rw [<-h3,Nat.add_comm] at h2
 exact h2
set_option maxHeartbeats 4000000 in
theorem read_f (s:ByteArray) (w:World):Calls Tryz.prog 103 #[.string s] w (ReadPostF s.data.toList w):=by
 have hfin:∀ (x:Nat) (er:Int) w',ReadIs s.data.toList x er->Below w.heap.size w w'->ReadPostF s.data.toList w (.returned (.tuple #[.int .u64 x,.int .i64 er])) w':=fun x er w' h1 h2=>⟨x,er,rfl,h1,h2⟩
 have hl:=Lib.size_eq s
 have HFIN:=Lib.hid hfin
 generalize ReadPostF s.data.toList w=POST at *
 clear hfin
 by_cases hbig:80<s.size
 ·have N:=Lib.hid (HFIN.out 0 2 w (.inl ⟨by omega,rfl,by decide⟩) (Below.refl _ _))
  have t0:decide ((80:Int)<(s.size:Int))=true:=decide_eq_true (by omega)
  clear hl HFIN
  go_enter Tryz.func103,Tryz.ntmps103
  go_wp2_with fail
  try go_ret2
  exact N.out
 have t0:decide ((80:Int)<(s.size:Int))=false:=decide_eq_false (by omega)
 have hcp:=Tryz.strings_CutPrefix s ⟨#[45]⟩ w
 have e45:(⟨#[45]⟩:ByteArray).data.toList=[45]:=rfl
 rw [e45] at hcp
 have htp:(Lib.trimPrefix s.data.toList [45]).length<=80:=by
  unfold Lib.trimPrefix
  split
  ·rw [List.length_drop];omega
  ·omega
 have hR1:=fun x er (h:s.data.toList≠nanTxt) (h2:Lib.trimPrefix s.data.toList [45]=infTxt) (h3:x=9218868437227405312+signBit (Lib.hasPrefix s.data.toList [45])) (h4:er=(0:Int))=>(show ReadIs s.data.toList x er from .inr ⟨by omega,.inr (.inl ⟨h,h2,h3,h4⟩)⟩)
 have hR2:=fun x er (h:s.data.toList≠nanTxt) (h2:Lib.trimPrefix s.data.toList [45]≠infTxt) (h3:NumIs (Lib.trimPrefix s.data.toList [45]) x er (Lib.hasPrefix s.data.toList [45]))=>(show ReadIs s.data.toList x er from .inr ⟨by omega,.inr (.inr ⟨h,h2,h3⟩)⟩)
 obtain ⟨R,hR⟩:∃ R:ByteArray,R=⟨(Lib.trimPrefix s.data.toList [45]).toArray⟩:=⟨_,rfl⟩
 have hRl:R.data.toList=Lib.trimPrefix s.data.toList [45]:=by rw [hR]
 rw [<-hR] at hcp
 rw [<-hRl] at hR1 hR2 htp
 rw [<-Lib.size_eq] at htp
 obtain ⟨mi,hmi⟩:∃ m,m=Lib.hasPrefix s.data.toList [45]:=⟨_,rfl⟩
 rw [<-hmi] at hcp hR1 hR2
 have HC:=Lib.hid hcp
 have HR1:=Lib.hid hR1
 have HR2:=Lib.hid hR2
 clear hcp e45 hR1 hR2 hR hRl hmi hl hbig
 have hor:=or_sign 9218868437227405312 (by decide)
 by_cases hn:s.data.toList=nanTxt
 ·have N:=Lib.hid (fun w' hb=>HFIN.out 9221120237041090561 0 w' (by rw [hn];exact .inr ⟨by decide,.inl ⟨rfl,rfl,rfl⟩⟩) hb)
  have tn:(s.toList==[110,97,110])=true:=by rw [Lib.toList_data,hn];rfl
  clear HFIN HR1 HR2 hn hor
  go_enter Tryz.func103,Tryz.ntmps103
  go_wp2_with fail
  refine HC.out.mono ?_
  rintro e0 w1 ⟨rfl,rfl⟩
  go_wp2_with fail
  try go_ret2
  exact N.out _ (Below.refl _ _)
 have tn:(s.toList==[110,97,110])=false:=by
  rw [Lib.toList_data,beq_eq_false_iff_ne];exact hn
 by_cases hi:R.data.toList=infTxt
 ·have ti:(R.toList==[105,110,102])=true:=by rw [Lib.toList_data,hi];rfl
  have N:=Lib.hid (fun x h3 w' hb=>HFIN.out x 0 w' (HR1.out x 0 hn hi h3 rfl) hb)
  have HOR:=Lib.hid hor
  clear HFIN HR1 HR2 hn hi hor
  cases mi
  all_goals
   go_enter Tryz.func103,Tryz.ntmps103
   go_wp2_with fail
   refine HC.out.mono ?_
   rintro e0 w1 ⟨rfl,rfl⟩
   go_wp2_with fail
   try go_ret2
   first|exact N.out _ rfl _ (Below.refl _ _)|(have h:=N.out _ rfl w1 (Below.refl _ _);rw [show (9218868437227405312+signBit true:Nat)=9218868437227405312+9223372036854775808 from rfl,<-HOR.out] at h;exact h)
 have ti:(R.toList==[105,110,102])=false:=by
  rw [Lib.toList_data,beq_eq_false_iff_ne];exact hi
 have HNUM:=Lib.hid (fun x er h3 w' hb=>HFIN.out x er w' (HR2.out x er hn hi h3) hb)
 have HL:=fun w0=>literal_any R w0 (by omega)
 unfold LitPost at HL
 have HLL:=Lib.hid HL
 have HSG:=Lib.hid or_sign
 clear HFIN HR1 HR2 hn hi hor HL
 unfold NumIs at HNUM
 have R80:R.data.toList.length<=80:=by rw [<-Lib.size_eq];exact htp
 generalize R.data.toList=LR at *
 go_enter Tryz.func103,Tryz.ntmps103
 go_wp2_with fail
 refine HC.out.mono ?_
 rintro e0 w1 ⟨rfl,rfl⟩
 go_wp2_with fail
 refine (HLL.out w1).mono ?_
 rintro e0 w2 (⟨hlit,rfl,hb2⟩|⟨d,x,hlit,rfl,hb2⟩)
 ·have N:=Lib.hid (HNUM.out 0 4 (.inl ⟨hlit,rfl,by decide⟩) w2 hb2)
  clear hb2 hlit
  go_wp2_with fail
  try go_ret2
  exact N.out
 obtain ⟨k1,k2,k3⟩:=litOf_some hlit
 have htl:=trim_len d.data.toList
 have hok:=trim_ok k1
 have hTL:=fun w0=>Tryz.strings_TrimLeft_one d 48 (by decide) w0
 have N1:=Lib.hid (fun b (hh:Hits (decVal (Lib.trimLeftB d.data.toList 48)) (max (min x 1000) (-1000)) b) (h7:b<9218868437227405312) w' hb=>HNUM.out (b+signBit mi) 0 (.inr ⟨_,_,b,hlit,hh,.inr ⟨h7,rfl,rfl⟩⟩) w' hb)
 have N2:=Lib.hid (fun b (hh:Hits (decVal (Lib.trimLeftB d.data.toList 48)) (max (min x 1000) (-1000)) b) (h7:b=9218868437227405312) w' hb=>HNUM.out 0 7 (.inr ⟨_,_,b,hlit,hh,.inl ⟨h7,rfl,by decide⟩⟩) w' hb)
 obtain ⟨T,hT⟩:∃ T:ByteArray,T=⟨(Lib.trimLeftB d.data.toList 48).toArray⟩:=⟨_,rfl⟩
 have hTl:T.data.toList=Lib.trimLeftB d.data.toList 48:=by rw [hT]
 have hTL2:∀ w0,Calls Tryz.prog 125 #[.string d,.string ⟨#[48]⟩] w0 fun e w'=>e=.returned (.string T)/\w'=w0:=by
  intro w0;rw [hT];exact hTL w0
 rw [<-hTl] at N1 N2 htl hok
 have T160:T.size<=160:=by rw [Lib.size_eq];omega
 have HTL:=Lib.hid hTL2
 have B2:=Lib.hid hb2
 have e7:max (min x 1000) (-1000)=max (min x 1000) (-1000):=rfl
 clear hTL hTL2 hT hTl htl k1 k2 k3 hlit HNUM hb2 e7 R80 HLL
 go_wp2_with fail
 refine (HTL.out w2).mono ?_
 rintro e0 w3 ⟨rfl,rfl⟩
 rcases Nat.eq_zero_or_pos T.size with zT|pT
 ·obtain rfl:=bytes_nilFl zT
  have h0:∀ e:Int,Hits (decVal []) e 0:=by
   intro e
   have e2:decVal []=0:=rfl
   rw [e2]
   unfold Hits
   rw [Nat.zero_mul]
   exact rnd_zero75 _ (tenDn_pos _)
  have N:=Lib.hid (N1.out 0 (h0 _) (by decide) w3 B2.out)
  have HOR:=Lib.hid (HSG.out 0 (by decide))
  clear h0 zT N1 N2 hok
  cases mi
  all_goals
   go_wp2_with fail
   try go_ret2
   first|exact N.out|(have h:=N.out;rw [show (0+signBit true:Nat)=0+9223372036854775808 from rfl,<-HOR.out] at h;exact h)
 obtain ⟨em1,em2⟩:=bytes_emFl pT
 have hdk:=hok (list_neFl pT)
 have hR:=fun w0=>bigRead_any T w0
 have hT2:T.data.toList.length<=160:=by rw [<-Lib.size_eq];exact T160
 have hR2:=fun w0=>(hR w0).mono (R':=fun e w'=>∃ ad cap,e=.returned (.tuple #[.slice ad (canon (decVal T.data.toList)).length cap,.int .i64 0])/\Rd .u32 w' ad cap (canon (decVal T.data.toList))/\Below w0.heap.size w0 w') (by
  rintro e w' (⟨-,-,ad,cap,rfl,h2,h3⟩|⟨h,-⟩)
  ·exact ⟨ad,cap,rfl,h2,h3⟩
  ·exact absurd ⟨hdk,by omega⟩ h)
 have hlt:=decVal_lt hdk
 have hfit:Fits (decVal T.data.toList) 21:=Nat.lt_of_lt_of_le hlt (Nat.le_trans (Nat.pow_le_pow_right (by decide) hT2) (Nat.le_of_lt (ten_fitsK 160 21 (by omega))))
 generalize decVal T.data.toList=V at *
 obtain ⟨y,hy⟩:∃ y,y=max (min x 1000) (-1000):=⟨_,rfl⟩
 have hy2:-1000<=y/\y<=1000:=by omega
 rw [<-hy] at N1 N2
 have HNR:=Lib.hid (fun w0 po pc (hr:Rd .u32 w0 po pc (canon V)) =>
  near_two' po pc (canon V) w0 V y hr (bval_canon _) (Nat.le_trans hfit.len (by decide)) hy2.1 hy2.2 (Nat.le_trans (blen_of_fits _ _ hfit) (by decide)))
 unfold NearPost at HNR
 have HR:=Lib.hid hR2
 have HY:=Lib.hid hy
 clear hR hR2 hdk hlt hfit hok hy hy2 hT2
 go_wp2_with fail
 refine (HR.out w3).mono ?_
 rintro e0 w4 ⟨mo,mc,rfl,hr,hb4⟩
 have HN:=Lib.hid (HNR.out w4 mo mc hr)
 have B4:=Lib.hid (B2.out.trans (hb4.mono B2.out.size))
 clear hr hb4 HNR
 go_wp2_with fail
 try rw [<-HY.out]
 refine HN.out.mono ?_
 rintro e0 w5 ⟨b,rfl,hr,hb5⟩
 have hble:=hr.le
 have B5:=Lib.hid (B4.out.trans (hb5.mono B4.out.size))
 have HH:=Lib.hid (show Hits V y b from hr)
 clear hr hb5 HN
 by_cases hinf:b=9218868437227405312
 ·have N:=Lib.hid (N2.out b HH.out hinf w5 B5.out)
  clear N1 N2 HH
  subst hinf
  go_wp2_with fail
  try go_ret2
  exact N.out
 ·have hlt:b<9218868437227405312:=by omega
  have N:=Lib.hid (N1.out b HH.out hlt w5 B5.out)
  have HOR:=Lib.hid (HSG.out b (by omega))
  have tb:((b:Int)==9218868437227405312)=false:=by rw [beq_eq_false_iff_ne];omega
  have tb2:decide ((b:Int)=9218868437227405312)=false:=decide_eq_false (by omega)
  clear N1 N2 HH hinf
  cases mi
  all_goals
   go_wp2_with fail
   try go_ret2
   first|exact N.out|(have h:=N.out;rw [show (b+signBit true:Nat)=b+9223372036854775808 from rfl,<-HOR.out] at h;exact h)
set_option maxRecDepth 100000
theorem grown_alloc' {v:Value} {w w1:World} (o:Obj) (h:(w.alloc o).grownBy w1 v.ownBlock):w.grownBy w1 v.ownBlock :=
 ⟨h.os,h.tape,h.output,Nat.le_trans (by simp) h.size,fun i hi hne=>(h.block i (by simp;omega) hne).trans (Below.heap_alloc w o i hi)⟩
def cellsT (t:Bool) (p:ByteArray×Loc):List Value:=if t then .string p.1::p.2.cs else p.2.cs
theorem cellsT_len (t:Bool) (p:ByteArray×Loc):(cellsT t p).length=st t:=by cases t<;>rfl
theorem flat_get {α:Type} {f:α->List Value} {k:Nat} (hk:∀ a,(f a).length=k):∀ (ps:List α) (i:Nat) (p:α),ps[i]?=some p->∀ j,j<k->(ps.flatMap f)[i * k+j]?=(f p)[j]?
 | [],i,p,h,_,_=>by simp at h
 | q::ps,0,p,h,j,hj=>by
   obtain rfl:q=p:=by simpa using h
   rw [List.flatMap_cons,Nat.zero_mul,Nat.zero_add,List.getElem?_append_left (by rw [hk];exact hj)]
 | q::ps,i+1,p,h,j,hj=>by
   have ih:=flat_get hk ps i p (by simpa using h) j hj
   rw [List.flatMap_cons,List.getElem?_append_right (by rw [hk,Nat.succ_mul];omega),hk,show (i+1) * k+j - k=i * k+j by rw [Nat.succ_mul];omega]
   exact ih
structure Acc (w:World) (vb:Nat) (t:Bool) (e:TypeId) (v:Value) (ps:List (ByteArray×Loc)):Prop where
 own:w.ownsRow (vb+1) e (st t) v ps.length (ps.flatMap (cellsT t))
 at_:∀ p∈ps,VAt w (fun b=>vb<b/\v.ownBlock≠some b) p.2
 key:∀ p∈ps,p.1.size<=140737488351232
theorem Acc.nil (w:World) (vb:Nat) (t:Bool) (e:TypeId):Acc w vb t e (.slice none 0 0) []:=⟨World.ownsRow_nil _ _ _ _,fun _ h=>absurd h List.not_mem_nil,fun _ h=>absurd h List.not_mem_nil⟩
theorem Acc.grow {w w':World} {vb:Nat} {t:Bool} {e:TypeId} {v:Value} {ps:List (ByteArray×Loc)} {r:Option Nat} (h:Acc w vb t e v ps) (hg:w.grownBy w' r) (hr:∀ b,r=some b->b<=vb):Acc w' vb t e v ps:=by
 refine ⟨h.own.kept hg ?_,fun p hp=>(h.at_ p hp).grow hg (fun b hb hb2=>by have:=hr b hb;omega),h.key⟩
 cases hv:v.ownBlock with
 | none=>exact .inl rfl
 | some b =>
   have:=(h.own.lt b hv).1
   exact .inr (fun e=>by have:=hr b e.symm;omega)
theorem Acc.form {w:World} {vb:Nat} {t:Bool} {e:TypeId} {v:Value} {ps:List (ByteArray×Loc)} (h:Acc w vb t e v ps):∃ ao c,v=.slice ao ps.length c:=own_form h.own
theorem Acc.push {w w':World} {vb:Nat} {t:Bool} {e:TypeId} {v v':Value} {ps:List (ByteArray×Loc)} {p:ByteArray×Loc} (h:Acc w vb t e v ps) (hp:VAt w (fun b=>vb<b/\v.ownBlock≠some b) p.2) (hk:p.1.size<=140737488351232)
 (ho:w'.ownsRow (vb+1) e (st t) v' (ps.length+1) (ps.flatMap (cellsT t)++cellsT t p)) (hg:w.grownBy w' v.ownBlock) (hm:Moved v v' w.heap.size):Acc w' vb t e v' (ps++[p]):=by
 refine ⟨by rw [List.length_append,List.flatMap_append];simpa using ho,fun x hx=>?_,fun x hx=>?_⟩
 ·have hx':VAt w (fun b=>vb<b/\v.ownBlock≠some b) x.2:=by
   rcases List.mem_append.1 hx with hx|hx
   ·exact h.at_ x hx
   ·obtain rfl:x=p:=by simpa using hx
    exact hp
  refine hx'.through hg.size (fun b hb hl=>hg.block b hl (fun e=>hb.2 e.symm)) (fun b hb hl=>⟨hb.1,fun e=>?_⟩)
  rcases hm with hm|⟨g,hm,hgl⟩
  ·exact hb.2 (by rw [<-hm];exact e)
  ·rw [hm] at e;have:g=b:=Option.some.inj e;omega
 ·rcases List.mem_append.1 hx with hx|hx
  ·exact h.key x hx
  ·obtain rfl:x=p:=by simpa using hx
   exact hk
theorem Acc.row {w:World} {vb:Nat} {t:Bool} {e:TypeId} {v:Value} {ps:List (ByteArray×Loc)} {xs:List (ByteArray×V)} (h:Acc w vb t e v ps) (hl:ps.length * (st t * 16 - 8)<=140737488351232) (hx:xs=ps.map fun p=>(p.1,p.2.v)):RowAt w (vb<·) t xs v:=by
 subst hx
 have hcell:=fun g=>h.own.cells (g:=g)
 have hlt:=h.own.lt
 rcases h.own.2 with ⟨rfl,h0⟩|⟨g,cap,cur,rfl,hb,-⟩
 ·obtain rfl:ps=[]:=List.eq_nil_of_length_eq_zero h0
  exact .nil _ _ _
 by_cases hne:ps=[]
 ·subst hne;exact .nil _ _ _
 have hm:(ps.map fun p=>(p.1,p.2.v)).length=ps.length:=List.length_map _
 have hget:∀ i x,(ps.map fun p=>(p.1,p.2.v))[i]?=some x->∃ p:ByteArray×Loc,ps[i]?=some p/\(p.1,p.2.v)=x:=fun i x hi=>by
  rw [List.getElem?_map] at hi
  exact Option.map_eq_some_iff.1 hi
 have hc:∀ i p,ps[i]?=some p->∀ j u,j<st t->(cellsT t p)[j]?=some u->w.cell? ⟨g,0+i * st t+j,none⟩=some u:=fun i p hi j u hj hu=>by
  have:=hcell g rfl (i * st t+j) u ((flat_get (cellsT_len t) ps i p hi j hj).trans hu)
  rw [Addr.add_lit] at this
  rw [Nat.add_assoc];exact this
 have hin:∀ i p,ps[i]?=some p->p∈ps:=fun i p hi=>List.mem_of_getElem? hi
 have hB:∀ {p:ByteArray×Loc},p∈ps->VAt w (vb<·) p.2:=fun hp=>(h.at_ _ hp).weak (fun b hb _=>hb.1)
 have hsl:∀ i:Nat,∃ s:Value×Value,∀ p,ps[i]?=some p->s=(p.2.sl,p.2.se):=fun i=>by
  cases hp:ps[i]? with
  | none=>exact ⟨(undef,undef),fun p h=>(by cases h)⟩
  | some p=>exact ⟨(p.2.sl,p.2.se),fun q h=>(by cases h;rfl)⟩
 obtain ⟨S,hS⟩:∃ S:Nat->Value×Value,∀ i p,ps[i]?=some p->S i=(p.2.sl,p.2.se):=⟨fun i=>Classical.choose (hsl i),fun i=>Classical.choose_spec (hsl i)⟩
 have hgt:=(hlt g rfl)
 have key:RowAt w (vb<·) t (ps.map fun p=>(p.1,p.2.v)) (.slice (some ⟨g,0,none⟩) (ps.map fun p=>(p.1,p.2.v)).length cap):=by
  refine .row t _ g 0 cap (fun i=>(S i).1) (fun i=>(S i).2) (by simpa using hne) (by rw [hm];exact hl) (by omega) hgt.2 (fun ht i x hi=>?_) (fun i x hi=>?_) (fun i x hi=>?_) (fun i x hi=>?_)
  ·obtain ⟨p,hp,rfl⟩:=hget i x hi
   subst ht
   exact ⟨hc i p hp 0 _ (by decide) rfl,h.key p (hin i p hp)⟩
  ·obtain ⟨p,hp,rfl⟩:=hget i x hi
   refine ⟨(hB (hin i p hp)).wf,?_⟩
   simp only [hS i p hp]
   cases t with
   | false=>exact ⟨hc i p hp 0 _ (by decide) rfl,hc i p hp 1 _ (by decide) rfl,hc i p hp 2 _ (by decide) rfl,hc i p hp 3 _ (by decide) rfl,hc i p hp 4 _ (by decide) rfl,hc i p hp 5 _ (by decide) rfl⟩
   | true=>exact ⟨hc i p hp 1 _ (by decide) rfl,hc i p hp 2 _ (by decide) rfl,hc i p hp 3 _ (by decide) rfl,hc i p hp 4 _ (by decide) rfl,hc i p hp 5 _ (by decide) rfl,hc i p hp 6 _ (by decide) rfl⟩
  ·obtain ⟨p,hp,rfl⟩:=hget i x hi
   simp only [hS i p hp]
   exact (hB (hin i p hp)).l
  ·obtain ⟨p,hp,rfl⟩:=hget i x hi
   simp only [hS i p hp]
   exact (hB (hin i p hp)).e
 rw [hm] at key
 exact key
theorem Tryz.info_val:(Tryz.prog.info? 26).map (fun i=>(i.zero,i.size,i.bytes))=some (some (.agg #[.int .i64 0,.int .i64 0,.int .u64 0,.string ⟨#[]⟩,.slice none 0 0,.slice none 0 0]),6,88):=by kernel_rfl
theorem Tryz.info_ent:(Tryz.prog.info? 44).map (fun i=>(i.zero,i.size,i.bytes))=some (some (.agg #[.string ⟨#[]⟩,.int .i64 0,.int .i64 0,.int .u64 0,.string ⟨#[]⟩,.slice none 0 0,.slice none 0 0]),7,104):=by kernel_rfl
theorem cellsT_one (t:Bool) (p:ByteArray×Loc):∀ u∈cellsT t p,u.oneCell'=true:=by
 intro u hu
 cases t with
 | false =>
   simp only [cellsT,Loc.cs,List.mem_cons,List.not_mem_nil,or_false,if_neg (show ¬ (false=true) by decide)] at hu
   rcases hu with rfl|rfl|rfl|rfl|rfl|rfl<;>rfl
 | true =>
   simp only [cellsT,Loc.cs,List.mem_cons,List.not_mem_nil,or_false,if_true] at hu
   rcases hu with rfl|rfl|rfl|rfl|rfl|rfl|rfl<;>rfl
theorem step_acc {t:Bool} {e ti:TypeId} {z:Value} {bytes:Nat} (ht:Tryz.prog.underlying ti=some (.slice e)) (hinfo:(Tryz.prog.info? e).map (fun i=>(i.zero,i.size,i.bytes))=some (some z,st t,bytes)) (hzs:z.cells.size=st t) (hby:bytes<=104)
 {ops:Array Oper} {o:Oper} {ac:Act} {K:Act->World->Prop} {Q:Exit->Act->World->Prop} {F:Prop} {w:World} {vb:Nat} {v:Value} {ps:List (ByteArray×Loc)} (hgd:o.guard=none) (s x:Operand)
 (ho:o.op=.call { callee:=.builtin .append,args:=#[s,x],argTypes:=#[ti,ti] }) (h:Acc w vb t e v ps) (hb:vb+1<=w.heap.size) (p:ByteArray×Loc) (hp:VAt w (fun b=>vb<b/\v.ownBlock≠some b) p.2) (hk:p.1.size<=140737488351232)
 (W:World) (hW:W=w.alloc (.cells (cellsT t p).toArray e)) (hs:ac.eval s=v) (hx:ac.eval x=.slice (some ⟨w.heap.size,0,none⟩) 1 1) (n:Nat) (hn:ps.length=n) (hl:(n+1) * bytes<=140737488351232) (h63:n<=10000000000000)
 (hK:∀ ao c w',Acc w' vb t e (.slice ao (n+1) c) (ps++[p])->w.grownBy w' v.ownBlock->K (ac.put o.dst (.slice ao (n+1) c)) w') :
 if Region.wanted o (yielded ops ac.tmps)=true then Oper.wp Tryz.prog o ac W K Q else F:=by
 subst hW
 subst hn
 obtain ⟨i0,hi,hz0,hz1,hz2⟩:=info_parts hinfo
 have hw:Region.wanted o (yielded ops ac.tmps)=true:=by simp [Region.wanted,hgd]
 rw [if_pos hw]
 have hst:0<st t:=by cases t<;>decide
 obtain ⟨v',w',hr,ho2,hg,hm,hnn⟩:=run_append_moved (P:=Tryz.prog) (w.alloc (.cells (cellsT t p).toArray e)) (vb+1) ti o.type e i0 z (st t) bytes ht hi hz0 hz1 hz2 hzs hst v ps.length (ps.flatMap (cellsT t))
  (h.own.alloc _) ⟨w.heap.size,0,none⟩ 1 1 (cellsT t p) (by rw [cellsT_len,Nat.one_mul])
  (fun j u hj=>by
    rw [Addr.add_lit]
    have:=World.cell?_alloc_mark w (cellsT t p).toArray e (0,0) (0+j)
    rw [this];simpa using hj)
  (cellsT_one t p) (Nat.le_trans hl (by decide)) (by unfold maxLen;omega) (by simp;omega)
 have hg':=grown_alloc' (.cells (cellsT t p).toArray e) hg
 have hm':Moved v v' w.heap.size:=by
  rcases hm with hm|⟨g,hm,hgl⟩
  ·exact .inl hm
  ·exact .inr ⟨g,hm,by simp at hgl;omega⟩
 have hacc:=h.push hp hk ho2 hg' hm'
 obtain ⟨ao,c,rfl⟩:=own_form ho2
 unfold Oper.wp execOp
 simp only [ho,resolve,invoke,builtin,Sem.run_bind,Sem.run_pure,Result.andThen_ok,List.map_toArray,List.map_cons,List.map_nil,hs,hx,hr]
 exact hK ao c w' hacc hg'
theorem Acc.above {W:World} {vb:Nat} {t:Bool} {e:TypeId} {v:Value} {ps:List (ByteArray×Loc)} (h:Acc W vb t e v ps):∀ b,v.ownBlock=some b->vb<b:=fun b hb=>(h.own.lt b hb).1
theorem Acc.fresh {W W':World} {vb:Nat} {t:Bool} {e:TypeId} {v:Value} {ps:List (ByteArray×Loc)} {q:Loc} (h:Acc W vb t e v ps) (hv:vb<W.heap.size) (hq:VAt W' (fun b=>W.heap.size<=b) q):VAt W' (fun b=>vb<b/\v.ownBlock≠some b) q :=
 hq.weak (fun b hb _=>⟨by omega,fun e=>by have:=(h.own.lt b e).2;omega⟩)
theorem grown_none {W W':World} (hb:Below W.heap.size W W'):W.grownBy W' none:=⟨hb.os,hb.tape,hb.output,hb.size,fun i hi _=>hb.block i hi⟩
theorem grown_cell (w:World) (b j:Nat) (v:Value):w.grownBy (w.setCell ⟨b,j,none⟩ v) (some b) :=
 ⟨rfl,rfl,rfl,by simp [World.setCell],fun k _ hk=>Below.heap_setCell _ _ _ k (fun e=>hk (by rw [e]))⟩
theorem six_store {w:World} {b:Nat} {ty:TypeId} {a0 a1 a2 a3 a4 a5:Value} (h:w.heap[b]?=some (.cells #[a0,a1,a2,a3,a4,a5] ty)) (j:Nat) (u:Value):(w.setCell ⟨b,j,none⟩ u).heap[b]?=some (.cells (#[a0,a1,a2,a3,a4,a5].setIfInBounds j u) ty):=by
 simp [World.setCell,Array.getElem?_modify,h]
theorem six_cells {w:World} {b:Nat} {ty:TypeId} {a0 a1 a2 a3 a4 a5:Value} (h:w.heap[b]?=some (.cells #[a0,a1,a2,a3,a4,a5] ty)):w.cell? ⟨b,0,none⟩=some a0/\w.cell? ⟨b,1,none⟩=some a1/\w.cell? ⟨b,2,none⟩=some a2/\w.cell? ⟨b,3,none⟩=some a3/\w.cell? ⟨b,4,none⟩=some a4/\w.cell? ⟨b,5,none⟩=some a5/\(∀ j,w.frozen? ⟨b,j,none⟩=false) :=
 ⟨by simp [World.cell?,h],by simp [World.cell?,h],by simp [World.cell?,h],by simp [World.cell?,h],by simp [World.cell?,h],by simp [World.cell?,h],fun j=>by simp [World.frozen?,h]⟩
theorem seven_cells {w:World} {b:Nat} {ty:TypeId} {a0 a1 a2 a3 a4 a5 a6:Value} (h:w.heap[b]?=some (.cells #[a0,a1,a2,a3,a4,a5,a6] ty)):w.cell? ⟨b,0,none⟩=some a0/\w.cell? ⟨b,1,none⟩=some a1/\w.cell? ⟨b,2,none⟩=some a2/\w.cell? ⟨b,3,none⟩=some a3/\w.cell? ⟨b,4,none⟩=some a4/\w.cell? ⟨b,5,none⟩=some a5/\w.cell? ⟨b,6,none⟩=some a6 :=
 ⟨by simp [World.cell?,h],by simp [World.cell?,h],by simp [World.cell?,h],by simp [World.cell?,h],by simp [World.cell?,h],by simp [World.cell?,h],by simp [World.cell?,h]⟩
theorem six_all {W:World} {b:Nat} {ty:TypeId} {a0 a1 a2 a3 a4 a5:Value} (h:W.heap[b]?=some (.cells #[a0,a1,a2,a3,a4,a5] ty)) (u0 u1 u2 u3 u4 u5:Value) :
 ∃ W9,W9=(((((W.setCell ⟨b,0,none⟩ u0).setCell ⟨b,1,none⟩ u1).setCell ⟨b,2,none⟩ u2).setCell ⟨b,3,none⟩ u3).setCell ⟨b,4,none⟩ u4).setCell ⟨b,5,none⟩ u5 /\
  W9.heap[b]?=some (.cells #[u0,u1,u2,u3,u4,u5] ty)/\(∀ c,c≠b->W9.heap[c]?=W.heap[c]?)/\W.heap.size<=W9.heap.size /\
  (∀ B w,Below B w W->B<=b->Below B w W9)/\∀ B q,VAt W B q->¬ B b->VAt W9 B q:=by
 have h0:(W.setCell ⟨b,0,none⟩ u0).heap[b]?=some (.cells #[u0,a1,a2,a3,a4,a5] ty):=six_store h 0 u0
 have h1:((W.setCell ⟨b,0,none⟩ u0).setCell ⟨b,1,none⟩ u1).heap[b]?=some (.cells #[u0,u1,a2,a3,a4,a5] ty):=six_store h0 1 u1
 have h2:(((W.setCell ⟨b,0,none⟩ u0).setCell ⟨b,1,none⟩ u1).setCell ⟨b,2,none⟩ u2).heap[b]?=some (.cells #[u0,u1,u2,a3,a4,a5] ty):=six_store h1 2 u2
 have h3:((((W.setCell ⟨b,0,none⟩ u0).setCell ⟨b,1,none⟩ u1).setCell ⟨b,2,none⟩ u2).setCell ⟨b,3,none⟩ u3).heap[b]?=some (.cells #[u0,u1,u2,u3,a4,a5] ty):=six_store h2 3 u3
 have h4:(((((W.setCell ⟨b,0,none⟩ u0).setCell ⟨b,1,none⟩ u1).setCell ⟨b,2,none⟩ u2).setCell ⟨b,3,none⟩ u3).setCell ⟨b,4,none⟩ u4).heap[b]?=some (.cells #[u0,u1,u2,u3,u4,a5] ty):=six_store h3 4 u4
 have h5:((((((W.setCell ⟨b,0,none⟩ u0).setCell ⟨b,1,none⟩ u1).setCell ⟨b,2,none⟩ u2).setCell ⟨b,3,none⟩ u3).setCell ⟨b,4,none⟩ u4).setCell ⟨b,5,none⟩ u5).heap[b]?=some (.cells #[u0,u1,u2,u3,u4,u5] ty):=six_store h4 5 u5
 have hh:∀ (B:Nat->Prop),¬ B b->∀ b',some b=some b'->¬ B b':=fun B hn b' e=>by cases e;exact hn
 refine ⟨_,rfl,h5,fun c hc=>?_,by simp,fun B w hb hB=>(((((hb.setCell hB u0).setCell hB u1).setCell hB u2).setCell hB u3).setCell hB u4).setCell hB u5,fun B q hq hn =>
  (((((hq.grow (grown_cell _ _ 0 u0) (hh B hn)).grow (grown_cell _ _ 1 u1) (hh B hn)).grow (grown_cell _ _ 2 u2) (hh B hn)).grow (grown_cell _ _ 3 u3) (hh B hn)).grow (grown_cell _ _ 4 u4) (hh B hn)).grow (grown_cell _ _ 5 u5) (hh B hn)⟩
 by_cases hl:c<W.heap.size
 ·have g:∀ (X:World) (j:Nat) (u:Value),c<X.heap.size->(X.setCell ⟨b,j,none⟩ u).heap[c]?=X.heap[c]?:=fun X j u hx=>(grown_cell X b j u).block c hx (fun e=>hc (Option.some.inj e))
  have z:∀ (X:World) (j:Nat) (u:Value),c<X.heap.size->c<(X.setCell ⟨b,j,none⟩ u).heap.size:=fun X j u hx=>Nat.lt_of_lt_of_le hx (grown_cell X b j u).size
  have l0:=z W 0 u0 hl
  have l1:=z _ 1 u1 l0
  have l2:=z _ 2 u2 l1
  have l3:=z _ 3 u3 l2
  have l4:=z _ 4 u4 l3
  rw [g _ 5 u5 l4,g _ 4 u4 l3,g _ 3 u3 l2,g _ 2 u2 l1,g _ 1 u1 l0,g _ 0 u0 hl]
 ·rw [Array.getElem?_eq_none (by simp;omega),Array.getElem?_eq_none (by omega)]
end Go.Proofs.YtldhmfkojaekfaaGreatDoor
