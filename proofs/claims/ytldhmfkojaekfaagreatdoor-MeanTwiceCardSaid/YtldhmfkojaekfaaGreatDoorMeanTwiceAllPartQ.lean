/-
  Lemmas for the statement: plain laws, and what functions answer; the conditions stand in each.
-/
import Derived.Test.YtldhmfkojaekfaaGreatDoorMeanTwiceAllPartP
set_option linter.unusedVariables false
set_option linter.unusedSimpArgs false
namespace Go.Proofs.YtldhmfkojaekfaaGreatDoor
open Go.RowKit Gx
set_option maxRecDepth 100000
def BoolB (b:Bool) (w:World) (e:Ending) (w':World):Prop:=e=.returned (.bool b)/\Below w.heap.size w w'
set_option maxHeartbeats 16000000 in
theorem bare_any (s:ByteArray) (w:World) (hs:s.size<=9223372036854775807):Calls Tryz.prog 77 #[.string s] w (BoolB (bareOf s.data.toList) w):=by
 have hsl:=Lib.size_eq s
 rcases Nat.eq_zero_or_pos s.size with zs|ps
 ·obtain rfl:=bytes_nil zs
  clear zs hsl
  go_enter Tryz.func77,Tryz.ntmps77
  go_wp2_with fail
  try go_ret
  exact ⟨rfl,Below.refl _ _⟩
 obtain ⟨em1,em2⟩:=bytes_em ps
 by_cases hbig:100<s.size
 ·have e:bareOf s.data.toList=false:=by
   unfold bareOf
   rw [decide_eq_false (show ¬ s.data.toList.length<=100 by omega)];simp
  have tb:decide ((100:Int)<(s.size:Int))=true:=decide_eq_true (by omega)
  rw [e]
  clear e hsl hbig
  go_enter Tryz.func77,Tryz.ntmps77
  go_wp2_with fail
  try go_ret
  exact ⟨rfl,Below.refl _ _⟩
 have tb:decide ((100:Int)<(s.size:Int))=false:=decide_eq_false (by omega)
 have hbo:bareOf s.data.toList=(bareFrom true s.data.toList && !wordB s.data.toList):=by
  unfold bareOf
  rw [decide_eq_true (list_ne ps),decide_eq_true (show s.data.toList.length<=100 by omega)];simp
 rw [hbo]
 obtain ⟨cap,w2,hconv,-,hsz2,hg,hC⟩:=Gx.conv_bytes_run (P:=Tryz.prog) w 9 72 5 s Tryz.underlying9 Tryz.underlying72 Tryz.underlying5
 have hb2:Below w.heap.size w w2:=Gx.grown_below hg (Nat.le_refl _) (by simp)
 have htl:s.toList=s.data.toList:=Lib.toList_data s
 have HDR:=Lib.hid (fun k h=>drop_cons s k h)
 have HNO:=Lib.hid (fun (h:bareFrom true s.data.toList=false)=>(show BoolB (bareFrom true s.data.toList && !wordB s.data.toList) w (.returned (.bool false)) w2 from ⟨by rw [h];rfl,hb2⟩))
 have HWD:=Lib.hid (fun (h:bareFrom true s.data.toList=true) b (hw:wordB s.data.toList=!b)=>(show BoolB (bareFrom true s.data.toList && !wordB s.data.toList) w (.returned (.bool b)) w2 from ⟨by rw [h,hw];simp,hb2⟩))
 have hd0:bareFrom (decide (0=0)) (s.data.toList.drop 0)=bareFrom true s.data.toList:=by rw [List.drop_zero];rfl
 generalize BoolB (bareFrom true s.data.toList && !wordB s.data.toList) w=POST at *
 have hword:wordB s.data.toList=((s.toList==[110,117,108,108]) || (s.toList==[116,114,117,101]) || (s.toList==[102,97,108,115,101]) || (s.toList==[110,97,110]) || (s.toList==[105,110,102])):=by rw [htl];rfl
 generalize wordB s.data.toList=WB at *
 generalize bareFrom true s.data.toList=BF at *
 have HD0:=Lib.hid hd0
 have HC:=Lib.hid hC
 have HSL:=Lib.hid hsl
 have HWB:=Lib.hid hword
 have hend:∀ (k:Nat) b,k=s.size->bareFrom b (s.data.toList.drop k)=true:=by
  intro k b hk
  rw [List.drop_eq_nil_of_le (by omega)];rfl
 have HEND:=Lib.hid hend
 clear hbo htl hd0 hC hsl hword hend hg hsz2 hb2 hbig
 go_enter Tryz.func77,Tryz.ntmps77
 go_wp2_with fail
 clear hconv em1 em2
 go_loop [17] (fun iv=>∃ k:Nat,k<=s.size/\iv=.int .i64 k/\Hid (bareFrom (decide (k=0)) (s.data.toList.drop k)=BF)) (fun iv=>s.size - (intOf iv).toNat)
 case atStart=>exact ⟨0,Nat.zero_le _,rfl,HD0.out⟩
 case round =>
  obtain ⟨k,hk,rfl,hq⟩:=hrel
  by_cases hlt:k<s.size
  ·have c0:=HC.out k hlt
   have hst:=hq.out
   rw [HDR.out k hlt,bareFrom] at hst
   have e1:s.data[k]=s[k]:=rfl
   rw [e1] at c0
   have hx256:=UInt8.toNat_lt s[k]
   obtain ⟨x,hx⟩:∃ x:Nat,x=s[k].toNat:=⟨_,rfl⟩
   rw [<-hx] at c0 hst hx256
   have hz:Hid (bareFrom false (s.data.toList.drop (k+1))=bareFrom (decide (k+1=0)) (s.data.toList.drop (k+1))):=by
    show _=_
    rw [decide_eq_false (by omega)]
   clear e1 hx hq
   have hcl:x<45\/x=45\/(46<=x/\x<=47)\/(48<=x/\x<=57)\/(58<=x/\x<=64)\/(65<=x/\x<=90)\/(91<=x/\x<=94)\/x=95\/x=96\/(97<=x/\x<=122)\/123<=x:=by omega
   rcases hcl with hc|hc|hc|hc|hc|hc|hc|hc|hc|hc|hc
   ·have t1:decide ((97:Int)<=(x:Int))=false:=decide_eq_false (by omega)
    have t3:decide ((65:Int)<=(x:Int))=false:=decide_eq_false (by omega)
    have t5:((x:Int)==95)=false:=by rw [beq_eq_false_iff_ne];omega
    have t6:decide ((48:Int)<=(x:Int))=false:=decide_eq_false (by omega)
    have t8:((x:Int)==45)=false:=by rw [beq_eq_false_iff_ne];omega
    have hlet:letterB x=false:=by unfold letterB;simp;omega
    have hmor:moreB x=false:=by unfold moreB;simp;omega
    rw [hlet,hmor] at hst
    clear hlet hmor hc
    have N:=Lib.hid (HNO.out (by rw [<-hst];simp))
    clear hst hz
    go_wp2_with fail
    try go_ret
    exact N.out
   ·have t1:decide ((97:Int)<=(x:Int))=false:=decide_eq_false (by omega)
    have t3:decide ((65:Int)<=(x:Int))=false:=decide_eq_false (by omega)
    have t5:((x:Int)==95)=false:=by rw [beq_eq_false_iff_ne];omega
    have t6:decide ((48:Int)<=(x:Int))=false:=decide_eq_false (by omega)
    have t8:((x:Int)==45)=true:=by rw [beq_iff_eq];omega
    have hlet:letterB x=false:=by unfold letterB;simp;omega
    have hmor:moreB x=true:=by unfold moreB;simp;omega
    rw [hlet,hmor] at hst
    clear hlet hmor hc
    by_cases hk0:k=0
    ·subst hk0
     have N:=Lib.hid (HNO.out (by rw [<-hst];rfl))
     clear hst hz
     go_wp2_with fail
     try go_ret
     exact N.out
    ·have hn:Hid (bareFrom (decide (k+1=0)) (s.data.toList.drop (k+1))=BF):=by
      show _=_
      rw [<-hz.out]
      rw [decide_eq_false hk0] at hst
      simpa using hst
     have tk:((k:Int)==0)=false:=by rw [beq_eq_false_iff_ne];omega
     have tk2:decide ((k:Int)=0)=false:=decide_eq_false (by omega)
     clear hst hz
     go_wp2_with fail
     go_round
     case rel=>exact ⟨k+1,by omega,by go_num,hn.out⟩
     case measure=>simp [intOf];omega
   ·have t1:decide ((97:Int)<=(x:Int))=false:=decide_eq_false (by omega)
    have t3:decide ((65:Int)<=(x:Int))=false:=decide_eq_false (by omega)
    have t5:((x:Int)==95)=false:=by rw [beq_eq_false_iff_ne];omega
    have t6:decide ((48:Int)<=(x:Int))=false:=decide_eq_false (by omega)
    have t8:((x:Int)==45)=false:=by rw [beq_eq_false_iff_ne];omega
    have hlet:letterB x=false:=by unfold letterB;simp;omega
    have hmor:moreB x=false:=by unfold moreB;simp;omega
    rw [hlet,hmor] at hst
    clear hlet hmor hc
    have N:=Lib.hid (HNO.out (by rw [<-hst];simp))
    clear hst hz
    go_wp2_with fail
    try go_ret
    exact N.out
   ·have t1:decide ((97:Int)<=(x:Int))=false:=decide_eq_false (by omega)
    have t3:decide ((65:Int)<=(x:Int))=false:=decide_eq_false (by omega)
    have t5:((x:Int)==95)=false:=by rw [beq_eq_false_iff_ne];omega
    have t6:decide ((48:Int)<=(x:Int))=true:=decide_eq_true (by omega)
    have t7:decide ((x:Int)<=57)=true:=decide_eq_true (by omega)
    have hlet:letterB x=false:=by unfold letterB;simp;omega
    have hmor:moreB x=true:=by unfold moreB;simp;omega
    rw [hlet,hmor] at hst
    clear hlet hmor hc
    by_cases hk0:k=0
    ·subst hk0
     have N:=Lib.hid (HNO.out (by rw [<-hst];rfl))
     clear hst hz
     go_wp2_with fail
     try go_ret
     exact N.out
    ·have hn:Hid (bareFrom (decide (k+1=0)) (s.data.toList.drop (k+1))=BF):=by
      show _=_
      rw [<-hz.out]
      rw [decide_eq_false hk0] at hst
      simpa using hst
     have tk:((k:Int)==0)=false:=by rw [beq_eq_false_iff_ne];omega
     have tk2:decide ((k:Int)=0)=false:=decide_eq_false (by omega)
     clear hst hz
     go_wp2_with fail
     go_round
     case rel=>exact ⟨k+1,by omega,by go_num,hn.out⟩
     case measure=>simp [intOf];omega
   ·have t1:decide ((97:Int)<=(x:Int))=false:=decide_eq_false (by omega)
    have t3:decide ((65:Int)<=(x:Int))=false:=decide_eq_false (by omega)
    have t5:((x:Int)==95)=false:=by rw [beq_eq_false_iff_ne];omega
    have t6:decide ((48:Int)<=(x:Int))=true:=decide_eq_true (by omega)
    have t7:decide ((x:Int)<=57)=false:=decide_eq_false (by omega)
    have t8:((x:Int)==45)=false:=by rw [beq_eq_false_iff_ne];omega
    have hlet:letterB x=false:=by unfold letterB;simp;omega
    have hmor:moreB x=false:=by unfold moreB;simp;omega
    rw [hlet,hmor] at hst
    clear hlet hmor hc
    have N:=Lib.hid (HNO.out (by rw [<-hst];simp))
    clear hst hz
    go_wp2_with fail
    try go_ret
    exact N.out
   ·have t1:decide ((97:Int)<=(x:Int))=false:=decide_eq_false (by omega)
    have t3:decide ((65:Int)<=(x:Int))=true:=decide_eq_true (by omega)
    have t4:decide ((x:Int)<=90)=true:=decide_eq_true (by omega)
    have t6:decide ((48:Int)<=(x:Int))=true:=decide_eq_true (by omega)
    have t7:decide ((x:Int)<=57)=false:=decide_eq_false (by omega)
    have t8:((x:Int)==45)=false:=by rw [beq_eq_false_iff_ne];omega
    have hlet:letterB x=true:=by unfold letterB;simp;omega
    have hmor:moreB x=false:=by unfold moreB;simp;omega
    rw [hlet,hmor] at hst
    clear hlet hmor hc
    have hn:Hid (bareFrom (decide (k+1=0)) (s.data.toList.drop (k+1))=BF):=by
     show _=_
     rw [<-hz.out];simpa using hst
    clear hst hz
    go_wp2_with fail
    go_round
    case rel=>exact ⟨k+1,by omega,by go_num,hn.out⟩
    case measure=>simp [intOf];omega
   ·have t1:decide ((97:Int)<=(x:Int))=false:=decide_eq_false (by omega)
    have t3:decide ((65:Int)<=(x:Int))=true:=decide_eq_true (by omega)
    have t4:decide ((x:Int)<=90)=false:=decide_eq_false (by omega)
    have t5:((x:Int)==95)=false:=by rw [beq_eq_false_iff_ne];omega
    have t6:decide ((48:Int)<=(x:Int))=true:=decide_eq_true (by omega)
    have t7:decide ((x:Int)<=57)=false:=decide_eq_false (by omega)
    have t8:((x:Int)==45)=false:=by rw [beq_eq_false_iff_ne];omega
    have hlet:letterB x=false:=by unfold letterB;simp;omega
    have hmor:moreB x=false:=by unfold moreB;simp;omega
    rw [hlet,hmor] at hst
    clear hlet hmor hc
    have N:=Lib.hid (HNO.out (by rw [<-hst];simp))
    clear hst hz
    go_wp2_with fail
    try go_ret
    exact N.out
   ·have t1:decide ((97:Int)<=(x:Int))=false:=decide_eq_false (by omega)
    have t3:decide ((65:Int)<=(x:Int))=true:=decide_eq_true (by omega)
    have t4:decide ((x:Int)<=90)=false:=decide_eq_false (by omega)
    have t5:((x:Int)==95)=true:=by rw [beq_iff_eq];omega
    have t6:decide ((48:Int)<=(x:Int))=true:=decide_eq_true (by omega)
    have t7:decide ((x:Int)<=57)=false:=decide_eq_false (by omega)
    have t8:((x:Int)==45)=false:=by rw [beq_eq_false_iff_ne];omega
    have hlet:letterB x=true:=by unfold letterB;simp;omega
    have hmor:moreB x=false:=by unfold moreB;simp;omega
    rw [hlet,hmor] at hst
    clear hlet hmor hc
    have hn:Hid (bareFrom (decide (k+1=0)) (s.data.toList.drop (k+1))=BF):=by
     show _=_
     rw [<-hz.out];simpa using hst
    clear hst hz
    go_wp2_with fail
    go_round
    case rel=>exact ⟨k+1,by omega,by go_num,hn.out⟩
    case measure=>simp [intOf];omega
   ·have t1:decide ((97:Int)<=(x:Int))=false:=decide_eq_false (by omega)
    have t3:decide ((65:Int)<=(x:Int))=true:=decide_eq_true (by omega)
    have t4:decide ((x:Int)<=90)=false:=decide_eq_false (by omega)
    have t5:((x:Int)==95)=false:=by rw [beq_eq_false_iff_ne];omega
    have t6:decide ((48:Int)<=(x:Int))=true:=decide_eq_true (by omega)
    have t7:decide ((x:Int)<=57)=false:=decide_eq_false (by omega)
    have t8:((x:Int)==45)=false:=by rw [beq_eq_false_iff_ne];omega
    have hlet:letterB x=false:=by unfold letterB;simp;omega
    have hmor:moreB x=false:=by unfold moreB;simp;omega
    rw [hlet,hmor] at hst
    clear hlet hmor hc
    have N:=Lib.hid (HNO.out (by rw [<-hst];simp))
    clear hst hz
    go_wp2_with fail
    try go_ret
    exact N.out
   ·have t1:decide ((97:Int)<=(x:Int))=true:=decide_eq_true (by omega)
    have t2:decide ((x:Int)<=122)=true:=decide_eq_true (by omega)
    have t6:decide ((48:Int)<=(x:Int))=true:=decide_eq_true (by omega)
    have t7:decide ((x:Int)<=57)=false:=decide_eq_false (by omega)
    have t8:((x:Int)==45)=false:=by rw [beq_eq_false_iff_ne];omega
    have hlet:letterB x=true:=by unfold letterB;simp;omega
    have hmor:moreB x=false:=by unfold moreB;simp;omega
    rw [hlet,hmor] at hst
    clear hlet hmor hc
    have hn:Hid (bareFrom (decide (k+1=0)) (s.data.toList.drop (k+1))=BF):=by
     show _=_
     rw [<-hz.out];simpa using hst
    clear hst hz
    go_wp2_with fail
    go_round
    case rel=>exact ⟨k+1,by omega,by go_num,hn.out⟩
    case measure=>simp [intOf];omega
   ·have t1:decide ((97:Int)<=(x:Int))=true:=decide_eq_true (by omega)
    have t2:decide ((x:Int)<=122)=false:=decide_eq_false (by omega)
    have t3:decide ((65:Int)<=(x:Int))=true:=decide_eq_true (by omega)
    have t4:decide ((x:Int)<=90)=false:=decide_eq_false (by omega)
    have t5:((x:Int)==95)=false:=by rw [beq_eq_false_iff_ne];omega
    have t6:decide ((48:Int)<=(x:Int))=true:=decide_eq_true (by omega)
    have t7:decide ((x:Int)<=57)=false:=decide_eq_false (by omega)
    have t8:((x:Int)==45)=false:=by rw [beq_eq_false_iff_ne];omega
    have hlet:letterB x=false:=by unfold letterB;simp;omega
    have hmor:moreB x=false:=by unfold moreB;simp;omega
    rw [hlet,hmor] at hst
    clear hlet hmor hc
    have N:=Lib.hid (HNO.out (by rw [<-hst];simp))
    clear hst hz
    go_wp2_with fail
    try go_ret
    exact N.out
  ·have hbf:BF=true:=by rw [<-hq.out];exact HEND.out k _ (by omega)
   have HW2:=Lib.hid (HWD.out hbf)
   clear hq hbf
   have hwb:=HWB.out
   cases c0:(s.toList==[110,117,108,108]) with
   | true =>
     have N:=Lib.hid (HW2.out false (by rw [hwb,c0];simp))
     clear hwb
     go_wp2_with fail
     try go_ret
     exact N.out
   | false =>
     cases c1:(s.toList==[116,114,117,101]) with
     | true =>
       have N:=Lib.hid (HW2.out false (by rw [hwb,c0,c1];simp))
       clear hwb
       go_wp2_with fail
       try go_ret
       exact N.out
     | false =>
       cases c2:(s.toList==[102,97,108,115,101]) with
       | true =>
         have N:=Lib.hid (HW2.out false (by rw [hwb,c0,c1,c2];simp))
         clear hwb
         go_wp2_with fail
         try go_ret
         exact N.out
       | false =>
         cases c3:(s.toList==[110,97,110]) with
         | true =>
           have N:=Lib.hid (HW2.out false (by rw [hwb,c0,c1,c2,c3];simp))
           clear hwb
           go_wp2_with fail
           try go_ret
           exact N.out
         | false =>
           cases c4:(s.toList==[105,110,102]) with
           | true =>
             have N:=Lib.hid (HW2.out false (by rw [hwb,c0,c1,c2,c3,c4];simp))
             clear hwb
             go_wp2_with fail
             try go_ret
             exact N.out
           | false =>
             have N:=Lib.hid (HW2.out true (by rw [hwb,c0,c1,c2,c3,c4];rfl))
             clear hwb
             go_wp2_with fail
             try go_ret
             exact N.out
set_option maxHeartbeats 1000000 in
theorem key_bare (s:ByteArray) (w:World) (hs:s.size<=100000000) (hb:bareOf s.data.toList=true):Calls Tryz.prog 60 #[.string s] w fun e w'=>e=.returned (.tuple #[.string s,.int .i64 0])/\Below w.heap.size w w':=by
 have h:=bare_any s w (by omega)
 rw [hb] at h
 have H:=Lib.hid h
 unfold BoolB at H
 clear h hb
 go_enter Tryz.func60,Tryz.ntmps60
 go_wp2_with fail
 refine H.out.mono ?_
 rintro e0 w1 ⟨rfl,hb⟩
 have B:=Lib.hid hb
 clear hb
 go_wp2_with fail
 try go_ret2
 exact ⟨rfl,B.out⟩
set_option maxHeartbeats 1000000 in
theorem key_quote (s:ByteArray) (x:List UInt8) (c:Int) (w:World) (hs:s.size<=100000000) (hT:QTabs w) (hb:bareOf s.data.toList=false) (hq:∀ w0,QTabs w0->Calls Tryz.prog 94 #[.string s] w0 (StrErr x c w0)) :
 Calls Tryz.prog 60 #[.string s] w (StrErr x c w):=by
 have h:=bare_any s w (by omega)
 rw [hb] at h
 have H:=Lib.hid h
 unfold BoolB at H
 have HQ:=Lib.hid hq
 have HT:=Lib.hid hT
 clear h hb hq hT
 go_enter Tryz.func60,Tryz.ntmps60
 go_wp2_with fail
 refine H.out.mono ?_
 rintro e0 w1 ⟨rfl,hb⟩
 have Q:=Lib.hid (HQ.out w1 (HT.out.keep hb))
 unfold StrErr at Q
 have B:=Lib.hid hb
 clear hb
 go_wp2_with fail
 refine Q.out.mono ?_
 rintro e0 w2 ⟨rfl,hb⟩
 have B2:=Lib.hid (B.out.trans (hb.mono B.out.size))
 clear hb
 go_wp2_with fail
 try go_ret2
 exact ⟨rfl,B2.out⟩
set_option maxRecDepth 100000
def Out (w:World) (r:Except Flt V) (e:Ending) (w':World):Prop:=Below w.heap.size w w' /\
 ((∃ q:Loc,r=.ok q.v/\e=.returned q.val/\VAt w' (fun b=>w.heap.size<=b) q)\/(∃ (f:Flt) (c:Int),r=.error f/\c≠0/\(f.2=true->c=6)/\e=thrown f.1 c))
theorem vat_bare {w:World} {B:Nat->Prop} {k n f:Int} {s:ByteArray} (h:(V.mk k n f s [] []).wf):VAt w B ⟨.mk k n f s [] [],none,0,none,0⟩:=⟨h,.nil _ _ _,.nil _ _ _⟩
theorem wf_text {s:ByteArray} (h:s.size<=140737488351232):(V.mk 4 0 0 s [] []).wf :=
 ⟨show (-9223372036854775808:Int)<=4 by decide,show (4:Int)<=9223372036854775807 by decide,show (-9223372036854775808:Int)<=0 by decide,show (0:Int)<=9223372036854775807 by decide,show (0:Int)<=0 by decide,show (0:Int)<=18446744073709551615 by decide,h⟩
theorem tok_cells {w:World} {b:Nat} {ty:TypeId} {x y z:Value} (h:w.heap[b]?=some (.cells #[x,y,z] ty)):w.cell? ⟨b,0,none⟩=some x/\w.cell? ⟨b,1,none⟩=some y/\w.cell? ⟨b,2,none⟩=some z :=
 ⟨by simp [World.cell?,h],by simp [World.cell?,h],by simp [World.cell?,h]⟩
theorem node4 {w:World} {b:Nat} {ty:TypeId} {x y z u:Value} (h:w.heap[b]?=some (.cells #[x,y,z,u] ty)):w.cell? ⟨b,0,none⟩=some x/\w.cell? ⟨b,1,none⟩=some y/\w.cell? ⟨b,2,none⟩=some z/\w.cell? ⟨b,3,none⟩=some u :=
 ⟨by simp [World.cell?,h],by simp [World.cell?,h],by simp [World.cell?,h],by simp [World.cell?,h]⟩
set_option maxHeartbeats 8000000 in
theorem mleaf_any (R:Nat) (ta:Option Addr) (tc:Nat) (S:ByteArray) (X:TS) (hX:InX X) (n:Nd) (so:Option Addr) (sn sc:Nat) (w:World) (h:MS w R ta tc S X) (hE:ETabs w) (ha:n.a<X.T.length) (hl:X.l.length<=20000) (hT:X.T.length<=20000) :
 Calls Tryz.prog 49 #[.pointer (some ⟨R,0,none⟩),.agg #[.int .i64 n.k,.int .i64 n.a,.int .i64 n.b,.slice so sn sc]] w (Out w (leafN X n.a)):=by
 have hb1:=((Below.refl w.heap.size w).alloc (Nat.le_refl _) (.cells #[.int .i64 n.k,.int .i64 n.a,.int .i64 n.b,.slice so sn sc] 53)).alloc (by simp) (.cells #[.int .i64 0,.int .i64 0,.int .u64 0,.string ⟨#[]⟩,.slice none 0 0,.slice none 0 0] 26)
 have hn1:((w.alloc (.cells #[.int .i64 n.k,.int .i64 n.a,.int .i64 n.b,.slice so sn sc] 53)).alloc (.cells #[.int .i64 0,.int .i64 0,.int .u64 0,.string ⟨#[]⟩,.slice none 0 0,.slice none 0 0] 26)).heap[w.heap.size]?=some (.cells #[.int .i64 n.k,.int .i64 n.a,.int .i64 n.b,.slice so sn sc] 53):=(alloc_old_gx _ _ (by simp)).trans (heap_alloc_new w _)
 have hr1:=heap_alloc_new (w.alloc (.cells #[.int .i64 n.k,.int .i64 n.a,.int .i64 n.b,.slice so sn sc] 53)) (.cells #[.int .i64 0,.int .i64 0,.int .u64 0,.string ⟨#[]⟩,.slice none 0 0,.slice none 0 0] 26)
 rw [World.size_alloc] at hr1
 obtain ⟨a,hna⟩:∃ a,n.a=a:=⟨_,rfl⟩
 have HH:=Lib.hid (h.keep hb1)
 have HE:=Lib.hid (hE.keep hb1)
 have HTK:=Lib.hid (token_any R ta tc S X hX n so sn sc _ HH.out ha hl hT)
 have hend:(X.bytes n.a).length<=20000:=by
  have:=hX n.a ha
  unfold TS.bytes
  rw [List.length_take,List.length_drop];omega
 unfold TokPost at HTK
 rw [hna] at HH HE HTK hn1 hb1 hr1 hend ⊢
 clear h hE ha hX
 go_enter Tryz.func49,Tryz.ntmps49
 go_upto_region 1 with fail
 generalize hw1:World.alloc (World.alloc w _) _=w1 at hb1 hn1 hr1 HH HE HTK ⊢
 clear hw1
 obtain ⟨c0,c1,c2,c3⟩:=node4 hn1
 have HB1:=Lib.hid hb1
 have HR1:=Lib.hid hr1
 clear hb1 hn1 hr1
 go_wp2_with fail
 (with_reducible refine HTK.out.mono ?_)
 rintro e w2 ⟨hb2,t,ht,rfl⟩
 obtain ⟨K,hK⟩:∃ K,X.kind a=K:=⟨_,rfl⟩
 obtain ⟨p,hp⟩:∃ p,X.pos a=p:=⟨_,rfl⟩
 obtain ⟨en,hen⟩:∃ en,X.end_ a=en:=⟨_,rfl⟩
 have HL1:Hid (∀ v,leafOf K t.data.toList=some v->leafN X a=.ok v):=Lib.hid (fun v hv=>by unfold leafN;rw [hK,<-ht,hv])
 have HL2:Hid (leafOf K t.data.toList=none->leafN X a=.error (p,false)):=Lib.hid (fun hv=>by unfold leafN;rw [hK,hp,<-ht,hv])
 rw [<-ht] at hend
 have hts:t.size<=20000:=by rw [Lib.size_eq];exact hend
 rw [hK,hp,hen]
 have hba:=hb2.alloc hb2.size (.cells #[.int .i64 K,.int .i64 p,.int .i64 en] 40)
 have HB2:=Lib.hid (HB1.out.trans (hba.mono HB1.out.size))
 have HR2:Hid ((w2.alloc (.cells #[.int .i64 K,.int .i64 p,.int .i64 en] 40)).heap[w.heap.size+1]?=some (.cells #[.int .i64 0,.int .i64 0,.int .u64 0,.string ⟨#[]⟩,.slice none 0 0,.slice none 0 0] 26)):=Lib.hid ((hba.block _ (Array.getElem?_eq_some_iff.1 HR1.out).1).trans HR1.out)
 have hk2:=heap_alloc_new w2 (.cells #[.int .i64 K,.int .i64 p,.int .i64 en] 40)
 have HE2:=Lib.hid (HE.out.keep hba)
 have hlt2:w.heap.size+1<w2.heap.size:=Nat.lt_of_lt_of_le (Array.getElem?_eq_some_iff.1 HR1.out).1 hb2.size
 clear hb2 hba HTK c0 c1 c2 c3 HR1 HH HE HB1 hK hp hen ht hend hna
 go_upto_region 2 with fail
 generalize hwx:World.alloc w2 _=w3 at HB2 HR2 hk2 HE2 ⊢
 clear hwx
 obtain ⟨d0,d1,d2⟩:=tok_cells hk2
 have hkl:=(Array.getElem?_eq_some_iff.1 hk2).1
 by_cases h5:K=5
 ·subst h5
  have HS:=Lib.hid (said_any t p w3 HE2.out (by omega))
  unfold SaidPost at HS
  clear hk2
  go_wp2_with fail
  (with_reducible refine HS.out.mono ?_)
  rintro e w4 ⟨hb4,⟨x,hx,hxl,rfl⟩|⟨hx,c,hc,rfl⟩⟩
  ·have hr4:=(hb4.block _ (Array.getElem?_eq_some_iff.1 HR2.out).1).trans HR2.out
   have hbw:=HB2.out.trans (hb4.mono HB2.out.size)
   obtain ⟨W9,hW9,hr9,-,-,hbw9,-⟩:=six_all hr4 (.int .i64 4) (.int .i64 0) (.int .u64 0) (.string x) (.slice none 0 0) (.slice none 0 0)
   obtain ⟨g0,g1,g2,g3,g4,g5,gf⟩:=six_cells hr4
   have gf0:=gf 0
   have gf1:=gf 1
   have gf2:=gf 2
   have gf3:=gf 3
   have gf4:=gf 4
   have gf5:=gf 5
   obtain ⟨q0,q1,q2,q3,q4,q5,-⟩:=six_cells hr9
   have HW9:=Lib.hid hW9
   have HR:Hid (Out w (leafN X a) (.returned (.agg #[.int .i64 4,.int .i64 0,.int .u64 0,.string x,.slice none 0 0,.slice none 0 0])) W9):=Lib.hid ⟨hbw9 _ _ hbw (by omega),.inl ⟨⟨.mk 4 0 0 x [] [],none,0,none,0⟩,HL1.out _ (by unfold leafOf;rw [if_pos rfl,hx];rfl),rfl,vat_bare (wf_text (by
    have:t.data.toList.length=t.size:=(Lib.size_eq t).symm
    omega))⟩⟩
   clear hW9 hr9 hbw9 gf hx hxl hb4 hbw hr4 HS HL1 HL2 HE2 HB2 HR2
   go_wp2_with fail
   rw [<-HW9.out]
   exact bodyPost_ret (v:=.agg #[.int .i64 4,.int .i64 0,.int .u64 0,.string x,.slice none 0 0,.slice none 0 0]) (by simp [results,Tryz.results49,go_sem,q0,q1,q2,q3,q4,q5]) rfl HR.out
  ·unfold thrown
   have HR:Hid (Out w (leafN X a) (thrown p c) w4):=Lib.hid ⟨HB2.out.trans (hb4.mono HB2.out.size),.inr ⟨(p,false),c,HL2.out (by unfold leafOf;rw [if_pos rfl,hx];rfl),hc,(fun h=>by cases h),rfl⟩⟩
   exact ⟨rfl,HR.out⟩
 ·have t5:(K==5)=false:=beq_eq_false_iff_ne.2 h5
  have HW:=Lib.hid (word_any t w3)
  unfold WordPost at HW
  clear hk2
  go_wp2_with fail
  (with_reducible refine HW.out.mono ?_)
  rintro e w4 ⟨hb4,⟨k,m,f,hx,hwf,rfl⟩|⟨hx,c,hc,rfl⟩⟩
  ·have hba4:=hb4.alloc hb4.size (.cells #[.int .i64 k,.int .i64 m,.int .u64 f,.string ⟨#[]⟩,.slice none 0 0,.slice none 0 0] 26)
   have hv4:=heap_alloc_new w4 (.cells #[.int .i64 k,.int .i64 m,.int .u64 f,.string ⟨#[]⟩,.slice none 0 0,.slice none 0 0] 26)
   have hr4:=(hba4.block _ (Array.getElem?_eq_some_iff.1 HR2.out).1).trans HR2.out
   have hbw:=HB2.out.trans (hba4.mono HB2.out.size)
   clear hb4 HW
   go_upto_region 5 with fail
   generalize hwy:World.alloc w4 _=w5 at hba4 hv4 hr4 hbw ⊢
   clear hwy
   obtain ⟨W9,hW9,hr9,-,-,hbw9,-⟩:=six_all hr4 (.int .i64 k) (.int .i64 m) (.int .u64 f) (.string ⟨#[]⟩) (.slice none 0 0) (.slice none 0 0)
   obtain ⟨g0,g1,g2,g3,g4,g5,gf⟩:=six_cells hr4
   obtain ⟨s0,s1,s2,s3,s4,s5,-⟩:=six_cells hv4
   have gf0:=gf 0
   have gf1:=gf 1
   have gf2:=gf 2
   have gf3:=gf 3
   have gf4:=gf 4
   have gf5:=gf 5
   obtain ⟨q0,q1,q2,q3,q4,q5,-⟩:=six_cells hr9
   have HW9:=Lib.hid hW9
   have HR:Hid (Out w (leafN X a) (.returned (.agg #[.int .i64 k,.int .i64 m,.int .u64 f,.string ⟨#[]⟩,.slice none 0 0,.slice none 0 0])) W9):=Lib.hid ⟨hbw9 _ _ hbw (by omega),.inl ⟨⟨.mk k m f ⟨#[]⟩ [] [],none,0,none,0⟩,HL1.out _ (by unfold leafOf;rw [if_neg h5,hx]),rfl,vat_bare hwf⟩⟩
   clear hW9 hr9 hbw9 gf hx hwf hba4 hbw hr4 hv4 HL1 HL2 HE2 HB2 HR2
   go_wp2_with fail
   rw [<-HW9.out]
   exact bodyPost_ret (v:=.agg #[.int .i64 k,.int .i64 m,.int .u64 f,.string ⟨#[]⟩,.slice none 0 0,.slice none 0 0]) (by simp [results,Tryz.results49,go_sem,q0,q1,q2,q3,q4,q5]) rfl HR.out
  ·have hba4:=hb4.alloc hb4.size (.cells #[.int .i64 0,.int .i64 0,.int .u64 0,.string ⟨#[]⟩,.slice none 0 0,.slice none 0 0] 26)
   have hd4:=(hba4.cell (p:=⟨w2.heap.size,1,none⟩) (by show w2.heap.size<_;exact hkl)).trans d1
   have HR:Hid (∀ w',Below w3.heap.size w3 w'->Out w (leafN X a) (thrown p c) w'):=Lib.hid (fun w' hb=>⟨HB2.out.trans (hb.mono HB2.out.size),.inr ⟨(p,false),c,HL2.out (by unfold leafOf;rw [if_neg h5,hx]),hc,(fun h=>by cases h),rfl⟩⟩)
   have t1:(c != 0)=true:=by simpa using hc
   have HBA:=Lib.hid hba4
   clear hb4 HW hx hba4 d0 d1 d2
   go_upto_region 5 with fail
   generalize hwy:World.alloc w4 _=w5 at HBA hd4 ⊢
   clear hwy
   go_wp2_with fail
   exact ⟨rfl,HR.out _ HBA.out⟩
set_option maxRecDepth 100000
def KeyPostM (r:Except Flt ByteArray) (w:World) (e:Ending) (w':World):Prop:=Below w.heap.size w w' /\
 ((∃ t:ByteArray,r=.ok t/\t.size<=80000/\e=.returned (.string t))\/(∃ (f:Flt) (c:Int),r=.error f/\c≠0/\(f.2=true->c=6)/\e=thrown f.1 c))
set_option maxHeartbeats 8000000 in
theorem mkey_any (R:Nat) (ta:Option Addr) (tc:Nat) (S:ByteArray) (X:TS) (hX:InX X) (n:Nd) (so:Option Addr) (sn sc:Nat) (acc:List (ByteArray×V)) (bd:Option Addr) (dap m:Nat) (hacc:acc.length=m) (w:World) (h:MS w R ta tc S X) (hE:ETabs w)
 (hr:RowAt w (fun _=>True) true acc (.slice bd m dap)) (ha:n.a<X.T.length) (hl:X.l.length<=20000) (hT:X.T.length<=20000) :
 Calls Tryz.prog 47 #[.pointer (some ⟨R,0,none⟩),.agg #[.int .i64 n.k,.int .i64 n.a,.int .i64 n.b,.slice so sn sc],.slice bd m dap] w (KeyPostM (keyN X n.a acc) w):=by
 have hb1:=(Below.refl w.heap.size w).alloc (Nat.le_refl _) (.cells #[.int .i64 n.k,.int .i64 n.a,.int .i64 n.b,.slice so sn sc] 53)
 have hn1:=heap_alloc_new w (.cells #[.int .i64 n.k,.int .i64 n.a,.int .i64 n.b,.slice so sn sc] 53)
 obtain ⟨a,hna⟩:∃ a,n.a=a:=⟨_,rfl⟩
 have HH:=Lib.hid (h.keep hb1)
 have HE:=Lib.hid (hE.keep hb1)
 have HTK:=Lib.hid (token_any R ta tc S X hX n so sn sc _ HH.out ha hl hT)
 have hend:(X.bytes n.a).length<=20000:=by
  have:=hX n.a ha
  unfold TS.bytes
  rw [List.length_take,List.length_drop];omega
 unfold TokPost at HTK
 have HACC:Hid (∀ w',w.heap.size<=w'.heap.size->Below w.heap.size w w'->RowAt w' (fun _=>True) true acc (.slice bd acc.length dap)):=Lib.hid (fun w' _ hb=>by rw [hacc];exact hr.keep hb)
 have HLEN:=Lib.hid hacc
 rw [hna] at HH HE HTK hn1 hb1 hend ⊢
 clear h hE ha hX hacc hr
 go_enter Tryz.func47,Tryz.ntmps47
 go_upto_region 1 with fail
 generalize hw1:World.alloc w _=w1 at hb1 hn1 HH HE HTK ⊢
 clear hw1
 obtain ⟨c0,c1,c2,c3⟩:=node4 hn1
 have HB1:=Lib.hid hb1
 clear hb1 hn1
 go_wp2_with fail
 (with_reducible refine HTK.out.mono ?_)
 rintro e w2 ⟨hb2,t,ht,rfl⟩
 obtain ⟨K,hK⟩:∃ K,X.kind a=K:=⟨_,rfl⟩
 obtain ⟨p,hp⟩:∃ p,X.pos a=p:=⟨_,rfl⟩
 obtain ⟨en,hen⟩:∃ en,X.end_ a=en:=⟨_,rfl⟩
 have HOK:Hid (∀ x,keyOf K t.data.toList=some x->¬ fidx x acc<acc.length->keyN X a acc=.ok x):=Lib.hid (fun v hv hx=>by unfold keyN;rw [hK,<-ht,hv];simp only [];rw [if_neg hx])
 have HTW:Hid (∀ x,keyOf K t.data.toList=some x->fidx x acc<acc.length->keyN X a acc=.error (p,true)):=Lib.hid (fun v hv hx=>by unfold keyN;rw [hK,hp,<-ht,hv];simp only [];rw [if_pos hx])
 have HBD:Hid (keyOf K t.data.toList=none->keyN X a acc=.error (p,false)):=Lib.hid (fun hv=>by unfold keyN;rw [hK,hp,<-ht,hv])
 rw [<-ht] at hend
 have hts:t.size<=20000:=by rw [Lib.size_eq];exact hend
 rw [hK,hp,hen]
 have hba:=hb2.alloc hb2.size (.cells #[.int .i64 K,.int .i64 p,.int .i64 en] 40)
 have HB2:=Lib.hid (HB1.out.trans (hba.mono HB1.out.size))
 have hk2:=heap_alloc_new w2 (.cells #[.int .i64 K,.int .i64 p,.int .i64 en] 40)
 have HE2:=Lib.hid (HE.out.keep hba)
 have hkl0:=(Array.getElem?_eq_some_iff.1 hk2).1
 clear hb2 hba HTK c0 c1 c2 c3 HH HE HB1 hK hp hen ht hna hkl0
 go_upto_region 2 with fail
 generalize hwx:World.alloc w2 _=w3 at HB2 hk2 HE2 ⊢
 clear hwx
 obtain ⟨d0,d1,d2⟩:=tok_cells hk2
 have hkl:=(Array.getElem?_eq_some_iff.1 hk2).1
 by_cases h5:K=5
 ·subst h5
  have HS:=Lib.hid (said_any t p w3 HE2.out (by omega))
  unfold SaidPost at HS
  clear hk2
  go_wp2_with fail
  (with_reducible refine HS.out.mono ?_)
  rintro e w4 ⟨hb4,⟨x,hx,hxl,rfl⟩|⟨hx,c,hc,rfl⟩⟩
  ·have hkey:keyOf 5 t.data.toList=some x:=by unfold keyOf;rw [if_pos rfl];exact hx
   have hxs:x.size<=80000:=by
    have:t.data.toList.length=t.size:=(Lib.size_eq t).symm
    omega
   have HB4:=Lib.hid (HB2.out.trans (hb4.mono HB2.out.size))
   have HB4L:Hid (w2.heap.size<w4.heap.size):=Lib.hid (Nat.lt_of_lt_of_le hkl hb4.size)
   have d1q:=(hb4.cell (p:=⟨w2.heap.size,1,none⟩) hkl).trans d1
   clear hb4 hx hxl HS d0 d1 d2 HE2 HBD hend
   have HF:=Lib.hid (find_any bd dap acc x w4 (HACC.out _ HB4.out.size HB4.out))
   unfold IdxPostE at HF
   rw [HLEN.out] at HF
   obtain ⟨I,hI⟩:∃ I,fidx x acc=I:=⟨_,rfl⟩
   rw [hI] at HF
   by_cases hIm:I<m
   ·rw [if_pos hIm] at HF
    have t1:decide ((0:Int)<=(I:Int))=true:=decide_eq_true (by omega)
    have HR:Hid (∀ w',Below w.heap.size w w'->KeyPostM (keyN X a acc) w (thrown p 6) w'):=Lib.hid (fun w' hb=>⟨hb,.inr ⟨(p,true),6,HTW.out _ hkey (by rw [hI,HLEN.out];exact hIm),by decide,(fun _=>rfl),rfl⟩⟩)
    clear hkey hI
    go_wp2_with fail
    (with_reducible refine HF.out.mono ?_)
    rintro e w6 ⟨rfl,hb6⟩
    have HB6:=Lib.hid (HB4.out.trans (hb6.mono HB4.out.size))
    have hd6:=(hb6.cell (p:=⟨w2.heap.size,1,none⟩) (by show w2.heap.size<_;have:=HB4L.out;omega)).trans d1q
    clear hb6 HF
    go_wp2_with fail
    exact ⟨rfl,HR.out _ HB6.out⟩
   ·rw [if_neg hIm] at HF
    have t1:decide ((0:Int)<=-1)=false:=by decide
    have HR:Hid (∀ w',Below w.heap.size w w'->KeyPostM (keyN X a acc) w (.returned (.string x)) w'):=Lib.hid (fun w' hb=>⟨hb,.inl ⟨x,HOK.out _ hkey (by rw [hI,HLEN.out];exact hIm),hxs,rfl⟩⟩)
    clear hkey hI
    go_wp2_with fail
    (with_reducible refine HF.out.mono ?_)
    rintro e w6 ⟨rfl,hb6⟩
    have HB6:=Lib.hid (HB4.out.trans (hb6.mono HB4.out.size))
    clear hb6 HF
    go_wp2_with fail
    try go_ret
    exact HR.out _ HB6.out
  ·unfold thrown
   have HR:Hid (KeyPostM (keyN X a acc) w (thrown p c) w4):=Lib.hid ⟨HB2.out.trans (hb4.mono HB2.out.size),.inr ⟨(p,false),c,HBD.out (by unfold keyOf;rw [if_pos rfl];exact hx),hc,(fun h=>by cases h),rfl⟩⟩
   exact ⟨rfl,HR.out⟩
 ·have t5:(K==5)=false:=beq_eq_false_iff_ne.2 h5
  have HS:=Lib.hid (bare_any t w3 (by omega))
  unfold BoolB at HS
  obtain ⟨b,hb⟩:∃ b,bareOf t.data.toList=b:=⟨_,rfl⟩
  rw [hb] at HS
  clear hk2
  cases b with
  | true =>
    go_wp2_with fail
    (with_reducible refine HS.out.mono ?_)
    rintro e w4 ⟨rfl,hb4⟩
    have hkey:keyOf K t.data.toList=some t:=by unfold keyOf;rw [if_neg h5,if_pos hb]
    have hxs:t.size<=80000:=by omega
    have HB4:=Lib.hid (HB2.out.trans (hb4.mono HB2.out.size))
    have HB4L:Hid (w2.heap.size<w4.heap.size):=Lib.hid (Nat.lt_of_lt_of_le hkl hb4.size)
    have d1q:=(hb4.cell (p:=⟨w2.heap.size,1,none⟩) hkl).trans d1
    clear hb4 hb HS d0 d1 d2 HE2 HBD hend
    have HF:=Lib.hid (find_any bd dap acc t w4 (HACC.out _ HB4.out.size HB4.out))
    unfold IdxPostE at HF
    rw [HLEN.out] at HF
    obtain ⟨I,hI⟩:∃ I,fidx t acc=I:=⟨_,rfl⟩
    rw [hI] at HF
    by_cases hIm:I<m
    ·rw [if_pos hIm] at HF
     have t1:decide ((0:Int)<=(I:Int))=true:=decide_eq_true (by omega)
     have HR:Hid (∀ w',Below w.heap.size w w'->KeyPostM (keyN X a acc) w (thrown p 6) w'):=Lib.hid (fun w' hb=>⟨hb,.inr ⟨(p,true),6,HTW.out _ hkey (by rw [hI,HLEN.out];exact hIm),by decide,(fun _=>rfl),rfl⟩⟩)
     clear hkey hI
     go_wp2_with fail
     (with_reducible refine HF.out.mono ?_)
     rintro e w6 ⟨rfl,hb6⟩
     have HB6:=Lib.hid (HB4.out.trans (hb6.mono HB4.out.size))
     have hd6:=(hb6.cell (p:=⟨w2.heap.size,1,none⟩) (by show w2.heap.size<_;have:=HB4L.out;omega)).trans d1q
     clear hb6 HF
     go_wp2_with fail
     exact ⟨rfl,HR.out _ HB6.out⟩
    ·rw [if_neg hIm] at HF
     have t1:decide ((0:Int)<=-1)=false:=by decide
     have HR:Hid (∀ w',Below w.heap.size w w'->KeyPostM (keyN X a acc) w (.returned (.string t)) w'):=Lib.hid (fun w' hb=>⟨hb,.inl ⟨t,HOK.out _ hkey (by rw [hI,HLEN.out];exact hIm),hxs,rfl⟩⟩)
     clear hkey hI
     go_wp2_with fail
     (with_reducible refine HF.out.mono ?_)
     rintro e w6 ⟨rfl,hb6⟩
     have HB6:=Lib.hid (HB4.out.trans (hb6.mono HB4.out.size))
     clear hb6 HF
     go_wp2_with fail
     try go_ret
     exact HR.out _ HB6.out
  | false =>
    have HR:Hid (∀ w',Below w.heap.size w w'->KeyPostM (keyN X a acc) w (thrown p 4) w'):=Lib.hid (fun w' hbw=>⟨hbw,.inr ⟨(p,false),4,HBD.out (by unfold keyOf;rw [if_neg h5,if_neg (by rw [hb];decide)]),by decide,(fun h=>by cases h),rfl⟩⟩)
    go_wp2_with fail
    (with_reducible refine HS.out.mono ?_)
    rintro e w4 ⟨rfl,hb4⟩
    have HB4:=Lib.hid (HB2.out.trans (hb4.mono HB2.out.size))
    have d1q:=(hb4.cell (p:=⟨w2.heap.size,1,none⟩) hkl).trans d1
    clear hb4 hb HS d0 d1 d2 HE2 HBD hend
    go_wp2_with fail
    exact ⟨rfl,HR.out _ HB4.out⟩
set_option maxRecDepth 100000
theorem kid_at {w:World} {kids:List Nd} {so:Option Addr} {n sc:Nat} (h:KidsAt w (fun _=>True) kids (.slice so n sc)) (r:Nat) (nd:Nd) (hr:kids[r]?=some nd) :
 ∃ blk,so=some ⟨blk,0,none⟩/\∃ ko kc,blk<w.heap.size/\w.cell? ⟨blk,r * 4,none⟩=some (.int .i64 nd.k)/\w.cell? ⟨blk,r * 4+1,none⟩=some (.int .i64 nd.a)/\w.cell? ⟨blk,r * 4+2,none⟩=some (.int .i64 nd.b) /\
  w.cell? ⟨blk,r * 4+3,none⟩=some (.slice ko nd.kids.length kc)/\KidsAt w (fun _=>True) nd.kids (.slice ko nd.kids.length kc):=by
 cases h with
 | nil=>simp at hr
 | row _ sf blk cap hne hB hlt hc hk =>
   obtain ⟨ko,kc,hf⟩:=(hk r nd hr).form
   obtain ⟨c0,c1,c2,c3⟩:=hc r nd hr
   refine ⟨blk,rfl,ko,kc,hlt,c0,c1,c2,by rw [c3,hf],?_⟩
   rw [<-hf]
   exact hk r nd hr
theorem KidsAt.since {w w':World} {kids:List Nd} {v:Value} (h:KidsAt w (fun _=>True) kids v) (hb:Below w.heap.size w w'):KidsAt w' (fun _=>True) kids v :=
 ((h.weak (C:=fun b=>b<w.heap.size) (fun b _ hlt=>hlt)).grow (row:=some w.heap.size) ⟨hb.os,hb.tape,hb.output,hb.size,fun k hk _=>hb.block k hk⟩ (fun b e hb2=>by have:=Option.some.inj e;omega)).weak (fun _ _ _=>trivial)
structure VB (w:World) (k:Int) (sl se:Value) (W:World):Prop where
 res:W.heap[w.heap.size+1]?=some (.cells #[.int .i64 0,.int .i64 0,.int .u64 0,.string ⟨#[]⟩,.slice none 0 0,.slice none 0 0] 26)
 box:W.heap[w.heap.size+1+1]?=some (.cells #[.int .i64 k,.int .i64 0,.int .u64 0,.string ⟨#[]⟩,sl,se] 26)
 g:Below w.heap.size w W
namespace VB
variable {w W W':World} {k:Int} {sl se:Value}
theorem vlt (h:VB w k sl se W):w.heap.size+1+1<W.heap.size:=(Array.getElem?_eq_some_iff.1 h.box).1
theorem grow (h:VB w k sl se W) {r:Option Nat} (hg:W.grownBy W' r) (hr:∀ b,r=some b->w.heap.size+1+1<b):VB w k sl se W':=by
 have h1:=h.vlt
 exact ⟨(hg.block _ (by omega) (fun e=>by have:=hr _ e.symm;omega)).trans h.res,(hg.block _ h1 (fun e=>by have:=hr _ e.symm;omega)).trans h.box,
  ⟨hg.os.trans h.g.os,hg.tape.trans h.g.tape,hg.output.trans h.g.output,Nat.le_trans h.g.size hg.size,fun i hi=>(hg.block i (by omega) (fun e=>by have:=hr _ e.symm;omega)).trans (h.g.block i hi)⟩⟩
theorem keep (h:VB w k sl se W) (hb:Below W.heap.size W W'):VB w k sl se W':=h.grow (grown_none hb) (fun _ e=>absurd e (by simp))
theorem setAll (h:VB w k sl se W) (j:Nat) (u:Value) {sl' se':Value} (he:#[Value.int .i64 k,.int .i64 0,.int .u64 0,.string ⟨#[]⟩,sl,se].setIfInBounds j u=#[.int .i64 k,.int .i64 0,.int .u64 0,.string ⟨#[]⟩,sl',se']) :
 VB w k sl' se' (W.setCell ⟨w.heap.size+1+1,j,none⟩ u):=by
 have h1:=h.vlt
 exact ⟨((grown_cell W _ j u).block _ (by omega) (fun e=>by have:=Option.some.inj e;omega)).trans h.res,by rw [six_store h.box j u,he],h.g.setCell (by show w.heap.size<=w.heap.size+1+1;omega) u⟩
theorem setL (h:VB w k sl se W) (u:Value):VB w k u se (W.setCell ⟨w.heap.size+1+1,4,none⟩ u):=h.setAll 4 u rfl
theorem setE (h:VB w k sl se W) (u:Value):VB w k sl u (W.setCell ⟨w.heap.size+1+1,5,none⟩ u):=h.setAll 5 u rfl
theorem cells (h:VB w k sl se W):W.cell? ⟨w.heap.size+1+1,0,none⟩=some (.int .i64 k)/\W.cell? ⟨w.heap.size+1+1,1,none⟩=some (.int .i64 0)/\W.cell? ⟨w.heap.size+1+1,2,none⟩=some (.int .u64 0)/\W.cell? ⟨w.heap.size+1+1,3,none⟩=some (.string ⟨#[]⟩)/\W.cell? ⟨w.heap.size+1+1,4,none⟩=some sl/\W.cell? ⟨w.heap.size+1+1,5,none⟩=some se/\(∀ j,W.frozen? ⟨w.heap.size+1+1,j,none⟩=false):=six_cells h.box
end VB
def OkPost (v:V) (w:World) (e:Ending) (w':World):Prop:=∃ p:Loc,e=.returned p.val/\p.v=v/\VAt w' (fun b=>w.heap.size<=b) p/\Below w.heap.size w w'
def ErrPost (f:Flt) (w:World) (e:Ending) (w':World):Prop:=∃ c:Int,c≠0/\(f.2=true->c=6)/\e=thrown f.1 c/\Below w.heap.size w w'
def ValM (R:Nat) (ta:Option Addr) (tc:Nat) (S:ByteArray) (X:TS) (d:Nat):Prop:=∀ (n:Nd) (so:Option Addr) (sc:Nat) (w:World),MS w R ta tc S X->ETabs w->KidsAt w (fun _=>True) n.kids (.slice so n.kids.length sc)->Wn X d n ->
 Calls Tryz.prog 26 #[.pointer (some ⟨R,0,none⟩),.agg #[.int .i64 n.k,.int .i64 n.a,.int .i64 n.b,.slice so n.kids.length sc]] w (Out w (meanN X d n))
structure Env (w:World) (R:Nat) (ta:Option Addr) (tc:Nat) (S:ByteArray) (X:TS) (n:Nd) (so:Option Addr) (sc:Nat):Prop where
 ms:MS w R ta tc S X
 et:ETabs w
 kd:KidsAt w (fun _=>True) n.kids (.slice so n.kids.length sc)
theorem Env.keep {w w':World} {R:Nat} {ta:Option Addr} {tc:Nat} {S:ByteArray} {X:TS} {n:Nd} {so:Option Addr} {sc:Nat} (h:Env w R ta tc S X n so sc) (hb:Below w.heap.size w w'):Env w' R ta tc S X n so sc:=⟨h.ms.keep hb,h.et.keep hb,h.kd.since hb⟩
theorem boxes {w:World} {n0 n1 n2 n3:Value} :
 let w2:=(w.alloc (.cells #[n0,n1,n2,n3] 53)).alloc (.cells #[.int .i64 0,.int .i64 0,.int .u64 0,.string ⟨#[]⟩,.slice none 0 0,.slice none 0 0] 26)
 Below w.heap.size w w2/\w2.heap.size=w.heap.size+1+1/\w2.heap[w.heap.size]?=some (.cells #[n0,n1,n2,n3] 53)/\w2.heap[w.heap.size+1]?=some (.cells #[.int .i64 0,.int .i64 0,.int .u64 0,.string ⟨#[]⟩,.slice none 0 0,.slice none 0 0] 26):=by
 refine ⟨((Below.refl _ w).alloc (Nat.le_refl _) _).alloc (by simp) _,by simp,(alloc_old_gx _ _ (by simp)).trans (heap_alloc_new w _),?_⟩
 have:=heap_alloc_new (w.alloc (.cells #[n0,n1,n2,n3] 53)) (.cells #[.int .i64 0,.int .i64 0,.int .u64 0,.string ⟨#[]⟩,.slice none 0 0,.slice none 0 0] 26)
 rwa [World.size_alloc] at this
theorem drop_at {α:Type} {l:List α} {k:Nat} {x:α} (h:l[k]?=some x):l.drop k=x::l.drop (k+1):=by
 obtain ⟨hk,rfl⟩:=List.getElem?_eq_some_iff.1 h
 exact List.drop_eq_getElem_cons hk
end Go.Proofs.YtldhmfkojaekfaaGreatDoor
namespace Go.Proofs.YtldhmfkojaekfaaGreatDoor
open Go.RowKit Gx
set_option maxRecDepth 100000
set_option maxHeartbeats 16000000 in
theorem value_list (R:Nat) (ta:Option Addr) (tc:Nat) (S:ByteArray) (X:TS) (hT:X.T.length<=20000) (d:Nat) (IH:ValM R ta tc S X d) (n:Nd) (hk5:n.k=5) (hwn:Wn X (d+1) n) (so:Option Addr) (sc:Nat) (w:World) (he:Env w R ta tc S X n so sc) :
 Calls Tryz.prog 26 #[.pointer (some ⟨R,0,none⟩),.agg #[.int .i64 n.k,.int .i64 n.a,.int .i64 n.b,.slice so n.kids.length sc]] w (Out w (meanN X (d+1) n)):=by
 have hkl:=hwn.1
 have hkw:∀ x∈n.kids,Wn X d x:=by
  rcases hwn.2 with ⟨-,h⟩|⟨h,-⟩|⟨h,-⟩
  ·exact h
  ·omega
  ·exact absurd hk5 h
 have HM1:Hid (∀ l,listN (meanN X d) [] n.kids=.ok l->meanN X (d+1) n=.ok (listV l)):=Lib.hid (fun l h=>by rw [meanN,if_pos hk5,h])
 have HM2:Hid (∀ e,listN (meanN X d) [] n.kids=.error e->meanN X (d+1) n=.error e):=Lib.hid (fun l h=>by rw [meanN,if_pos hk5,h])
 obtain ⟨hb1,hsz,hn1,hr1⟩:=boxes (w:=w) (n0:=.int .i64 5) (n1:=.int .i64 n.a) (n2:=.int .i64 n.b) (n3:=.slice so n.kids.length sc)
 have hbx:VB w 5 (.slice none 0 0) (.slice none 0 0) (((w.alloc (.cells #[.int .i64 5,.int .i64 n.a,.int .i64 n.b,.slice so n.kids.length sc] 53)).alloc (.cells #[.int .i64 0,.int .i64 0,.int .u64 0,.string ⟨#[]⟩,.slice none 0 0,.slice none 0 0] 26)).alloc (.cells #[.int .i64 5,.int .i64 0,.int .u64 0,.string ⟨#[]⟩,.slice none 0 0,.slice none 0 0] 26)):=by
  refine ⟨(alloc_old_gx _ _ (by simp)).trans hr1,?_,hb1.alloc hb1.size _⟩
  have:=heap_alloc_new ((w.alloc (.cells #[.int .i64 5,.int .i64 n.a,.int .i64 n.b,.slice so n.kids.length sc] 53)).alloc (.cells #[.int .i64 0,.int .i64 0,.int .u64 0,.string ⟨#[]⟩,.slice none 0 0,.slice none 0 0] 26)) (.cells #[.int .i64 5,.int .i64 0,.int .u64 0,.string ⟨#[]⟩,.slice none 0 0,.slice none 0 0] 26)
  rwa [hsz] at this
 have hnb:(((w.alloc (.cells #[.int .i64 5,.int .i64 n.a,.int .i64 n.b,.slice so n.kids.length sc] 53)).alloc (.cells #[.int .i64 0,.int .i64 0,.int .u64 0,.string ⟨#[]⟩,.slice none 0 0,.slice none 0 0] 26)).alloc (.cells #[.int .i64 5,.int .i64 0,.int .u64 0,.string ⟨#[]⟩,.slice none 0 0,.slice none 0 0] 26)).heap[w.heap.size]?=some (.cells #[.int .i64 5,.int .i64 n.a,.int .i64 n.b,.slice so n.kids.length sc] 53):=(alloc_old_gx _ _ (by simp;omega)).trans hn1
 obtain ⟨N,hN⟩:∃ N,n.kids.length=N:=⟨_,rfl⟩
 have HENV:=Lib.hid he
 have HKW:=Lib.hid hkw
 rw [hk5]
 rw [hN] at hbx hnb hkl hn1 ⊢
 have HN:=Lib.hid hN
 obtain ⟨c0,c1,c2,c3⟩:=node4 hn1
 clear he hkw hk5 hwn hb1 hsz hn1 hr1 hN
 go_enter Tryz.func26,Tryz.ntmps26
 go_upto_region 4 with fail
 generalize hw3:World.alloc (World.alloc (World.alloc w _) _) _=w3 at hbx hnb ⊢
 clear hw3 c0 c1 c2 c3
 obtain ⟨c0,c1,c2,c3⟩:=node4 hnb
 have HB3:=Lib.hid hbx
 clear hbx hnb
 go_wp2_with fail
 clear c0 c1 c2 c3
 go_loopw [20] (fun v20 wr=>∃ (k:Nat) (ps:List (ByteArray×Loc)) (vs:List V) (ao:Option Addr) (cp:Nat),k<=N/\v20=.int .i64 k/\Hid (ps.length=k)/\Hid (VB w 5 (.slice ao k cp) (.slice none 0 0) wr)/\Hid (Acc wr (w.heap.size+1+1) false 26 (.slice ao k cp) ps)/\Hid (∀ p∈ps,p.1=⟨#[]⟩)/\Hid (ps.map (·.2.v)=vs)/\Hid (listN (meanN X d) [] n.kids=listN (meanN X d) vs (n.kids.drop k))) (fun v20 _=>N - (intOf v20).toNat)
 case atStart=>exact ⟨0,[],[],none,0,Nat.zero_le _,rfl,Lib.hid rfl,HB3,Lib.hid (Acc.nil _ _ _ _),Lib.hid (fun _ h=>absurd h List.not_mem_nil),Lib.hid rfl,Lib.hid rfl⟩
 case round =>
  obtain ⟨k,ps,vs,ao,cp,hk,rfl,HL,HO,HA,HZ,HTK,HLN⟩:=hrel
  clear HB3
  by_cases hlt:k<N
  ·obtain ⟨x,hx⟩:∃ x,n.kids[k]?=some x:=⟨_,List.getElem?_eq_getElem (by rw [HN.out];exact hlt)⟩
   have henv:=HENV.out.keep HO.out.g
   have hkd:=henv.kd
   rw [HN.out] at hkd
   obtain ⟨blk,rfl,ko,kc,hbk,e0,e1,e2,e3,hkk⟩:=kid_at hkd k x hx
   have HXW:=Lib.hid (HKW.out x (List.mem_of_getElem? hx))
   have HLE:Hid (∀ f,meanN X d x=.error f->listN (meanN X d) [] n.kids=.error f):=Lib.hid (fun f h=>by rw [HLN.out,drop_at hx,listN,h])
   have HLK:Hid (∀ v,meanN X d x=.ok v->listN (meanN X d) [] n.kids=listN (meanN X d) (vs++[v]) (n.kids.drop (k+1))):=Lib.hid (fun v h=>by rw [HLN.out,drop_at hx,listN,h])
   have r1:(0:Int)<=(k:Int):=by omega
   have r2:(k:Int)<(N:Int):=by omega
   have r4:(k:Int).toNat=k:=rfl
   obtain ⟨xk,hxk⟩:∃ xk,x.k=xk:=⟨_,rfl⟩
   obtain ⟨xa,hxa⟩:∃ xa,x.a=xa:=⟨_,rfl⟩
   obtain ⟨xb,hxb⟩:∃ xb,x.b=xb:=⟨_,rfl⟩
   obtain ⟨xl,hxl⟩:∃ xl,x.kids.length=xl:=⟨_,rfl⟩
   have hba:=(Below.refl wr.heap.size wr).alloc (Nat.le_refl _) (.cells #[.int .i64 xk,.int .i64 xa,.int .i64 xb,.slice ko xl kc] 53)
   have hob:=HO.out.keep hba
   have hab:=HA.out.grow (grown_none hba) (fun _ e=>absurd e (by simp))
   have hcb:=heap_alloc_new wr (.cells #[.int .i64 xk,.int .i64 xa,.int .i64 xb,.slice ko xl kc] 53)
   have hev:=henv.keep hba
   have hkn:=hkk.since hba
   have hvl:=HO.out.vlt
   rw [hxk] at e0
   rw [hxa] at e1
   rw [hxb] at e2
   rw [hxl] at e3
   clear hx hkd hkk hba HO HA henv
   go_upto_region 7 with fail
   generalize hwx:World.alloc wr _=wx at hob hab hcb hev hkn ⊢
   generalize hyb:wr.heap.size=yb at hcb hvl ⊢
   have HOB:=Lib.hid (hab.above)
   have HOd:=Lib.hid (hob.keep (Gx.drewN_below wx 1 _))
   have HAd:Hid (Acc wx.drew (w.heap.size+1+1) false 26 (.slice ao k cp) ps):=Lib.hid (hab.grow (r:=none) ⟨rfl,rfl,rfl,Nat.le_refl _,fun _ _ _=>rfl⟩ (fun _ e=>absurd e (by simp)))
   have hih:=IH x ko kc wx.drew ((hev.keep (Gx.drewN_below wx 1 _)).ms) ((hev.keep (Gx.drewN_below wx 1 _)).et) (hkn.since (Gx.drewN_below wx 1 _)) HXW.out
   rw [hxk,hxa,hxb,hxl] at hih
   obtain ⟨f0,f1,f2,f3⟩:=node4 hcb
   obtain ⟨-,-,-,-,k4,-,-⟩:=hob.cells
   have HCd:=Lib.hid hih
   have HR:Hid (∀ (f:Flt) (c:Int) w',meanN X d x=.error f->c≠0->(f.2=true->c=6)->Below w.heap.size w w'->Out w (meanN X (d+1) n) (thrown f.1 c) w'):=Lib.hid (fun f c w' hm h1 h2 hb=>⟨hb,.inr ⟨f,c,HM2.out f (HLE.out f hm),h1,h2,rfl⟩⟩)
   clear hwx hyb e0 e1 e2 e3 hob hab hcb hev hkn hih HLE HLN hxk hxa hxb hxl HXW
   go_region_law (first
    | (go_simp;(with_reducible refine HCd.out.mono ?_);rintro e w5 ⟨hb5,⟨p,hpv,rfl,hp⟩|⟨f,c,hm,hc1,hc2,rfl⟩⟩;rotate_left;(have hr:=HR.out f c w5 hm hc1 hc2 (HOd.out.g.trans (hb5.mono HOd.out.g.size));unfold thrown at hr ⊢;go_wp2_with fail;exact ⟨rfl,hr⟩);have ho5:=HOd.out.keep hb5;obtain ⟨-,-,-,-,k5,-,-⟩:=ho5.cells;obtain ⟨-,-,-,-,k5a,-,-⟩:=(ho5.grow (World.grownBy_alloc w5 (.cells #[.int .i64 p.v.k,.int .i64 p.v.n,.int .u64 p.v.f,.string p.v.s,.slice p.ad p.v.l.length p.cap,.slice p.bd p.v.e.length p.dap] 26) none) (fun b e=>absurd e (by simp))).cells;have HO5:=Lib.hid ho5;have HA5:=Lib.hid (HAd.out.grow (grown_none hb5) (fun _ e=>absurd e (by simp)));have HQ5:=Lib.hid (HAd.out.fresh HOd.out.vlt hp);have HPV:=Lib.hid hpv;clear hp hb5 hpv ho5;simp only [Loc.val])
    | (refine step_acc Tryz.underlying23 Tryz.info_val rfl (by decide) rfl (.tmp 25) (.tmp 29) rfl HA5.out HO5.out.vlt (⟨#[]⟩,p) HQ5.out (by show (0:Nat)<=140737488351232;decide) _ rfl rfl rfl k HL.out (by omega) (by omega) ?_;intro ao6 c6 w6 ha6 hg6;have ho6:=HO5.out.grow hg6 HOB.out;obtain ⟨-,-,-,-,k6,-,kf⟩:=ho6.cells;have kf6:=kf 4;have HO6:=Lib.hid ho6;have HA6:=Lib.hid ha6;clear ha6 hg6 ho6 kf))
   all_goals
    go_wp2_with fail
    obtain ⟨y,hy⟩:∃ y:ByteArray×Loc,(⟨#[]⟩,p)=y:=⟨_,rfl⟩
    have hy1:y.1=⟨#[]⟩:=by rw [<-hy]
    have hyv:(y.2.v:V)=p.v:=by rw [<-hy]
    have HLN3:Hid (listN (meanN X d) [] n.kids=listN (meanN X d) (vs++[p.v]) (n.kids.drop (k+1))):=Lib.hid (HLK.out p.v HPV.out)
    have ho:=HO6.out.setL (.slice ao6 (k+1) c6)
    have ha:=HA6.out.grow (grown_cell w6 (w.heap.size+1+1) 4 (.slice ao6 (k+1) c6)) (fun b e=>by have:=Option.some.inj e;omega)
    rw [hy] at ha
    have H1:=Lib.hid ho
    have H2:=Lib.hid ha
    have H3:Hid ((ps++[y]).length=k+1):=Lib.hid (by rw [List.length_append,HL.out];rfl)
    have H4:Hid (∀ z∈ps++[y],z.1=⟨#[]⟩):=Lib.hid (fun z hz=>by
     rcases List.mem_append.1 hz with hz|hz
     ·exact HZ.out z hz
     ·obtain rfl:z=y:=by simpa using hz
      exact hy1)
    have H5:Hid ((ps++[y]).map (·.2.v)=vs++[p.v]):=Lib.hid (by rw [List.map_append,HTK.out,<-hyv];rfl)
    clear ho ha hy1 hyv hy HO6 HA6 HO5 HA5 HQ5 HPV HOd HAd HLK HR
    go_roundw
    case rel=>exact ⟨k+1,ps++[y],vs++[p.v],ao6,c6,by omega,by go_num,H3,H1,H2,H4,H5,HLN3⟩
    case measure=>simp [intOf];omega
  ·obtain rfl:k=N:=by omega
   have hvl:vs.length=k:=by rw [<-HTK.out,List.length_map,HL.out]
   have hok:meanN X (d+1) n=.ok (listV vs):=HM1.out vs (by rw [HLN.out,List.drop_of_length_le (by rw [HN.out];omega)];rfl)
   have hrow:=HA.out.row (xs:=lp vs) (by rw [HL.out];simp [st];omega) (by
    rw [<-HTK.out]
    unfold lp
    rw [List.map_map]
    exact List.map_congr_left (fun p hp=>by rw [HZ.out p hp];rfl))
   have hv:VAt wr (fun b=>w.heap.size+1+1<b) ⟨listV vs,ao,cp,none,0⟩:=⟨⟨by show (-9223372036854775808:Int)<=5;decide,by show (5:Int)<=9223372036854775807;decide,by show (-9223372036854775808:Int)<=0;decide,by show (0:Int)<=9223372036854775807;decide,by show (0:Int)<=0;decide,by show (0:Int)<=18446744073709551615;decide,by show (0:Nat)<=140737488351232;decide⟩,by
    show RowAt wr _ false (lp vs) (.slice ao vs.length cp)
    rw [hvl];exact hrow,.nil _ _ _⟩
   obtain ⟨a0,a1,a2,a3,a4,a5,-⟩:=HO.out.cells
   obtain ⟨p0,p1,p2,p3,p4,p5,pf⟩:=six_cells HO.out.res
   have pf0:=pf 0
   have pf1:=pf 1
   have pf2:=pf 2
   have pf3:=pf 3
   have pf4:=pf 4
   have pf5:=pf 5
   obtain ⟨W9,hW9,hr9,-,-,hbw,hvw⟩:=six_all HO.out.res (.int .i64 5) (.int .i64 0) (.int .u64 0) (.string ⟨#[]⟩) (.slice ao k cp) (.slice none 0 0)
   obtain ⟨q0,q1,q2,q3,q4,q5,-⟩:=six_cells hr9
   have HW9:=Lib.hid hW9
   have HR:Hid (Out w (meanN X (d+1) n) (.returned (.agg #[.int .i64 5,.int .i64 0,.int .u64 0,.string ⟨#[]⟩,.slice ao k cp,.slice none 0 0])) W9):=Lib.hid ⟨hbw _ _ HO.out.g (by omega),.inl ⟨⟨listV vs,ao,cp,none,0⟩,hok,by rw [<-hvl];rfl,(hvw _ _ hv (by omega)).weak (fun b hb _=>by omega)⟩⟩
   clear hW9 hr9 hbw hvw pf hv hrow hok hvl
   go_wp2_with fail
   rw [<-HW9.out]
   exact bodyPost_ret (v:=.agg #[.int .i64 5,.int .i64 0,.int .u64 0,.string ⟨#[]⟩,.slice ao k cp,.slice none 0 0]) (by simp [results,Tryz.results26,go_sem,q0,q1,q2,q3,q4,q5]) rfl HR.out
set_option maxRecDepth 100000
theorem put_len (l:List (ByteArray×V)) (s:ByteArray) (v:V):(putL l s v).length<=l.length+1:=by
 have h:=drop_le s l
 unfold putL insL
 rw [List.length_append,List.length_cons,List.length_take,List.length_drop]
 omega
set_option maxHeartbeats 16000000 in
theorem value_table (R:Nat) (ta:Option Addr) (tc:Nat) (S:ByteArray) (X:TS) (hX:InX X) (hXl:X.l.length<=20000) (hT:X.T.length<=20000) (d:Nat) (IH:ValM R ta tc S X d) (n:Nd) (hk3:n.k=3) (hwn:Wn X (d+1) n) (so:Option Addr) (sc:Nat) (w:World) (he:Env w R ta tc S X n so sc) :
 Calls Tryz.prog 26 #[.pointer (some ⟨R,0,none⟩),.agg #[.int .i64 n.k,.int .i64 n.a,.int .i64 n.b,.slice so n.kids.length sc]] w (Out w (meanN X (d+1) n)):=by
 have hkl:=hwn.1
 have hkw:∀ x∈n.kids,∃ k y,x.kids=[k,y]/\k.a<X.T.length/\Wn X d y:=by
  rcases hwn.2 with ⟨h,-⟩|⟨-,h⟩|⟨-,h,-⟩
  ·omega
  ·exact h
  ·exact absurd hk3 h
 have HM1:Hid (∀ l,tableN X (meanN X d) [] n.kids=.ok l->meanN X (d+1) n=.ok (tableV l)):=Lib.hid (fun l h=>by rw [meanN,if_neg (by omega),if_pos hk3,h])
 have HM2:Hid (∀ e,tableN X (meanN X d) [] n.kids=.error e->meanN X (d+1) n=.error e):=Lib.hid (fun l h=>by rw [meanN,if_neg (by omega),if_pos hk3,h])
 obtain ⟨hb1,hsz,hn1,hr1⟩:=boxes (w:=w) (n0:=.int .i64 3) (n1:=.int .i64 n.a) (n2:=.int .i64 n.b) (n3:=.slice so n.kids.length sc)
 have hbx:VB w 6 (.slice none 0 0) (.slice none 0 0) (((w.alloc (.cells #[.int .i64 3,.int .i64 n.a,.int .i64 n.b,.slice so n.kids.length sc] 53)).alloc (.cells #[.int .i64 0,.int .i64 0,.int .u64 0,.string ⟨#[]⟩,.slice none 0 0,.slice none 0 0] 26)).alloc (.cells #[.int .i64 6,.int .i64 0,.int .u64 0,.string ⟨#[]⟩,.slice none 0 0,.slice none 0 0] 26)):=by
  refine ⟨(alloc_old_gx _ _ (by simp)).trans hr1,?_,hb1.alloc hb1.size _⟩
  have:=heap_alloc_new ((w.alloc (.cells #[.int .i64 3,.int .i64 n.a,.int .i64 n.b,.slice so n.kids.length sc] 53)).alloc (.cells #[.int .i64 0,.int .i64 0,.int .u64 0,.string ⟨#[]⟩,.slice none 0 0,.slice none 0 0] 26)) (.cells #[.int .i64 6,.int .i64 0,.int .u64 0,.string ⟨#[]⟩,.slice none 0 0,.slice none 0 0] 26)
  rwa [hsz] at this
 have hnb:(((w.alloc (.cells #[.int .i64 3,.int .i64 n.a,.int .i64 n.b,.slice so n.kids.length sc] 53)).alloc (.cells #[.int .i64 0,.int .i64 0,.int .u64 0,.string ⟨#[]⟩,.slice none 0 0,.slice none 0 0] 26)).alloc (.cells #[.int .i64 6,.int .i64 0,.int .u64 0,.string ⟨#[]⟩,.slice none 0 0,.slice none 0 0] 26)).heap[w.heap.size]?=some (.cells #[.int .i64 3,.int .i64 n.a,.int .i64 n.b,.slice so n.kids.length sc] 53):=(alloc_old_gx _ _ (by simp;omega)).trans hn1
 obtain ⟨N,hN⟩:∃ N,n.kids.length=N:=⟨_,rfl⟩
 have HENV:=Lib.hid he
 have HKW:=Lib.hid hkw
 have HIX:=Lib.hid hX
 rw [hk3]
 rw [hN] at hbx hnb hkl hn1 ⊢
 have HN:=Lib.hid hN
 obtain ⟨c0,c1,c2,c3⟩:=node4 hn1
 clear he hkw hk3 hwn hb1 hsz hn1 hr1 hN hX
 go_enter Tryz.func26,Tryz.ntmps26
 go_upto_region 12 with fail
 generalize hw3:World.alloc (World.alloc (World.alloc w _) _) _=w3 at hbx hnb ⊢
 clear hw3 c0 c1 c2 c3
 obtain ⟨c0,c1,c2,c3⟩:=node4 hnb
 have HB3:=Lib.hid hbx
 clear hbx hnb
 go_wp2_with fail
 clear c0 c1 c2 c3
 go_loopw [40] (fun v40 wr=>∃ (k m:Nat) (acc:List (ByteArray×V)) (bo:Option Addr) (cq:Nat),k<=N/\m<=k/\v40=.int .i64 k/\Hid (acc.length=m)/\Hid (VB w 6 (.slice none 0 0) (.slice bo m cq) wr)/\Hid (RowAt wr (fun b=>w.heap.size+1+1<b) true acc (.slice bo m cq))/\Hid (tableN X (meanN X d) [] n.kids=tableN X (meanN X d) acc (n.kids.drop k))) (fun v40 _=>N - (intOf v40).toNat)
 case atStart=>exact ⟨0,0,[],none,0,Nat.zero_le _,Nat.le_refl _,rfl,Lib.hid rfl,HB3,Lib.hid (.nil _ _ _),Lib.hid rfl⟩
 case round =>
  obtain ⟨k,m,acc,bo,cq,hk,hmk,rfl,HL,HO,HA,HLN⟩:=hrel
  clear HB3
  by_cases hlt:k<N
  ·obtain ⟨x,hx⟩:∃ x,n.kids[k]?=some x:=⟨_,List.getElem?_eq_getElem (by rw [HN.out];exact hlt)⟩
   have henv:=HENV.out.keep HO.out.g
   have hkd:=henv.kd
   rw [HN.out] at hkd
   obtain ⟨blk,rfl,ko,kc,hbk,e0,e1,e2,e3,hkk⟩:=kid_at hkd k x hx
   obtain ⟨kn,yn,hxy,hka,hyw⟩:=HKW.out x (List.mem_of_getElem? hx)
   have h0:x.kids.getD 0 Nd.none=kn:=by rw [hxy];rfl
   have h1:x.kids.getD 1 Nd.none=yn:=by rw [hxy];rfl
   have HTE:Hid (∀ f,keyN X kn.a acc=.error f->tableN X (meanN X d) [] n.kids=.error f):=Lib.hid (fun f h=>by rw [HLN.out,drop_at hx,tableN,h0,h])
   have HTF:Hid (∀ s f,keyN X kn.a acc=.ok s->meanN X d yn=.error f->tableN X (meanN X d) [] n.kids=.error f):=Lib.hid (fun s f h g=>by rw [HLN.out,drop_at hx,tableN,h0,h];simp only [];rw [h1,g])
   have HTK:Hid (∀ s v,keyN X kn.a acc=.ok s->meanN X d yn=.ok v->tableN X (meanN X d) [] n.kids=tableN X (meanN X d) (putL acc s v) (n.kids.drop (k+1))):=Lib.hid (fun s v h g=>by rw [HLN.out,drop_at hx,tableN,h0,h];simp only [];rw [h1,g])
   have hx2:x.kids.length=2:=by rw [hxy];rfl
   rw [hx2] at e3 hkk
   obtain ⟨blk2,rfl,k0o,k0c,hbk2,a0,a1,a2,a3,hkk0⟩:=kid_at hkk 0 kn (by rw [hxy];rfl)
   obtain ⟨blk3,hb23,k1o,k1c,-,b0,b1,b2,b3,hkk1⟩:=kid_at hkk 1 yn (by rw [hxy];rfl)
   obtain rfl:blk2=blk3:=by have:=Option.some.inj hb23;exact congrArg Addr.block this
   have r1:(0:Int)<=(k:Int):=by omega
   have r2:(k:Int)<(N:Int):=by omega
   have r4:(k:Int).toNat=k:=rfl
   obtain ⟨xk,hxk⟩:∃ xk,x.k=xk:=⟨_,rfl⟩
   obtain ⟨xa,hxa⟩:∃ xa,x.a=xa:=⟨_,rfl⟩
   obtain ⟨xb,hxb⟩:∃ xb,x.b=xb:=⟨_,rfl⟩
   rw [hxk] at e0
   rw [hxa] at e1
   rw [hxb] at e2
   clear hxk hxa hxb
   have hba:=(Below.refl wr.heap.size wr).alloc (Nat.le_refl _) (.cells #[.int .i64 xk,.int .i64 xa,.int .i64 xb,.slice (some ⟨blk2,0,none⟩) 2 kc] 53)
   have hob:=HO.out.keep hba
   have hab:=HA.out.keep hba
   have hcb:=heap_alloc_new wr (.cells #[.int .i64 xk,.int .i64 xa,.int .i64 xb,.slice (some ⟨blk2,0,none⟩) 2 kc] 53)
   have hev:=henv.keep hba
   have hkn0:=hkk0.since hba
   have hkn1:=hkk1.since hba
   have a0':(wr.alloc (.cells #[.int .i64 xk,.int .i64 xa,.int .i64 xb,.slice (some ⟨blk2,0,none⟩) 2 kc] 53)).cell? ⟨blk2,0,none⟩=some (.int .i64 kn.k):=(hba.cell (p:=⟨blk2,0,none⟩) hbk2).trans a0
   have a1':(wr.alloc (.cells #[.int .i64 xk,.int .i64 xa,.int .i64 xb,.slice (some ⟨blk2,0,none⟩) 2 kc] 53)).cell? ⟨blk2,1,none⟩=some (.int .i64 kn.a):=(hba.cell (p:=⟨blk2,1,none⟩) hbk2).trans a1
   have a2':(wr.alloc (.cells #[.int .i64 xk,.int .i64 xa,.int .i64 xb,.slice (some ⟨blk2,0,none⟩) 2 kc] 53)).cell? ⟨blk2,2,none⟩=some (.int .i64 kn.b):=(hba.cell (p:=⟨blk2,2,none⟩) hbk2).trans a2
   have a3':(wr.alloc (.cells #[.int .i64 xk,.int .i64 xa,.int .i64 xb,.slice (some ⟨blk2,0,none⟩) 2 kc] 53)).cell? ⟨blk2,3,none⟩=some (.slice k0o kn.kids.length k0c):=(hba.cell (p:=⟨blk2,3,none⟩) hbk2).trans a3
   have b0':(wr.alloc (.cells #[.int .i64 xk,.int .i64 xa,.int .i64 xb,.slice (some ⟨blk2,0,none⟩) 2 kc] 53)).cell? ⟨blk2,4,none⟩=some (.int .i64 yn.k):=(hba.cell (p:=⟨blk2,4,none⟩) hbk2).trans b0
   have b1':(wr.alloc (.cells #[.int .i64 xk,.int .i64 xa,.int .i64 xb,.slice (some ⟨blk2,0,none⟩) 2 kc] 53)).cell? ⟨blk2,5,none⟩=some (.int .i64 yn.a):=(hba.cell (p:=⟨blk2,5,none⟩) hbk2).trans b1
   have b2':(wr.alloc (.cells #[.int .i64 xk,.int .i64 xa,.int .i64 xb,.slice (some ⟨blk2,0,none⟩) 2 kc] 53)).cell? ⟨blk2,6,none⟩=some (.int .i64 yn.b):=(hba.cell (p:=⟨blk2,6,none⟩) hbk2).trans b2
   have b3':(wr.alloc (.cells #[.int .i64 xk,.int .i64 xa,.int .i64 xb,.slice (some ⟨blk2,0,none⟩) 2 kc] 53)).cell? ⟨blk2,7,none⟩=some (.slice k1o yn.kids.length k1c):=(hba.cell (p:=⟨blk2,7,none⟩) hbk2).trans b3
   have hbk2':=Nat.lt_of_lt_of_le hbk2 hba.size
   have hvl:=HO.out.vlt
   have hyl:wr.heap.size<(wr.alloc (.cells #[.int .i64 xk,.int .i64 xa,.int .i64 xb,.slice (some ⟨blk2,0,none⟩) 2 kc] 53)).heap.size:=by simp
   clear hx hkd hkk hkk0 hkk1 hba HO HA henv a0 a1 a2 a3 b0 b1 b2 b3 h0 h1 hxy hx2 hb23 hbk hbk2
   go_upto_region 15 with fail
   generalize hwx:World.alloc wr _=wx at hob hab hcb hev hkn0 hkn1 a0' a1' a2' a3' b0' b1' b2' b3' hbk2' hyl ⊢
   generalize hyb:wr.heap.size=yb at hcb hvl hyl ⊢
   obtain ⟨f0,f1,f2,f3⟩:=node4 hcb
   obtain ⟨-,-,-,-,-,k5,-⟩:=hob.cells
   have hevd:=hev.keep (Gx.drewN_below wx 1 _)
   have hky:=mkey_any R ta tc S X HIX.out kn k0o kn.kids.length k0c acc bo cq m HL.out wx.drew hevd.ms hevd.et ((hab.weak (fun _ _ _=>trivial)).keep (Gx.drewN_below wx 1 _)) hka hXl hT
   obtain ⟨ka,hkae⟩:∃ ka,kn.a=ka:=⟨_,rfl⟩
   obtain ⟨kk,hkke⟩:∃ kk,kn.k=kk:=⟨_,rfl⟩
   obtain ⟨kb,hkbe⟩:∃ kb,kn.b=kb:=⟨_,rfl⟩
   obtain ⟨kz,hkze⟩:∃ kz,kn.kids.length=kz:=⟨_,rfl⟩
   rw [hkae,hkke,hkbe,hkze] at hky
   rw [hkae] at a1' HTE HTF HTK
   rw [hkke] at a0'
   rw [hkbe] at a2'
   rw [hkze] at a3'
   unfold KeyPostM at hky
   have HKY:=Lib.hid hky
   have HOx:=Lib.hid hob
   have HAx:=Lib.hid hab
   have HEx:=Lib.hid hev
   have HK1:=Lib.hid hkn1
   have HOd:Hid (Below w.heap.size w wx.drew):=Lib.hid (hob.g.trans (Gx.drewN_below wx 1 _))
   have HRE:Hid (∀ (f:Flt) (c:Int) w',tableN X (meanN X d) [] n.kids=.error f->c≠0->(f.2=true->c=6)->Below w.heap.size w w'->Out w (meanN X (d+1) n) (thrown f.1 c) w'):=Lib.hid (fun f c w' hm h1 h2 hb=>⟨hb,.inr ⟨f,c,HM2.out f hm,h1,h2,rfl⟩⟩)
   clear hwx hyb hob hab hcb hev hkn0 hkn1 hky hevd hka hkae hkke hkbe hkze e0 e1 e2 e3 HLN
   go_region_law (go_simp;(with_reducible refine HKY.out.mono ?_);rintro e w5 ⟨hb5,⟨t,hkt,hts,rfl⟩|⟨f,c,hm,hc1,hc2,rfl⟩⟩;rotate_left;(have hr:=HRE.out f c w5 (HTE.out f hm) hc1 hc2 (HOd.out.trans (hb5.mono HOd.out.size));unfold thrown at hr ⊢;go_wp2_with fail;exact ⟨rfl,hr⟩))
   all_goals
    have hbx5:Below wx.heap.size wx w5:=(Gx.drewN_below wx 1 _).trans (hb5.mono (Nat.le_refl _))
    have hob:=HOx.out.keep hbx5
    have hab:=HAx.out.keep hbx5
    have hev:=HEx.out.keep hbx5
    have hkn1:=HK1.out.since hbx5
    have g3:=(hbx5.cell (p:=⟨yb,3,none⟩) hyl).trans f3
    have b0'':=(hbx5.cell (p:=⟨blk2,4,none⟩) hbk2').trans b0'
    have b1'':=(hbx5.cell (p:=⟨blk2,5,none⟩) hbk2').trans b1'
    have b2'':=(hbx5.cell (p:=⟨blk2,6,none⟩) hbk2').trans b2'
    have b3'':=(hbx5.cell (p:=⟨blk2,7,none⟩) hbk2').trans b3'
    have HKT:=Lib.hid hkt
    clear a0' a1' a2' a3' b0' b1' b2' b3' f0 f1 f2 f3 k5 hb5 hbx5 HKY HOx HAx HEx HK1 HOd hkt HTE
    obtain ⟨-,-,-,-,-,k5,-⟩:=hob.cells
    have hevd:=hev.keep (Gx.drewN_below w5 1 _)
    have hih:=IH yn k1o k1c w5.drew hevd.ms hevd.et (hkn1.since (Gx.drewN_below w5 1 _)) hyw
    obtain ⟨ya,hyae⟩:∃ ya,yn.a=ya:=⟨_,rfl⟩
    obtain ⟨yk,hyke⟩:∃ yk,yn.k=yk:=⟨_,rfl⟩
    obtain ⟨yc,hybe⟩:∃ yc,yn.b=yc:=⟨_,rfl⟩
    obtain ⟨yz,hyze⟩:∃ yz,yn.kids.length=yz:=⟨_,rfl⟩
    rw [hyae,hyke,hybe,hyze] at hih
    rw [hyae] at b1''
    rw [hyke] at b0''
    rw [hybe] at b2''
    rw [hyze] at b3''
    have HCd:=Lib.hid hih
    have HOd:=Lib.hid (hob.keep (Gx.drewN_below w5 1 _))
    have HAd:Hid (RowAt w5.drew (fun b=>w.heap.size+1+1<b) true acc (.slice bo m cq)):=Lib.hid (hab.keep (Gx.drewN_below w5 1 _))
    clear hyae hyke hybe hyze hih hob hab hev hkn1 hevd
    go_wp2_with fail
    go_region_law (first
     | (go_simp;(with_reducible refine HCd.out.mono ?_);rintro e w6 ⟨hb6,⟨p,hpv,rfl,hp⟩|⟨f,c,hm,hc1,hc2,rfl⟩⟩;rotate_left;(have hr:=HRE.out f c w6 (HTF.out t f HKT.out hm) hc1 hc2 (HOd.out.g.trans (hb6.mono HOd.out.g.size));unfold thrown at hr ⊢;go_wp2_with fail;exact ⟨rfl,hr⟩);have ho6:=HOd.out.keep hb6;obtain ⟨-,-,-,-,-,k6,-⟩:=ho6.cells;have HO6:=Lib.hid ho6;have HPT:=Lib.hid (put_any bo cq m acc t p w6 ((HAd.out.keep hb6).weak (fun _ _ _=>trivial)) HL.out (by omega) (hp.weak (fun _ _ _=>trivial)) (by omega));have HPV:=Lib.hid hpv;clear hp hb6 hpv ho6;simp only [Loc.val] at HPT ⊢)
     | (go_simp;(with_reducible refine HPT.out.mono ?_);rintro e w7 ⟨vo,vc,m2,rfl,hm2,hr7,hb7⟩;have ho7:=HO6.out.keep hb7;obtain ⟨-,-,-,-,-,k7,kf⟩:=ho7.cells;have kf7:=kf 5;have HO7:=Lib.hid ho7;have hv6:=HO6.out.vlt;have HA7:Hid (RowAt w7 (fun b=>w.heap.size+1+1<b) true (putL acc t p.v) (.slice vo m2 vc)):=Lib.hid (hr7.weak (fun b hb _=>by omega));have HM7:=Lib.hid hm2;clear hr7 hb7 ho7 kf hm2 hv6))
    all_goals
     have ho:=HO7.out.setE (.slice vo m2 vc)
     have ha:=HA7.out.grow (grown_cell w7 (w.heap.size+1+1) 5 (.slice vo m2 vc)) (fun b e hb=>by have:=Option.some.inj e;omega)
     have hm2:m2<=k+1:=by
      have h1:=put_len acc t p.v
      have h2:=HM7.out
      have h3:=HL.out
      omega
     have H1:=Lib.hid ho
     have H2:=Lib.hid ha
     have H3:=Lib.hid (HTK.out t p.v HKT.out HPV.out)
     clear ho ha HO7 HA7 HO6 HPT HPV HOd HAd HKT HTK HTF HRE
     go_wp2_with fail
     go_roundw
     case rel=>exact ⟨k+1,m2,putL acc t p.v,vo,vc,by omega,hm2,by go_num,HM7,H1,H2,H3⟩
     case measure=>simp [intOf];omega
  ·obtain rfl:k=N:=by omega
   have hok:meanN X (d+1) n=.ok (tableV acc):=HM1.out acc (by rw [HLN.out,List.drop_of_length_le (by rw [HN.out];omega)];rfl)
   have hrow:=HA.out
   have hv:VAt wr (fun b=>w.heap.size+1+1<b) ⟨tableV acc,none,0,bo,cq⟩:=⟨⟨by show (-9223372036854775808:Int)<=6;decide,by show (6:Int)<=9223372036854775807;decide,by show (-9223372036854775808:Int)<=0;decide,by show (0:Int)<=9223372036854775807;decide,by show (0:Int)<=0;decide,by show (0:Int)<=18446744073709551615;decide,by show (0:Nat)<=140737488351232;decide⟩,.nil _ _ _,by
    show RowAt wr _ true acc (.slice bo acc.length cq)
    rw [HL.out];exact hrow⟩
   obtain ⟨a0,a1,a2,a3,a4,a5,-⟩:=HO.out.cells
   obtain ⟨p0,p1,p2,p3,p4,p5,pf⟩:=six_cells HO.out.res
   have pf0:=pf 0
   have pf1:=pf 1
   have pf2:=pf 2
   have pf3:=pf 3
   have pf4:=pf 4
   have pf5:=pf 5
   obtain ⟨W9,hW9,hr9,-,-,hbw,hvw⟩:=six_all HO.out.res (.int .i64 6) (.int .i64 0) (.int .u64 0) (.string ⟨#[]⟩) (.slice none 0 0) (.slice bo m cq)
   obtain ⟨q0,q1,q2,q3,q4,q5,-⟩:=six_cells hr9
   have HW9:=Lib.hid hW9
   have HR:Hid (Out w (meanN X (d+1) n) (.returned (.agg #[.int .i64 6,.int .i64 0,.int .u64 0,.string ⟨#[]⟩,.slice none 0 0,.slice bo m cq])) W9):=Lib.hid ⟨hbw _ _ HO.out.g (by omega),.inl ⟨⟨tableV acc,none,0,bo,cq⟩,hok,by rw [<-HL.out];rfl,(hvw _ _ hv (by omega)).weak (fun b hb _=>by omega)⟩⟩
   clear hW9 hr9 hbw hvw pf hv hrow hok
   go_wp2_with fail
   rw [<-HW9.out]
   exact bodyPost_ret (v:=.agg #[.int .i64 6,.int .i64 0,.int .u64 0,.string ⟨#[]⟩,.slice none 0 0,.slice bo m cq]) (by simp [results,Tryz.results26,go_sem,q0,q1,q2,q3,q4,q5]) rfl HR.out
set_option maxRecDepth 100000
set_option maxHeartbeats 8000000 in
theorem value_leaf (R:Nat) (ta:Option Addr) (tc:Nat) (S:ByteArray) (X:TS) (hX:InX X) (hXl:X.l.length<=20000) (hT:X.T.length<=20000) (d:Nat) (n:Nd) (h5:n.k≠5) (h3:n.k≠3) (ha:n.a<X.T.length) (so:Option Addr) (sc:Nat) (w:World) (he:Env w R ta tc S X n so sc) :
 Calls Tryz.prog 26 #[.pointer (some ⟨R,0,none⟩),.agg #[.int .i64 n.k,.int .i64 n.a,.int .i64 n.b,.slice so n.kids.length sc]] w (Out w (meanN X (d+1) n)):=by
 have hmn:meanN X (d+1) n=leafN X n.a:=by rw [meanN,if_neg h5,if_neg h3]
 rw [hmn]
 obtain ⟨hb1,hsz,hn1,hr1⟩:=boxes (w:=w) (n0:=.int .i64 n.k) (n1:=.int .i64 n.a) (n2:=.int .i64 n.b) (n3:=.slice so n.kids.length sc)
 have hev:=he.keep hb1
 have hlf:=mleaf_any R ta tc S X hX n so n.kids.length sc _ hev.ms hev.et ha hXl hT
 have t5:(n.k==5)=false:=beq_eq_false_iff_ne.2 h5
 have t3:(n.k==3)=false:=beq_eq_false_iff_ne.2 h3
 obtain ⟨c0,c1,c2,c3⟩:=node4 hn1
 obtain ⟨K,hK⟩:∃ K,n.k=K:=⟨_,rfl⟩
 obtain ⟨a,hA⟩:∃ a,n.a=a:=⟨_,rfl⟩
 obtain ⟨b,hB⟩:∃ b,n.b=b:=⟨_,rfl⟩
 obtain ⟨N,hN⟩:∃ N,n.kids.length=N:=⟨_,rfl⟩
 rw [hK,hA,hB,hN] at hlf hb1 hr1 c0 c1 c2 c3
 rw [hK] at t5 t3
 rw [hK,hA,hB,hN]
 have HLF:=Lib.hid hlf
 have HB1:=Lib.hid hb1
 have HR1:=Lib.hid hr1
 unfold Out at HLF
 clear hlf hb1 hr1 hmn h5 h3 ha he hev hsz hn1 hK hA hB hN
 go_enter Tryz.func26,Tryz.ntmps26
 go_wp2_with fail
 (with_reducible refine HLF.out.mono ?_)
 rintro e w4 ⟨hb4,⟨q,hq,rfl,hv⟩|⟨f,c,hq,hc1,hc2,rfl⟩⟩
 ·have hr4:=(hb4.block _ (Array.getElem?_eq_some_iff.1 HR1.out).1).trans HR1.out
  have hbw:=HB1.out.trans (hb4.mono HB1.out.size)
  have hsz1:=HB1.out.size
  obtain ⟨W9,hW9,hr9,-,-,hbw9,hvw⟩:=six_all hr4 (.int .i64 q.v.k) (.int .i64 q.v.n) (.int .u64 q.v.f) (.string q.v.s) (.slice q.ad q.v.l.length q.cap) (.slice q.bd q.v.e.length q.dap)
  obtain ⟨g0,g1,g2,g3,g4,g5,gf⟩:=six_cells hr4
  have gf0:=gf 0
  have gf1:=gf 1
  have gf2:=gf 2
  have gf3:=gf 3
  have gf4:=gf 4
  have gf5:=gf 5
  obtain ⟨q0,q1,q2,q3,q4,q5,-⟩:=six_cells hr9
  have HW9:=Lib.hid hW9
  have HR:Hid (Out w (leafN X a) (.returned (.agg #[.int .i64 q.v.k,.int .i64 q.v.n,.int .u64 q.v.f,.string q.v.s,.slice q.ad q.v.l.length q.cap,.slice q.bd q.v.e.length q.dap])) W9):=Lib.hid ⟨hbw9 _ _ hbw (by omega),.inl ⟨q,hq,rfl,(hvw _ _ hv (by have:=(Array.getElem?_eq_some_iff.1 HR1.out).1;omega)).weak (fun b hb _=>by omega)⟩⟩
  unfold Loc.val
  clear hW9 hr9 hbw9 gf hq hv hb4 hbw hr4 HLF HB1 HR1 hvw
  go_wp2_with fail
  rw [<-HW9.out]
  exact bodyPost_ret (v:=.agg #[.int .i64 q.v.k,.int .i64 q.v.n,.int .u64 q.v.f,.string q.v.s,.slice q.ad q.v.l.length q.cap,.slice q.bd q.v.e.length q.dap]) (by simp [results,Tryz.results26,go_sem,q0,q1,q2,q3,q4,q5]) rfl HR.out
 ·have HR:Hid (Out w (leafN X a) (thrown f.1 c) w4):=Lib.hid ⟨HB1.out.trans (hb4.mono HB1.out.size),.inr ⟨f,c,hq,hc1,hc2,rfl⟩⟩
  unfold thrown at HR ⊢
  exact ⟨rfl,HR.out⟩
theorem valM_any (R:Nat) (ta:Option Addr) (tc:Nat) (S:ByteArray) (X:TS) (hX:InX X) (hXl:X.l.length<=20000) (hT:X.T.length<=20000):∀ d,ValM R ta tc S X d
 | 0=>fun n so sc w _ _ _ h=>h.elim
 | d+1=>fun n so sc w h1 h2 h3 h=>by
   have IH:=valM_any R ta tc S X hX hXl hT d
   rcases h.2 with ⟨g,-⟩|⟨g,-⟩|⟨g5,g3,ga⟩
   ·exact value_list R ta tc S X hT d IH n g h so sc w ⟨h1,h2,h3⟩
   ·exact value_table R ta tc S X hX hXl hT d IH n g h so sc w ⟨h1,h2,h3⟩
   ·exact value_leaf R ta tc S X hX hXl hT d n g5 g3 ga so sc w ⟨h1,h2,h3⟩
end Go.Proofs.YtldhmfkojaekfaaGreatDoor
