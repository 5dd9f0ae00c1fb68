/-
  Lemmas for the statement: plain laws, and what functions answer; the conditions stand in each.
-/
import Derived.Deep.LoopGhost
import Derived.Maps.AppendAt
import Derived.OwnWalk
import Derived.IntWalk
import Derived.StillTailTactics
import Derived.Deep.RegionHeld3
import Derived.Deep.WholeRow
import Derived.Test.YtldhmfkojaekfaaGreatDoorMeanTwiceAllPartA
set_option linter.unusedVariables false
set_option linter.unusedSimpArgs false
namespace Go.Proofs.YtldhmfkojaekfaaGreatDoor
open Go.RowKit Gx
def MaxOk (w:World):Prop:=∃ m:Int,w.cell? ⟨0,0,none⟩=some (.int .i64 m)
theorem MaxOk.keep {w w':World} (h:MaxOk w) (hb:Below w.heap.size w w'):MaxOk w':=by
 obtain ⟨m,hm⟩:=h
 exact ⟨m,(hb.cell (p:=⟨0,0,none⟩) (World.block_lt_of_cell? _ _ hm)).trans hm⟩
def noteLen (l:List UInt8):Nat :=
 if l.head?=some 35 then (Lib.cut l [10]).1.length
 else if Lib.hasPrefix l [47,42]=true then (if Lib.index (l.drop 2) [42,47]<0 then 0 else (Lib.index (l.drop 2) [42,47]).toNat+4) else 0
def IntsPost (n:Int) (w:World) (e:Ending) (w':World):Prop:=e=.returned (.int .i64 n)/\Below w.heap.size w w'
theorem cut_len (l sep:List UInt8):(Lib.cut l sep).1.length<=l.length:=by
 unfold Lib.cut
 split
 ·simp;omega
 ·exact Nat.le_refl _
theorem index_cons (b:UInt8) (l sub:List UInt8):Lib.index (b::l) sub=if sub.isPrefixOf (b::l) then 0 else if Lib.index l sub==-1 then -1 else Lib.index l sub+1:=rfl
theorem index_le (l sub:List UInt8):Lib.index l sub<=l.length:=by
 induction l with
 | nil=>unfold Lib.index;split<;>simp
 | cons b l ih =>
   rw [index_cons]
   split
   ·simp only [List.length_cons];omega
   ·split
    ·simp only [List.length_cons];omega
    ·simp only [List.length_cons];omega
set_option maxHeartbeats 1000000 in
theorem note_any (s:ByteArray) (w:World) (hm:MaxOk w) (h0:0<s.size) (hs:s.size<=2147483648) :
 Calls Tryz.prog 53 #[.string s] w (IntsPost (noteLen s.data.toList) w):=by
 have hhd:s.data.toList.head?=some (s[0]'h0):=by
  have h:0<s.data.toList.length:=by simpa using h0
  rw [List.head?_eq_getElem?,List.getElem?_eq_getElem h];rfl
 obtain ⟨m,hm⟩:=hm
 have HC:=Lib.hid (Tryz.strings_Cut s ⟨#[10]⟩ m w (by omega) hm)
 have HP:=Lib.hid (Tryz.strings_HasPrefix s ⟨#[47,42]⟩ w)
 have hcut:=cut_len s.data.toList [10]
 obtain ⟨c,hc⟩:∃ c,c=s[0]'h0:=⟨_,rfl⟩
 have hcs:((s[0]'h0).toNat:Int)=(c.toNat:Int):=by rw [hc]
 rw [<-hc] at hhd
 clear hc
 by_cases h35:c=35
 ·have t1:((s[0].toNat:Int)==35)=true:=by rw [hcs,h35];rfl
  have HV:Hid (noteLen s.data.toList=(Lib.cut s.data.toList [10]).1.length):=by show _=_;unfold noteLen;rw [hhd,h35,if_pos rfl]
  clear hcs hhd h35 hcut HP hm
  go_enter Tryz.func53,Tryz.ntmps53
  go_wp2_with fail
  refine HC.out.mono ?_
  rintro e w' ⟨rfl,nq,rfl⟩
  go_wp2
  go_ret
  exact ⟨by rw [HV.out];rfl,Gx.drewN_below _ _ _⟩
 ·have t1:((s[0].toNat:Int)==35)=false:=by rw [hcs,u8_beq c 35 35 rfl];simpa using h35
  by_cases hp:Lib.hasPrefix s.data.toList [47,42]=true
  ·have h2:2<=s.size:=by
    have h3:([47,42]:List UInt8).isPrefixOf s.data.toList=true:=hp
    rw [List.isPrefixOf_iff_prefix] at h3
    have:=h3.length_le
    simpa using this
   have hex:(s.extract 2 s.size).data.toList=s.data.toList.drop 2:=Lib.extract_to_end s 2
   have HI:=Lib.hid (Tryz.strings_Index (s.extract 2 s.size) ⟨#[42,47]⟩ m w (by simp;omega) hm)
   rw [hex] at HI
   have hil:=index_le (s.data.toList.drop 2) [42,47]
   have hig:=Lib.index_ge (s.data.toList.drop 2) [42,47]
   simp only [List.length_drop,Array.length_toList] at hil
   have hsz:s.data.size=s.size:=rfl
   rw [hsz] at hil
   have HV:Hid (noteLen s.data.toList=if Lib.index (s.data.toList.drop 2) [42,47]<0 then 0 else (Lib.index (s.data.toList.drop 2) [42,47]).toNat+4):=by
    show _=_;unfold noteLen;rw [hhd,if_neg (by simpa using h35),if_pos hp]
   have hpe:Lib.hasPrefix s.data.toList [47,42]=true:=hp
   rw [show (⟨#[47,42]⟩:ByteArray).data.toList=[47,42] from rfl,hp] at HP
   rw [show (⟨#[42,47]⟩:ByteArray).data.toList=[42,47] from rfl] at HI
   obtain ⟨x,hx⟩:∃ x,x=Lib.index (s.data.toList.drop 2) [42,47]:=⟨_,rfl⟩
   rw [<-hx] at HI hil hig HV
   clear hcs hhd h35 hcut HC hm hp hpe hx hex hsz
   by_cases hx0:x<0
   ·have d1:decide (x<0)=true:=decide_eq_true hx0
    rw [if_pos hx0] at HV
    go_enter Tryz.func53,Tryz.ntmps53
    go_wp2_with fail
    refine HP.out.mono ?_
    rintro e w' ⟨rfl,rfl⟩
    go_wp2_with fail
    refine HI.out.mono ?_
    rintro e w' ⟨rfl,rfl⟩
    go_wp2_with fail
    go_ret
    exact ⟨by rw [HV.out];rfl,Below.refl _ _⟩
   ·have d1:decide (x<0)=false:=decide_eq_false hx0
    rw [if_neg hx0] at HV
    go_enter Tryz.func53,Tryz.ntmps53
    go_wp2_with fail
    refine HP.out.mono ?_
    rintro e w' ⟨rfl,rfl⟩
    go_wp2_with fail
    refine HI.out.mono ?_
    rintro e w' ⟨rfl,rfl⟩
    go_wp2_with fail
    go_ret
    refine ⟨?_,Below.refl _ _⟩
    rw [HV.out,show ((x.toNat+4:Nat):Int)=x+4 by omega];rfl
  ·have HV:Hid (noteLen s.data.toList=0):=by
    show _=_;unfold noteLen;rw [hhd,if_neg (by simpa using h35),if_neg hp]
   have hp':Lib.hasPrefix s.data.toList [47,42]=false:=by simpa using hp
   rw [show (⟨#[47,42]⟩:ByteArray).data.toList=[47,42] from rfl,hp'] at HP
   clear hcs hhd h35 hcut HC hm hp hp'
   go_enter Tryz.func53,Tryz.ntmps53
   go_wp2_with fail
   refine HP.out.mono ?_
   rintro e w' ⟨rfl,rfl⟩
   go_wp2_with fail
   go_ret
   exact ⟨by rw [HV.out];rfl,Below.refl _ _⟩
def runLen (k:Int) (l:List UInt8):Nat:=(l.takeWhile (fun b=>decide (classOf (b.toNat:Int)=k))).length
def nextTok (l:List UInt8):Int×Nat :=
 match l with
 | []=>(0,0)
 | b::r =>
   let k:=classOf (b.toNat:Int)
   if k=1\/k=4 then (k,1+runLen k r)
   else if k=3 then (if noteLen (b::r)=0 then (7,1) else (3,noteLen (b::r)))
   else if k=5 then (if textLen (b::r)=0 then (7,1) else (5,textLen (b::r)))
   else (k,1)
def NextPostTk (t:Int×Nat) (w:World) (e:Ending) (w':World):Prop:=e=.returned (.tuple #[.int .i64 t.1,.int .i64 t.2])/\Below w.heap.size w w'
theorem runLen_cons (k:Int) (b:UInt8) (r:List UInt8):runLen k (b::r)=if classOf (b.toNat:Int)=k then 1+runLen k r else 0:=by
 unfold runLen
 rw [List.takeWhile_cons]
 by_cases h:classOf (b.toNat:Int)=k
 ·simp [h];omega
 ·simp [h]
set_option maxHeartbeats 2000000 in
theorem next_anyTk (s:ByteArray) (w:World) (hm:MaxOk w) (h0:0<s.size) (hs:s.size<=2147483648) :
 Calls Tryz.prog 28 #[.string s] w (NextPostTk (nextTok s.data.toList) w):=by
 have hlen:s.data.toList.length=s.size:=Array.length_toList
 obtain ⟨b,r,hbr⟩:∃ b r,s.data.toList=b::r:=by
  cases h:s.data.toList with
  | nil=>rw [h] at hlen;simp at hlen;omega
  | cons b r=>exact ⟨b,r,rfl⟩
 have hb:s[0]'h0=b:=by
  have h1:s.data.toList.head?=some b:=by rw [hbr];rfl
  have h2:0<s.data.toList.length:=by omega
  have h3:s.data.toList.head?=some (s[0]'h0):=by
   rw [List.head?_eq_getElem?,List.getElem?_eq_getElem h2];rfl
  rw [h3] at h1
  simpa using h1
 have hbc:((s[0]'h0).toNat:Int)=(b.toNat:Int):=by rw [hb]
 have hb255:(b.toNat:Int)<=255:=by have:=b.toNat_lt;omega
 have HCL:=Lib.hid (class_any (b.toNat:Int) w (by omega) hb255)
 have HNote:=Lib.hid (note_any s w hm h0 hs)
 have HText:=Lib.hid (text_any s w h0 hs)
 have HLEN:=Lib.hid hlen
 have HBR:=Lib.hid hbr
 unfold ClassPost at HCL
 have HNT:Hid (nextTok s.data.toList=if classOf (b.toNat:Int)=1\/classOf (b.toNat:Int)=4 then (classOf (b.toNat:Int),1+runLen (classOf (b.toNat:Int)) r)
  else if classOf (b.toNat:Int)=3 then (if noteLen s.data.toList=0 then (7,1) else (3,noteLen s.data.toList))
  else if classOf (b.toNat:Int)=5 then (if textLen s.data.toList=0 then (7,1) else (5,textLen s.data.toList)) else (classOf (b.toNat:Int),1)):=by
  show _=_
  rw [hbr];rfl
 obtain ⟨k,hk⟩:∃ k,k=classOf (b.toNat:Int):=⟨_,rfl⟩
 rw [<-hk] at HCL HNT
 have HK:=Lib.hid hk
 clear hlen hbr hb hk
 by_cases hrun:k=1\/k=4
 ·have HNT2:Hid (nextTok s.data.toList=(k,1+runLen k r)):=by show _=_;rw [HNT.out,if_pos hrun]
  clear HNT HNote HText
  have hdrop:s.data.toList.drop 1=r:=by rw [HBR.out];rfl
  have HD:=Lib.hid hdrop
  clear hdrop
  rcases hrun with rfl|rfl
  ·go_enter Tryz.func28,Tryz.ntmps28
   go_wp2_with fail
   refine HCL.out.mono ?_
   rintro e w' ⟨rfl,rfl⟩
   clear HCL
   go_wp2_with fail
   go_loop [3] (fun i=>∃ n:Nat,1<=n/\n<=s.size/\i=.int .i64 n/\Hid (1+runLen 1 r=n+runLen 1 (s.data.toList.drop n))) (fun i=>s.size - (intOf i).toNat)
   case atStart=>exact ⟨1,by omega,by omega,rfl,by show _=_;rw [HD.out]⟩
   case round =>
    obtain ⟨n,hn1,hn,rfl,hrl⟩:=hrel
    by_cases hlt:n<s.size
    ·have hlt':n<s.data.toList.length:=by rw [HLEN.out];exact hlt
     obtain ⟨c,hc⟩:∃ c,c=s[n]'hlt:=⟨_,rfl⟩
     have eb:s.data.toList[n]=c:=hc.symm
     have hrl2:=hrl.out
     rw [drop_consTk _ n hlt',runLen_cons,eb] at hrl2
     have hcs:((s[n]'hlt).toNat:Int)=(c.toNat:Int):=by rw [hc]
     have hc255:(c.toNat:Int)<=255:=by have:=c.toNat_lt;omega
     have HC2:=Lib.hid (class_any (c.toNat:Int) w (by omega) hc255)
     unfold ClassPost at HC2
     clear hc eb hrl hlt'
     by_cases hq:classOf (c.toNat:Int)=1
     ·rw [if_pos hq] at hrl2
      rw [hq] at HC2
      have HR:=Lib.hid hrl2
      clear hrl2 hq
      go_wp2_with fail
      refine HC2.out.mono ?_
      rintro e w' ⟨rfl,rfl⟩
      go_wp2_with fail
      go_round
      case rel=>exact ⟨n+1,by omega,by omega,by go_num,by show _=_;rw [HR.out];omega⟩
      case measure=>simp [intOf];omega
     ·rw [if_neg hq] at hrl2
      obtain ⟨q,hqe⟩:∃ q,q=classOf (c.toNat:Int):=⟨_,rfl⟩
      rw [<-hqe] at HC2 hq
      have hqb:(q==1)=false:=by simpa using hq
      have HR:=Lib.hid hrl2
      clear hrl2 hqe hq
      go_wp2_with fail
      refine HC2.out.mono ?_
      rintro e w' ⟨rfl,rfl⟩
      go_wp2_with fail
      go_ret2
      refine ⟨?_,Below.refl _ _⟩
      rw [HNT2.out]
      simp only [HR.out,Nat.add_zero]
      rfl
    ·obtain rfl:n=s.size:=by omega
     have hrl2:=hrl.out
     rw [List.drop_eq_nil_of_le (by rw [HLEN.out];exact Nat.le_refl _)] at hrl2
     have HR:Hid (1+runLen 1 r=s.size):=hrl2
     clear hrl hrl2
     go_wp2_with fail
     go_ret2
     refine ⟨?_,Below.refl _ _⟩
     rw [HNT2.out]
     simp only [HR.out]
     rfl
  ·go_enter Tryz.func28,Tryz.ntmps28
   go_wp2_with fail
   refine HCL.out.mono ?_
   rintro e w' ⟨rfl,rfl⟩
   clear HCL
   go_wp2_with fail
   go_loop [3] (fun i=>∃ n:Nat,1<=n/\n<=s.size/\i=.int .i64 n/\Hid (1+runLen 4 r=n+runLen 4 (s.data.toList.drop n))) (fun i=>s.size - (intOf i).toNat)
   case atStart=>exact ⟨1,by omega,by omega,rfl,by show _=_;rw [HD.out]⟩
   case round =>
    obtain ⟨n,hn1,hn,rfl,hrl⟩:=hrel
    by_cases hlt:n<s.size
    ·have hlt':n<s.data.toList.length:=by rw [HLEN.out];exact hlt
     obtain ⟨c,hc⟩:∃ c,c=s[n]'hlt:=⟨_,rfl⟩
     have eb:s.data.toList[n]=c:=hc.symm
     have hrl2:=hrl.out
     rw [drop_consTk _ n hlt',runLen_cons,eb] at hrl2
     have hcs:((s[n]'hlt).toNat:Int)=(c.toNat:Int):=by rw [hc]
     have hc255:(c.toNat:Int)<=255:=by have:=c.toNat_lt;omega
     have HC2:=Lib.hid (class_any (c.toNat:Int) w (by omega) hc255)
     unfold ClassPost at HC2
     clear hc eb hrl hlt'
     by_cases hq:classOf (c.toNat:Int)=4
     ·rw [if_pos hq] at hrl2
      rw [hq] at HC2
      have HR:=Lib.hid hrl2
      clear hrl2 hq
      go_wp2_with fail
      refine HC2.out.mono ?_
      rintro e w' ⟨rfl,rfl⟩
      go_wp2_with fail
      go_round
      case rel=>exact ⟨n+1,by omega,by omega,by go_num,by show _=_;rw [HR.out];omega⟩
      case measure=>simp [intOf];omega
     ·rw [if_neg hq] at hrl2
      obtain ⟨q,hqe⟩:∃ q,q=classOf (c.toNat:Int):=⟨_,rfl⟩
      rw [<-hqe] at HC2 hq
      have hqb:(q==4)=false:=by simpa using hq
      have HR:=Lib.hid hrl2
      clear hrl2 hqe hq
      go_wp2_with fail
      refine HC2.out.mono ?_
      rintro e w' ⟨rfl,rfl⟩
      go_wp2_with fail
      go_ret2
      refine ⟨?_,Below.refl _ _⟩
      rw [HNT2.out]
      simp only [HR.out,Nat.add_zero]
      rfl
    ·obtain rfl:n=s.size:=by omega
     have hrl2:=hrl.out
     rw [List.drop_eq_nil_of_le (by rw [HLEN.out];exact Nat.le_refl _)] at hrl2
     have HR:Hid (1+runLen 4 r=s.size):=hrl2
     clear hrl hrl2
     go_wp2_with fail
     go_ret2
     refine ⟨?_,Below.refl _ _⟩
     rw [HNT2.out]
     simp only [HR.out]
     rfl
 ·have k1:(k==1)=false:=by rw [beq_eq_false_iff_ne];omega
  have k4:(k==4)=false:=by rw [beq_eq_false_iff_ne];omega
  rw [if_neg hrun] at HNT
  by_cases h3:k=3
  ·subst h3
   rw [if_pos rfl] at HNT
   obtain ⟨n,hn⟩:∃ n,n=noteLen s.data.toList:=⟨_,rfl⟩
   rw [<-hn] at HNT HNote
   clear hn HText k1 k4 hrun
   by_cases hz:n=0
   ·subst hz
    rw [if_pos rfl] at HNT
    go_enter Tryz.func28,Tryz.ntmps28
    go_wp2_with fail
    refine HCL.out.mono ?_
    rintro e w' ⟨rfl,rfl⟩
    go_wp2_with fail
    refine HNote.out.mono ?_
    rintro e w' ⟨rfl,hb⟩
    go_wp2_with fail
    go_ret2
    exact ⟨by rw [HNT.out];rfl,hb⟩
   ·rw [if_neg hz] at HNT
    have hz':((n:Int)==0)=false:=by rw [beq_eq_false_iff_ne];omega
    go_enter Tryz.func28,Tryz.ntmps28
    go_wp2_with fail
    refine HCL.out.mono ?_
    rintro e w' ⟨rfl,rfl⟩
    go_wp2_with fail
    refine HNote.out.mono ?_
    rintro e w' ⟨rfl,hb⟩
    go_wp2_with fail
    go_ret2
    exact ⟨by rw [HNT.out];rfl,hb⟩
  rw [if_neg h3] at HNT
  have k3:(k==3)=false:=by simpa using h3
  by_cases h5:k=5
  ·subst h5
   rw [if_pos rfl] at HNT
   obtain ⟨n,hn⟩:∃ n,n=textLen s.data.toList:=⟨_,rfl⟩
   rw [<-hn] at HNT HText
   clear hn HNote k1 k4 k3 h3 hrun
   by_cases hz:n=0
   ·subst hz
    rw [if_pos rfl] at HNT
    go_enter Tryz.func28,Tryz.ntmps28
    go_wp2_with fail
    refine HCL.out.mono ?_
    rintro e w' ⟨rfl,rfl⟩
    go_wp2_with fail
    refine HText.out.mono ?_
    rintro e w' ⟨rfl,rfl⟩
    go_wp2_with fail
    go_ret2
    exact ⟨by rw [HNT.out];rfl,Below.refl _ _⟩
   ·rw [if_neg hz] at HNT
    have hz':((n:Int)==0)=false:=by rw [beq_eq_false_iff_ne];omega
    go_enter Tryz.func28,Tryz.ntmps28
    go_wp2_with fail
    refine HCL.out.mono ?_
    rintro e w' ⟨rfl,rfl⟩
    go_wp2_with fail
    refine HText.out.mono ?_
    rintro e w' ⟨rfl,rfl⟩
    go_wp2_with fail
    go_ret2
    exact ⟨by rw [HNT.out];rfl,Below.refl _ _⟩
  rw [if_neg h5] at HNT
  have k5:(k==5)=false:=by simpa using h5
  clear HText HNote hrun h3 h5
  go_enter Tryz.func28,Tryz.ntmps28
  go_wp2_with fail
  refine HCL.out.mono ?_
  rintro e w' ⟨rfl,rfl⟩
  go_wp2_with fail
  go_ret2
  exact ⟨by rw [HNT.out];rfl,Below.refl _ _⟩
abbrev Tok:=Int×Nat×Nat
def tokCells (l:List Tok):List Value:=l.flatMap fun t=>[.int .i64 t.1,.int .i64 t.2.1,.int .i64 t.2.2]
theorem tokCells_snoc (l:List Tok) (t:Tok):tokCells (l++[t])=tokCells l++[.int .i64 t.1,.int .i64 t.2.1,.int .i64 t.2.2]:=by simp [tokCells]
theorem tokCells_len (l:List Tok):(tokCells l).length=l.length * 3:=by
 induction l with
 | nil=>rfl
 | cons t l ih=>simp [tokCells] at ih ⊢;omega
theorem index_fits (l sub:List UInt8) (h:0<=Lib.index l sub):Lib.index l sub+sub.length<=l.length:=by
 induction l with
 | nil =>
   unfold Lib.index at h ⊢
   split at h
   ·rename_i h1
    have:sub=[]:=by simpa using h1
    subst this;simp
   ·omega
 | cons b l ih =>
   rw [index_cons] at h ⊢
   by_cases h1:sub.isPrefixOf (b::l)=true
   ·rw [if_pos h1]
    have:=(List.isPrefixOf_iff_prefix.1 h1).length_le
    omega
   ·rw [if_neg h1] at h ⊢
    by_cases h2:Lib.index l sub=-1
    ·rw [h2] at h;simp at h
    ·have h3:(Lib.index l sub==-1)=false:=by simpa using h2
     rw [h3] at h ⊢
     simp only [Bool.false_eq_true,↓reduceIte] at h ⊢
     have:=Lib.index_ge l sub
     have:=ih (by omega)
     simp only [List.length_cons];omega
theorem noteLen_le (l:List UInt8):noteLen l<=l.length:=by
 unfold noteLen
 split
 ·exact cut_len _ _
 ·split
  ·rename_i hp
   have h2:2<=l.length:=by
    have:=(List.isPrefixOf_iff_prefix.1 (show ([47,42]:List UInt8).isPrefixOf l=true from hp)).length_le
    simpa using this
   split
   ·omega
   ·have:=index_fits (l.drop 2) [42,47] (by omega)
    simp at this;omega
  ·omega
theorem textScan_le:∀ (l:List UInt8) (p:Bool) (i:Nat),textScan l p i<=i+l.length
 | [],_,_=>by simp [textScan]
 | b::r,p,i=>by
   unfold textScan
   have h1:=textScan_le r false (i+1)
   have h2:=textScan_le r (b==92) (i+1)
   simp only [List.length_cons]
   split
   ·omega
   ·split
    ·omega
    ·split<;>omega
theorem textLen_le (l:List UInt8) (h:0<l.length):textLen l<=l.length:=by
 unfold textLen
 have:=textScan_le (l.drop 1) false 1
 rw [List.length_drop] at this;omega
theorem runLen_le (k:Int) (l:List UInt8):runLen k l<=l.length:=by
 unfold runLen
 exact (List.takeWhile_sublist _).length_le
theorem nextTok_fits (l:List UInt8) (h:0<l.length):1<=(nextTok l).2/\(nextTok l).2<=l.length:=by
 cases l with
 | nil=>simp at h
 | cons b r =>
   have h1:=runLen_le (classOf (b.toNat:Int)) r
   have h2:=noteLen_le (b::r)
   have h3:=textLen_le (b::r) h
   unfold nextTok
   simp only [List.length_cons] at *
   split
   ·exact ⟨by simp only [];omega,by simp only [];omega⟩
   ·split
    ·split<;>exact ⟨by simp only [];omega,by simp only [];omega⟩
    ·split
     ·split<;>exact ⟨by simp only [];omega,by simp only [];omega⟩
     ·exact ⟨by simp only [];omega,by simp only [];omega⟩
def toksF:Nat->List UInt8->Nat->List Tok
 | 0,_,_=>[]
 | f+1,l,at_=>if l.length<=at_ then [] else ((nextTok (l.drop at_)).1,at_,at_+(nextTok (l.drop at_)).2)::toksF f l (at_+(nextTok (l.drop at_)).2)
theorem toksF_fuel:∀ (f g:Nat) (l:List UInt8) (at_:Nat),l.length<=at_+f->l.length<=at_+g->toksF f l at_=toksF g l at_
 | 0,0,_,_,_,_=>rfl
 | 0,g+1,l,at_,h,_=>by simp [toksF];omega
 | f+1,0,l,at_,_,h=>by simp [toksF];omega
 | f+1,g+1,l,at_,h1,h2=>by
   unfold toksF
   by_cases h:l.length<=at_
   ·rw [if_pos h,if_pos h]
   ·have:=nextTok_fits (l.drop at_) (by simp;omega)
    rw [if_neg h,if_neg h,toksF_fuel f g l _ (by omega) (by omega)]
def toksFrom (l:List UInt8) (at_:Nat):List Tok:=toksF l.length l at_
def toks (l:List UInt8):List Tok:=toksFrom l 0
theorem toksFrom_end (l:List UInt8) (at_:Nat) (h:l.length<=at_):toksFrom l at_=[]:=by
 unfold toksFrom
 cases hl:l.length with
 | zero=>rfl
 | succ n=>unfold toksF;rw [if_pos h]
theorem toksFrom_step (l:List UInt8) (at_:Nat) (h:at_<l.length) :
 toksFrom l at_=((nextTok (l.drop at_)).1,at_,at_+(nextTok (l.drop at_)).2)::toksFrom l (at_+(nextTok (l.drop at_)).2):=by
 have hn:=nextTok_fits (l.drop at_) (by simp;omega)
 unfold toksFrom
 obtain ⟨f,hf⟩:∃ f,l.length=f+1:=⟨l.length - 1,by omega⟩
 conv=>lhs;rw [hf];unfold toksF
 rw [if_neg (by omega),toksF_fuel f l.length l _ (by omega) (by omega)]
theorem Tryz.info_tok:(Tryz.prog.info? 40).map (fun i=>(i.zero,i.size,i.bytes))=some (some (.agg #[.int .i64 0,.int .i64 0,.int .i64 0]),3,24):=by kernel_rfl
def CutPost (l:List UInt8) (w:World) (e:Ending) (w':World):Prop :=
 (l.length<=20000/\∃ vo vc,e=.returned (.tuple #[.slice vo (toks l).length vc,.int .i64 0])/\w'.ownsRow w.heap.size 40 3 (.slice vo (toks l).length vc) (toks l).length (tokCells (toks l))/\Below w.heap.size w w') \/
 (20000<l.length/\e=.returned (.tuple #[.slice none 0 0,.int .i64 2])/\w=w')
set_option maxHeartbeats 2000000 in
theorem cut_any (s:ByteArray) (w:World) (hm:MaxOk w) :
 Calls Tryz.prog 18 #[.string s] w (CutPost s.data.toList w):=by
 have hlen:s.data.toList.length=s.size:=Array.length_toList
 by_cases hL:20000<s.size
 ·have t:decide ((20000:Int)<(s.size:Int))=true:=decide_eq_true (by omega)
  have HL:Hid (20000<s.data.toList.length):=by show _<_;omega
  clear hlen
  go_enter Tryz.func18,Tryz.ntmps18
  go_wp2
  go_ret2
  exact .inr ⟨HL.out,rfl,rfl⟩
 have HLEN:=Lib.hid hlen
 have hMX:=Lib.hid hm
 clear hlen hm
 go_enter Tryz.func18,Tryz.ntmps18
 go_wp2
 go_loopw [4,5] (fun v i wr=>∃ (at_:Nat) (out:List Tok) (vo:Option Addr) (vc:Nat),at_<=s.size/\i=.int .i64 at_/\v=.slice vo out.length vc/\out.length<=at_ /\
  wr.ownsRow w.heap.size 40 3 (.slice vo out.length vc) out.length (tokCells out)/\Hid (toks s.data.toList=out++toksFrom s.data.toList at_)/\Below w.heap.size w wr)
  (fun _ i _=>s.size - (intOf i).toNat)
 case atStart=>exact ⟨0,[],none,0,Nat.zero_le _,rfl,rfl,Nat.le_refl _,World.ownsRow_nil _ _ _ _,rfl,Below.refl _ _⟩
 case round =>
  obtain ⟨at_,out,vo,vc,hat,rfl,rfl,hol,hown,htk,hb⟩:=hrel
  by_cases hlt:at_<s.size
  ·have hex:(s.extract at_ s.size).data.toList=s.data.toList.drop at_:=Lib.extract_to_end s at_
   have hexs:(s.extract at_ s.size).size=s.size - at_:=by simp
   have HN:=Lib.hid (next_anyTk (s.extract at_ s.size) wr (hMX.out.keep hb) (by omega) (by omega))
   rw [hex] at HN
   unfold NextPostTk at HN
   have hfit:=nextTok_fits (s.data.toList.drop at_) (by rw [List.length_drop,HLEN.out];omega)
   rw [List.length_drop,HLEN.out] at hfit
   have hst:=toksFrom_step s.data.toList at_ (by rw [HLEN.out];exact hlt)
   obtain ⟨k,hk⟩:∃ k,k=(nextTok (s.data.toList.drop at_)).1:=⟨_,rfl⟩
   obtain ⟨n,hn⟩:∃ n,n=(nextTok (s.data.toList.drop at_)).2:=⟨_,rfl⟩
   rw [<-hk,<-hn] at HN hst
   rw [<-hn] at hfit
   have hT:Hid (toks s.data.toList=(out++[(k,at_,at_+n)])++toksFrom s.data.toList (at_+n)):=by
    show _=_
    rw [htk.out,hst];simp
   obtain ⟨hf1,hf2⟩:=hfit
   clear hst hk hn htk hex hexs
   have hsz:=hb.size
   go_wp2_with fail
   refine HN.out.mono ?_
   rintro e w1 ⟨rfl,hb1⟩
   have hown1:=Gx.own_keep hown hb1
   have hb2:=hb.trans (hb1.mono hsz)
   have hsz2:=hb2.size
   clear hown hb hb1 HN hsz
   go_wp2_with (first
    | (at_builtin;refine Gx.wpList_push w1 rfl _ _ 36 rfl w.heap.size 40 (.agg #[.int .i64 0,.int .i64 0,.int .i64 0]) 3 24 Tryz.underlying36 Tryz.info_tok rfl (by decide) _ _ _ [.int .i64 k,.int .i64 at_,.int .i64 ((at_:Int)+n)] _ rfl rfl (by exact hown1) rfl rfl ?c2 ?c3 ?c4 ?c5 ?_))
   case c2=>intro u hu;simp at hu;rcases hu with rfl|rfl|rfl<;>rfl
   case c3=>omega
   case c4=>omega
   case c5=>omega
   intro v' w' hown5 hg5 _ _
   have hb5:Below w.heap.size w w':=hb2.grown hg5 hsz2 (fun k e=>(hown1.lt k e).1)
   obtain ⟨vo5,vc5,rfl⟩:=Gx.own_form hown5
   have hl5:(out++[(k,at_,at_+n)]).length=out.length+1:=by simp
   have hown6:w'.ownsRow w.heap.size 40 3 (.slice vo5 (out++[(k,at_,at_+n)]).length vc5) (out++[(k,at_,at_+n)]).length (tokCells (out++[(k,at_,at_+n)])):=by
    rw [hl5,tokCells_snoc]
    have e:((at_+n:Nat):Int)=(at_:Int)+n:=by omega
    rw [e];exact hown5
   have HL5:=Lib.hid hl5
   clear hl5 hown5 hown1 hg5 hb2
   go_wp2
   go_roundw
   case rel=>exact ⟨at_+n,out++[(k,at_,at_+n)],vo5,vc5,by omega,by go_num,by rw [HL5.out],by rw [HL5.out];omega,hown6,hT,hb5⟩
   case measure=>simp [intOf];omega
  ·obtain rfl:at_=s.size:=by omega
   have hT:toks s.data.toList=out:=by rw [htk.out,toksFrom_end _ _ (by rw [HLEN.out];exact Nat.le_refl _)];simp
   have HT:=Lib.hid hT
   clear hT htk
   go_wp2
   go_ret2
   refine .inl ⟨by rw [HLEN.out];omega,vo,vc,?_,?_,hb⟩
   ·rw [HT.out];rfl
   ·rw [HT.out];exact hown
theorem isPrefixOf_take (sub l:List UInt8) (m:Nat) (h:sub.length<=m):sub.isPrefixOf (l.take m)=sub.isPrefixOf l:=by
 rw [Bool.eq_iff_iff,List.isPrefixOf_iff_prefix,List.isPrefixOf_iff_prefix]
 constructor
 ·intro h1;exact h1.trans (List.take_prefix m l)
 ·intro h1
  obtain ⟨t,rfl⟩:=h1
  exact ⟨t.take (m - sub.length),by rw [List.take_append,List.take_of_length_le h]⟩
theorem index_take (sub:List UInt8):∀ (l:List UInt8) (m:Nat),0<=Lib.index l sub->Lib.index l sub+sub.length<=m->Lib.index (l.take m) sub=Lib.index l sub:=by
 intro l
 induction l with
 | nil=>intro m _ _;rw [List.take_nil]
 | cons b l ih =>
   intro m h0 hm
   rw [index_cons] at h0 hm ⊢
   by_cases h1:sub.isPrefixOf (b::l)=true
   ·rw [if_pos h1] at hm ⊢
    have h2:sub.isPrefixOf ((b::l).take m)=true:=by rw [isPrefixOf_take _ _ _ (by omega)];exact h1
    cases m with
    | zero =>
      have:sub=[]:=List.eq_nil_of_length_eq_zero (by omega)
      subst this;rfl
    | succ m=>rw [List.take_succ_cons,index_cons] ;rw [List.take_succ_cons] at h2;rw [if_pos h2]
   ·rw [if_neg h1] at h0 hm ⊢
    by_cases h3:Lib.index l sub=-1
    ·rw [h3] at h0;simp at h0
    ·have h4:(Lib.index l sub==-1)=false:=by simpa using h3
     rw [h4] at h0 hm ⊢
     simp only [Bool.false_eq_true,↓reduceIte] at h0 hm ⊢
     have h5:=Lib.index_ge l sub
     obtain ⟨q,rfl⟩:∃ q,m=q+1:=⟨m - 1,by omega⟩
     have h6:=ih q (by omega) (by omega)
     have h7:sub.isPrefixOf ((b::l).take (q+1))=false:=by
      rw [isPrefixOf_take _ _ _ (by omega)];exact Bool.eq_false_iff.2 h1
     rw [List.take_succ_cons] at h7 ⊢
     rw [index_cons,h7,h6,h4]
     simp
theorem index_none (c:UInt8):∀ (l:List UInt8) (e:Nat),Lib.index l [c]=(e:Int)->Lib.index (l.take e) [c]=-1:=by
 intro l
 induction l with
 | nil=>intro e h;rw [List.take_nil];rfl
 | cons b l ih =>
   intro e h
   rw [index_cons] at h
   by_cases h1:([c]:List UInt8).isPrefixOf (b::l)=true
   ·rw [if_pos h1] at h
    have:e=0:=by omega
    subst this
    rfl
   ·rw [if_neg h1] at h
    by_cases h3:Lib.index l [c]=-1
    ·rw [h3] at h;simp at h
    ·have h4:(Lib.index l [c]==-1)=false:=by simpa using h3
     rw [h4] at h
     simp only [Bool.false_eq_true,↓reduceIte] at h
     have h5:=Lib.index_ge l [c]
     obtain ⟨q,rfl⟩:∃ q,e=q+1:=⟨e - 1,by omega⟩
     have h6:=ih q (by omega)
     have h7:([c]:List UInt8).isPrefixOf ((b::l).take (q+1))=false:=by
      rw [isPrefixOf_take _ _ _ (by simp)];exact Bool.eq_false_iff.2 h1
     rw [List.take_succ_cons] at h7 ⊢
     rw [index_cons,h7,h6]
     rfl
theorem cut_take (l:List UInt8) (m:Nat) (h:(Lib.cut l [10]).1.length<=m):(Lib.cut (l.take m) [10]).1.length=(Lib.cut l [10]).1.length:=by
 have hlow:=Lib.index_ge l [10]
 by_cases h0:0<=Lib.index l [10]
 ·obtain ⟨e,he⟩:=Int.eq_ofNat_of_zero_le h0
  have hfit:=index_fits l [10] h0
  have hcl:(Lib.cut l [10]).1.length=e:=by
   unfold Lib.cut
   rw [if_pos h0,he]
   simp
   simp at hfit;omega
  rw [hcl] at h ⊢
  by_cases hm:e+1<=m
  ·have h2:=index_take [10] l m h0 (by simp;omega)
   unfold Lib.cut
   rw [h2,if_pos h0,he]
   simp
   simp at hfit;omega
  ·have hme:m=e:=by omega
   subst hme
   have h2:=index_none 10 l m he
   unfold Lib.cut
   rw [h2,if_neg (by decide)]
   simp
   simp at hfit;omega
 ·have hcl:(Lib.cut l [10]).1=l:=by unfold Lib.cut;rw [if_neg h0]
  rw [hcl] at h ⊢
  rw [List.take_of_length_le h,hcl]
theorem noteLen_take (l:List UInt8) (m:Nat) (h0:0<noteLen l) (h:noteLen l<=m):noteLen (l.take m)=noteLen l:=by
 have hm:0<m:=by omega
 have hh:(l.take m).head?=l.head?:=by
  cases l with
  | nil=>simp
  | cons b r=>obtain ⟨q,rfl⟩:∃ q,m=q+1:=⟨m - 1,by omega⟩;rfl
 unfold noteLen at h h0 ⊢
 rw [hh]
 by_cases h1:l.head?=some 35
 ·rw [if_pos h1] at h h0 ⊢
  rw [if_pos h1]
  exact cut_take l m h
 ·rw [if_neg h1] at h h0 ⊢
  rw [if_neg h1]
  by_cases h2:Lib.hasPrefix l [47,42]=true
  ·rw [if_pos h2] at h h0 ⊢
   by_cases h3:Lib.index (l.drop 2) [42,47]<0
   ·rw [if_pos h3] at h0;omega
   ·rw [if_neg h3] at h h0 ⊢
    have h4:Lib.hasPrefix (l.take m) [47,42]=true:=by
     show ([47,42]:List UInt8).isPrefixOf (l.take m)=true
     rw [isPrefixOf_take _ _ _ (by simp;omega)];exact h2
    have h5:(l.take m).drop 2=(l.drop 2).take (m - 2):=by rw [List.drop_take]
    have h6:=index_take [42,47] (l.drop 2) (m - 2) (by omega) (by simp;omega)
    rw [if_pos h4,h5,h6,if_neg h3]
  ·rw [if_neg h2] at h0;omega
theorem textScan_take:∀ (l:List UInt8) (p:Bool) (i m:Nat),0<textScan l p i->textScan l p i<=i+m->textScan (l.take m) p i=textScan l p i
 | [],p,i,m,h0,_=>by simp [textScan] at h0
 | b::r,p,i,m,h0,h=>by
   have key:∀ p2,0<textScan r p2 (i+1)->i+1<textScan r p2 (i+1)\/True:=fun _ _=>.inr trivial
   unfold textScan at h0 h
   by_cases h1:b=10
   ·rw [if_pos h1] at h0;omega
   ·rw [if_neg h1] at h0 h
    by_cases h2:p=true
    ·rw [if_pos h2] at h0 h
     have hlow:=textScan_low r false (i+1) h0
     obtain ⟨q,rfl⟩:∃ q,m=q+1:=⟨m - 1,by omega⟩
     have ih:=textScan_take r false (i+1) q h0 (by omega)
     rw [List.take_succ_cons]
     unfold textScan
     rw [if_neg h1,if_neg h1,if_pos h2,if_pos h2,ih]
    ·rw [if_neg h2] at h0 h
     by_cases h3:b=34
     ·rw [if_pos h3] at h0 h
      obtain ⟨q,rfl⟩:∃ q,m=q+1:=⟨m - 1,by omega⟩
      rw [List.take_succ_cons]
      unfold textScan
      rw [if_neg h1,if_neg h1,if_neg h2,if_neg h2,if_pos h3,if_pos h3]
     ·rw [if_neg h3] at h0 h
      have hlow:=textScan_low r (b==92) (i+1) h0
      obtain ⟨q,rfl⟩:∃ q,m=q+1:=⟨m - 1,by omega⟩
      have ih:=textScan_take r (b==92) (i+1) q h0 (by omega)
      rw [List.take_succ_cons]
      unfold textScan
      rw [if_neg h1,if_neg h1,if_neg h2,if_neg h2,if_neg h3,if_neg h3,ih]
where textScan_low:∀ (l:List UInt8) (p:Bool) (i:Nat),0<textScan l p i->i<textScan l p i
 | [],p,i,h=>by simp [textScan] at h
 | b::r,p,i,h=>by
   unfold textScan at h ⊢
   by_cases h1:b=10
   ·rw [if_pos h1] at h;omega
   ·rw [if_neg h1] at h ⊢
    by_cases h2:p=true
    ·rw [if_pos h2] at h ⊢
     have:=textScan_low r false (i+1) h
     omega
    ·rw [if_neg h2] at h ⊢
     by_cases h3:b=34
     ·rw [if_pos h3];omega
     ·rw [if_neg h3] at h ⊢
      have:=textScan_low r (b==92) (i+1) h
      omega
theorem textLen_take (l:List UInt8) (m:Nat) (h0:0<textLen l) (h:textLen l<=m):textLen (l.take m)=textLen l:=by
 unfold textLen at *
 rw [List.drop_take]
 exact textScan_take _ _ _ _ h0 (by omega)
theorem runLen_take (k:Int):∀ (r:List UInt8) (m:Nat),runLen k r<=m->runLen k (r.take m)=runLen k r:=by
 intro r
 induction r with
 | nil=>intro m _;rw [List.take_nil]
 | cons b r ih =>
   intro m h
   rw [runLen_cons] at h ⊢
   by_cases hc:classOf (b.toNat:Int)=k
   ·rw [if_pos hc] at h ⊢
    obtain ⟨q,rfl⟩:∃ q,m=q+1:=⟨m - 1,by omega⟩
    rw [List.take_succ_cons,runLen_cons,if_pos hc,ih q (by omega)]
   ·rw [if_neg hc]
    cases m with
    | zero=>rfl
    | succ q=>rw [List.take_succ_cons,runLen_cons,if_neg hc]
theorem nextTok_take (l:List UInt8) (m:Nat) (hl:0<l.length) (hm:(nextTok l).2<=m) (hk:(nextTok l).1≠7\/m=(nextTok l).2):nextTok (l.take m)=nextTok l:=by
 have hn:=nextTok_fits l hl
 cases l with
 | nil=>simp at hl
 | cons b r =>
   obtain ⟨q,rfl⟩:∃ q,m=q+1:=⟨m - 1,by omega⟩
   have htk:(b::r).take (q+1)=b::r.take q:=List.take_succ_cons
   rw [htk]
   unfold nextTok at hm hk ⊢
   simp only [] at hm hk ⊢
   by_cases h1:classOf (b.toNat:Int)=1\/classOf (b.toNat:Int)=4
   ·rw [if_pos h1] at hm ⊢
    rw [if_pos h1,runLen_take _ _ _ (by simp only [] at hm;omega)]
   ·rw [if_neg h1] at hm hk ⊢
    rw [if_neg h1]
    by_cases h3:classOf (b.toNat:Int)=3
    ·rw [if_pos h3] at hm hk ⊢
     rw [if_pos h3]
     by_cases hz:noteLen (b::r)=0
     ·rw [if_pos hz] at hm hk ⊢
      rcases hk with hk|hk
      ·exact absurd rfl hk
      ·simp only [] at hk
       obtain rfl:q=0:=by omega
       have h35:b≠35:=by
        intro h;subst h
        unfold noteLen at hz
        rw [if_pos (show (35::r).head?=some 35 from rfl)] at hz
        have:=cut_len (35::r) [10]
        have hp:(0:Nat)<(Lib.cut (35::r) [10]).1.length:=by
         unfold Lib.cut
         rw [index_cons]
         have h4:([10]:List UInt8).isPrefixOf (35::r)=false:=by simp [List.isPrefixOf]
         rw [h4]
         simp only [Bool.false_eq_true,↓reduceIte]
         have h5:=Lib.index_ge r [10]
         by_cases h6:Lib.index r [10]=-1
         ·rw [h6];simp
         ·have h7:(Lib.index r [10]==-1)=false:=by simpa using h6
          rw [h7]
          simp only [Bool.false_eq_true,↓reduceIte]
          rw [if_pos (by omega)]
          have h8:(Lib.index r [10]+1).toNat=(Lib.index r [10]).toNat+1:=by omega
          rw [h8];simp
        omega
       have hz2:noteLen [b]=0:=by
        unfold noteLen
        rw [if_neg (by simpa using h35)]
        have h4:Lib.hasPrefix [b] [47,42]=false:=by
         show ([47,42]:List UInt8).isPrefixOf [b]=false
         simp [List.isPrefixOf]
        rw [h4];rfl
       rw [List.take_zero,hz2]
       rfl
     ·rw [if_neg hz] at hm ⊢
      have:=noteLen_take (b::r) (q+1) (by omega) (by simp only [] at hm;exact hm)
      rw [htk] at this
      rw [this,if_neg hz]
    ·rw [if_neg h3] at hm hk ⊢
     rw [if_neg h3]
     by_cases h5:classOf (b.toNat:Int)=5
     ·rw [if_pos h5] at hm hk ⊢
      rw [if_pos h5]
      by_cases hz:textLen (b::r)=0
      ·rw [if_pos hz] at hm hk ⊢
       rcases hk with hk|hk
       ·exact absurd rfl hk
       ·simp only [] at hk
        obtain rfl:q=0:=by omega
        have hz2:textLen [b]=0:=rfl
        rw [List.take_zero,hz2]
        rfl
      ·rw [if_neg hz] at hm ⊢
       have:=textLen_take (b::r) (q+1) (by omega) (by simp only [] at hm;exact hm)
       rw [htk] at this
       rw [this,if_neg hz]
     ·rw [if_neg h5]
      rw [if_neg h5]
end Go.Proofs.YtldhmfkojaekfaaGreatDoor
namespace Go.Proofs.YtldhmfkojaekfaaGreatDoor
inductive Nd where
 | mk (k:Int) (a b:Nat) (kids:List Nd)
def Nd.none:Nd:=.mk 0 0 0 []
def Nd.a:Nd->Nat|.mk _ a _ _=>a
def Nd.b:Nd->Nat|.mk _ _ b _=>b
structure TS where
 l:List UInt8
 T:List (Int×Nat×Nat)
 F:Nat
structure PS where
 i:Nat
 bad:Int
 wh:Nat
def solidK (k:Int):Bool:=decide (4<=k) && decide (k<=7)
def skipN:List (Int×Nat×Nat)->Nat
 | []=>0
 | t::r=>if solidK t.1 then 0 else skipN r+1
def PS.skip (X:TS) (s:PS):PS:={ s with i:=s.i+skipN (X.T.drop s.i) }
def PS.inc (s:PS):PS:={ s with i:=s.i+1 }
def TS.kind (X:TS) (i:Nat):Int:=match X.T[i]? with|some t=>t.1|none=>0
def TS.pos (X:TS) (i:Nat):Nat:=match X.T[i]? with|some t=>t.2.1|none=>X.l.length
def PS.mark (X:TS) (s:PS):UInt8:=if X.kind s.i=6 then X.l.getD (X.pos s.i) 0 else 0
def PS.fail (X:TS) (e:Int) (s:PS):PS:=if s.bad≠0 then s else { s with bad:=e,wh:=X.pos s.i }
def isLeaf (k:Int):Bool:=decide (k=4) || decide (k=5)
def leafS (X:TS) (k:Int) (s0:PS):PS×Nd :=
 if isLeaf (X.kind (s0.skip X).i) then ((s0.skip X).inc,.mk k (s0.skip X).i ((s0.skip X).i+1) []) else ((s0.skip X).fail X 4,.none)
def manyS (X:TS) (kid:PS->PS×Nd) (e:UInt8):Nat->PS->List Nd->PS×List Nd
 | 0,s,ks=>(s.fail X 4,ks)
 | f+1,s,ks =>
   if (s.skip X).mark X=e\/s.bad≠0 then (s.skip X,ks)
   else if ((kid (s.skip X)).1.skip X).mark X=44 then manyS X kid e f ((kid (s.skip X)).1.skip X).inc (ks++[(kid (s.skip X)).2])
   else if ((kid (s.skip X)).1.skip X).mark X=e then manyS X kid e f ((kid (s.skip X)).1.skip X) (ks++[(kid (s.skip X)).2])
   else manyS X kid e f (((kid (s.skip X)).1.skip X).fail X 4) (ks++[(kid (s.skip X)).2])
def manyN (X:TS) (k:Int) (e:UInt8) (kid:PS->PS×Nd) (s:PS):PS×Nd :=
 ((manyS X kid e X.F s.inc []).1.inc,.mk k s.i ((manyS X kid e X.F s.inc []).1.i+1) (manyS X kid e X.F s.inc []).2)
def colonS (X:TS) (s:PS):PS:=if s.bad=0/\s.mark X≠58/\s.mark X≠61 then s.fail X 4 else s
def entryS (X:TS) (val:PS->PS×Nd) (s0:PS):PS×Nd :=
 if (colonS X ((leafS X 2 s0).1.skip X)).bad≠0 then (colonS X ((leafS X 2 s0).1.skip X),.none)
 else ((val (colonS X ((leafS X 2 s0).1.skip X)).inc).1,.mk 4 (leafS X 2 s0).2.a (val (colonS X ((leafS X 2 s0).1.skip X)).inc).2.b [(leafS X 2 s0).2,(val (colonS X ((leafS X 2 s0).1.skip X)).inc).2])
def PS.begins (X:TS) (s:PS):Bool:=decide (s.mark X=123) || decide (s.mark X=91) || isLeaf (X.kind s.i)
def valueS (X:TS):Nat->PS->PS×Nd
 | 0,s=>if (s.skip X).begins X then ((s.skip X).fail X 5,.none) else leafS X 1 (s.skip X)
 | r+1,s =>
   if (s.skip X).mark X=123 then manyN X 3 125 (entryS X (valueS X r)) (s.skip X)
   else if (s.skip X).mark X=91 then manyN X 5 93 (valueS X r) (s.skip X)
   else leafS X 1 (s.skip X)
def endS (X:TS) (s:PS):PS:=if (s.skip X).i<X.T.length then (s.skip X).fail X 4 else s.skip X
def parseS (X:TS):PS:=endS X (valueS X 20 ⟨0,0,0⟩).1
def Stays (f:PS->PS):Prop:=∀ s,s.bad≠0->(f s).bad=s.bad/\(f s).wh=s.wh
theorem fail_stays (X:TS) (e:Int):Stays (PS.fail X e):=fun s h=>by unfold PS.fail;rw [if_pos h];exact ⟨rfl,rfl⟩
theorem leaf_stays (X:TS) (k:Int):Stays fun s=>(leafS X k s).1:=fun s h=>by
 (try dsimp only)
 unfold leafS
 split
 ·exact ⟨rfl,rfl⟩
 ·exact fail_stays X 4 _ h
theorem many_stays (X:TS) (kid:PS->PS×Nd) (e:UInt8):∀ (f:Nat) (s:PS) (ks:List Nd),s.bad≠0->(manyS X kid e f s ks).1.bad=s.bad/\(manyS X kid e f s ks).1.wh=s.wh
 | 0,s,ks,h=>fail_stays X 4 s h
 | f+1,s,ks,h=>by
   unfold manyS
   rw [if_pos (.inr h)]
   exact ⟨rfl,rfl⟩
theorem colon_stays (X:TS):Stays (colonS X):=fun s h=>by
 unfold colonS
 rw [if_neg (fun h2=>h h2.1)]
 exact ⟨rfl,rfl⟩
theorem entry_stays (X:TS) (val:PS->PS×Nd):Stays fun s=>(entryS X val s).1:=fun s h=>by
 have h1:=leaf_stays X 2 s h
 have h2:((leafS X 2 s).1.skip X).bad≠0:=by show (leafS X 2 s).1.bad≠0;rw [h1.1];exact h
 have h3:=colon_stays X _ h2
 (try dsimp only)
 unfold entryS
 rw [if_pos (by rw [h3.1];exact h2)]
 exact ⟨h3.1.trans h1.1,h3.2.trans h1.2⟩
theorem value_stays (X:TS):∀ r,Stays fun s=>(valueS X r s).1
 | 0=>fun s h=>by
   (try dsimp only)
   unfold valueS
   split
   ·exact fail_stays X 5 _ h
   ·exact leaf_stays X 1 _ h
 | r+1=>fun s h=>by
   (try dsimp only)
   unfold valueS
   split
   ·exact many_stays X _ _ _ _ _ h
   ·split
    ·exact many_stays X _ _ _ _ _ h
    ·exact leaf_stays X 1 _ h
def Off (X:TS) (i:Nat) (s:PS):Prop:=(s.bad=0/\i<s.i)\/(s.bad≠0/\¬ (s.bad=4/\s.wh=X.pos i))
def Passes (X:TS) (i:Nat) (f:PS->PS):Prop:=∀ s,Off X i s->Off X i (f s)
variable {X:TS} {i:Nat}
def ApartT (X:TS) (i:Nat):Prop:=∀ j,i<j->X.pos j≠X.pos i
def TS.upto (X:TS) (i:Nat):TS:=⟨X.l.take (X.pos i),X.T.take i,X.F⟩
def Here (X:TS) (i:Nat) (s:PS):Prop:=s.bad=4/\s.wh=X.pos i
def Rel (X:TS) (i:Nat) (s t:PS):Prop:=(s=t/\s.bad=0/\s.i<=i)\/Off X i s\/(Here X i s/\t.bad=4/\t.wh=X.pos i)
def Goes (X:TS) (i:Nat) (f g:PS->PS):Prop:=∀ s t,Rel X i s t->Rel X i (f s) (g t)
structure Row (X:TS) (i:Nat):Prop where
 lt:i<X.T.length
 up:∀ j,j<i->X.pos j<X.pos i
 down:∀ j,i<j->X.pos i<X.pos j
 le:X.pos i<=X.l.length
theorem Row.apart (h:Row X i):ApartT X i:=fun j hj=>Nat.ne_of_gt (h.down j hj)
def entryT (X:TS) (val:PS->PS×Nd) (u:PS):PS:=if (colonS X u).bad≠0 then colonS X u else (val (colonS X u).inc).1
theorem entry_eq (X:TS) (val:PS->PS×Nd) (s:PS):(entryS X val s).1=entryT X val ((leafS X 2 s).1.skip X):=by
 unfold entryS entryT
 split<;>rfl
def BadOk (X:TS) (s:PS):Prop:=s.bad=0\/((s.bad=4\/s.bad=5)/\∃ j,s.wh=X.pos j)
end Go.Proofs.YtldhmfkojaekfaaGreatDoor
namespace Go.Proofs.YtldhmfkojaekfaaGreatDoor
open Go.RowKit Gx
def TruePostTk (w:World) (e:Ending) (w':World):Prop:=e=.returned (.bool true)/\Below w.heap.size w w'
theorem tokCells_get (l:List Tok) (i:Nat) (h:i<l.length) :
 (tokCells l)[i * 3]?=some (.int .i64 l[i].1)/\(tokCells l)[i * 3+1]?=some (.int .i64 l[i].2.1)/\(tokCells l)[i * 3+2]?=some (.int .i64 l[i].2.2):=by
 induction l generalizing i with
 | nil=>simp at h
 | cons t l ih =>
   cases i with
   | zero=>exact ⟨rfl,rfl,rfl⟩
   | succ i =>
     have h1:=ih i (by simpa using h)
     have e:tokCells (t::l)=[.int .i64 t.1,.int .i64 t.2.1,.int .i64 t.2.2]++tokCells l:=rfl
     have hl:([.int .i64 t.1,.int .i64 t.2.1,.int .i64 t.2.2]:List Value).length=3:=rfl
     rw [e]
     refine ⟨?_,?_,?_⟩
     ·rw [List.getElem?_append_right (by rw [hl];omega),hl,show (i+1) * 3 - 3=i * 3 by omega];exact h1.1
     ·rw [List.getElem?_append_right (by rw [hl];omega),hl,show (i+1) * 3+1 - 3=i * 3+1 by omega];exact h1.2.1
     ·rw [List.getElem?_append_right (by rw [hl];omega),hl,show (i+1) * 3+2 - 3=i * 3+2 by omega];exact h1.2.2
theorem toksF_len:∀ (f:Nat) (l:List UInt8) (a:Nat),(toksF f l a).length<=f
 | 0,_,_=>by simp [toksF]
 | f+1,l,a=>by
   unfold toksF
   split
   ·simp
   ·have:=toksF_len f l (a+(nextTok (l.drop a)).2)
    simp;omega
def Apart (l:List UInt8) (k at_:Nat):Prop:=∀ p,0<k->(toks l)[k - 1]?=some p->at_<l.length->(nextTok (l.drop at_)).1=p.1->p.1≠1/\p.1≠4
theorem toks_len (l:List UInt8):(toks l).length<=l.length:=toksF_len _ _ _
theorem toks_drop (l:List UInt8) (a:Nat):∀ (f j:Nat),l.length<=a+j+f ->
 toksFrom (l.drop a) j=(toksFrom l (a+j)).map fun t=>(t.1,t.2.1 - a,t.2.2 - a):=by
 intro f
 induction f with
 | zero =>
   intro j h
   rw [toksFrom_end _ _ (by rw [List.length_drop];omega),toksFrom_end _ _ (by omega)]
   rfl
 | succ f ih =>
   intro j h
   by_cases hj:l.length<=a+j
   ·rw [toksFrom_end _ _ (by rw [List.length_drop];omega),toksFrom_end _ _ hj]
    rfl
   ·have hn:=nextTok_fits (l.drop (a+j)) (by rw [List.length_drop];omega)
    rw [toksFrom_step _ j (by rw [List.length_drop];omega),toksFrom_step l (a+j) (by omega),List.drop_drop,List.map_cons,ih _ (by omega)]
    rw [show a+(j+(nextTok (l.drop (a+j))).2)=a+j+(nextTok (l.drop (a+j))).2 by omega]
    congr 1
    refine Prod.ext rfl (Prod.ext ?_ ?_)
    ·show j=a+j - a;omega
    ·show j+_=a+j+_ - a;omega
theorem toksFrom_low (l:List UInt8):∀ (f a:Nat),l.length<=a+f->∀ t∈toksFrom l a,a<=t.2.1/\t.2.1<l.length:=by
 intro f
 induction f with
 | zero=>intro a h t ht;rw [toksFrom_end _ _ (by omega)] at ht;simp at ht
 | succ f ih =>
   intro a h t ht
   by_cases ha:l.length<=a
   ·rw [toksFrom_end _ _ ha] at ht;simp at ht
   ·have hn:=nextTok_fits (l.drop a) (by rw [List.length_drop];omega)
    rw [toksFrom_step _ a (by omega),List.mem_cons] at ht
    rcases ht with rfl|ht
    ·exact ⟨Nat.le_refl _,by show a<_;omega⟩
    ·have:=ih _ (by omega) t ht
     omega
def TokAt (w:World) (ad:Option Addr) (l:List Tok):Prop :=
 l=[]\/∃ b,ad=some ⟨b,0,none⟩/\b<w.heap.size/\∀ k v,(tokCells l)[k]?=some v->w.cell? ⟨b,k,none⟩=some v
theorem TokAt.keep {w w':World} {ad:Option Addr} {l:List Tok} (h:TokAt w ad l) (hb:Below w.heap.size w w'):TokAt w' ad l:=by
 rcases h with h|⟨b,h1,h2,h3⟩
 ·exact .inl h
 ·exact .inr ⟨b,h1,Nat.lt_of_lt_of_le h2 hb.size,fun k v hv=>by rw [hb.cell (p:=⟨b,k,none⟩) h2];exact h3 k v hv⟩
set_option maxRecDepth 100000
structure RS (w:World) (R:Nat) (ta:Option Addr) (tc:Nat) (S:ByteArray) (X:TS) (s:PS):Prop where
 obj:w.heap[R]?=some (.cells #[.string S,.slice ta X.T.length tc,.int .i64 s.i,.int .i64 s.bad,.int .i64 s.wh] 92)
 tok:TokAt w ta X.T
 str:S.data.toList=X.l
 far:∀ a,ta=some a->a.block≠R
theorem RS.lt {w:World} {R:Nat} {ta:Option Addr} {tc:Nat} {S:ByteArray} {X:TS} {s:PS} (h:RS w R ta tc S X s):R<w.heap.size:=(Array.getElem?_eq_some_iff.1 h.obj).1
theorem RS.cells {w:World} {R:Nat} {ta:Option Addr} {tc:Nat} {S:ByteArray} {X:TS} {s:PS} (h:RS w R ta tc S X s) :
 w.cell? ⟨R,0,none⟩=some (.string S)/\w.cell? ⟨R,1,none⟩=some (.slice ta X.T.length tc)/\w.cell? ⟨R,2,none⟩=some (.int .i64 s.i)/\w.cell? ⟨R,3,none⟩=some (.int .i64 s.bad)/\w.cell? ⟨R,4,none⟩=some (.int .i64 s.wh)/\∀ j,w.frozen? ⟨R,j,none⟩=false:=by
 have ho:=h.obj
 exact ⟨by simp [World.cell?,ho],by simp [World.cell?,ho],by simp [World.cell?,ho],by simp [World.cell?,ho],by simp [World.cell?,ho],fun j=>by simp [World.frozen?,ho]⟩
theorem TokAt.grow {w w':World} {ad:Option Addr} {l:List Tok} {R:Nat} (h:TokAt w ad l) (hg:w.grownBy w' (some R)) (hf:∀ a,ad=some a->a.block≠R):TokAt w' ad l:=by
 rcases h with h|⟨b,h1,h2,h3⟩
 ·exact .inl h
 ·exact .inr ⟨b,h1,Nat.lt_of_lt_of_le h2 hg.size,fun k v hv=>hg.cell (h3 k v hv) (fun e=>hf _ h1 (Option.some.inj e))⟩
theorem grown_set (w:World) (R j:Nat) (v:Value):w.grownBy (w.setCell ⟨R,j,none⟩ v) (some R) :=
 ⟨rfl,rfl,rfl,by simp [World.setCell],fun k _ hk=>by
   have hk':R≠k:=fun e=>hk (by rw [e])
   show (w.heap.modify R _)[k]?=_
   rw [Array.getElem?_modify,if_neg hk']⟩
theorem grown_drew (w:World) (n:Nat) (r:Option Nat):w.grownBy (w.drewN n) r:=⟨rfl,rfl,rfl,Nat.le_refl _,fun _ _ _=>rfl⟩
theorem RS.drewN {w:World} {R:Nat} {ta:Option Addr} {tc:Nat} {S:ByteArray} {X:TS} {s:PS} (h:RS w R ta tc S X s) (n:Nat):RS (w.drewN n) R ta tc S X s :=
 ⟨h.obj,h.tok.grow (grown_drew w n (some R)) h.far,h.str,h.far⟩
theorem RS.set2 {w:World} {R:Nat} {ta:Option Addr} {tc:Nat} {S:ByteArray} {X:TS} {s:PS} (h:RS w R ta tc S X s) (k:Nat):RS (w.setCell ⟨R,2,none⟩ (.int .i64 k)) R ta tc S X { s with i:=k } :=
 ⟨by simp [World.setCell,Array.getElem?_modify,h.obj],h.tok.grow (grown_set w R 2 _) h.far,h.str,h.far⟩
theorem RS.set34 {w:World} {R:Nat} {ta:Option Addr} {tc:Nat} {S:ByteArray} {X:TS} {s:PS} (h:RS w R ta tc S X s) (e:Int) (k:Nat):RS ((w.setCell ⟨R,3,none⟩ (.int .i64 e)).setCell ⟨R,4,none⟩ (.int .i64 k)) R ta tc S X { s with bad:=e,wh:=k } :=
 ⟨by
   have h1:(w.setCell ⟨R,3,none⟩ (.int .i64 e)).heap[R]?=some (.cells #[.string S,.slice ta X.T.length tc,.int .i64 s.i,.int .i64 e,.int .i64 s.wh] 92):=by simp [World.setCell,Array.getElem?_modify,h.obj]
   show ((w.setCell ⟨R,3,none⟩ (.int .i64 e)).heap.modify R _)[R]?=_
   rw [Array.getElem?_modify,if_pos rfl,h1]
   simp,(h.tok.grow (grown_set w R 3 (.int .i64 e)) h.far).grow (grown_set _ R 4 _) h.far,h.str,h.far⟩
theorem RS.set4 {w:World} {R:Nat} {ta:Option Addr} {tc:Nat} {S:ByteArray} {X:TS} {s:PS} (h:RS w R ta tc S X s) (k:Nat):RS (w.setCell ⟨R,4,none⟩ (.int .i64 k)) R ta tc S X { s with wh:=k } :=
 ⟨by simp [World.setCell,Array.getElem?_modify,h.obj],h.tok.grow (grown_set w R 4 _) h.far,h.str,h.far⟩
theorem RS.tok3 {w:World} {R:Nat} {ta:Option Addr} {tc:Nat} {S:ByteArray} {X:TS} {s:PS} (h:RS w R ta tc S X s) (k:Nat) (hk:k<X.T.length):∃ b,ta=some ⟨b,0,none⟩ /\
 w.cell? ⟨b,k * 3,none⟩=some (.int .i64 (X.kind k))/\w.cell? ⟨b,k * 3+1,none⟩=some (.int .i64 (X.pos k)):=by
 obtain ⟨b,h1,h2,h3⟩:=h.tok.resolve_left (by rintro e;rw [e] at hk;simp at hk)
 obtain ⟨g1,g2,-⟩:=tokCells_get X.T k hk
 have e1:X.kind k=(X.T[k]).1:=by unfold TS.kind;rw [List.getElem?_eq_getElem hk]
 have e2:X.pos k=(X.T[k]).2.1:=by unfold TS.pos;rw [List.getElem?_eq_getElem hk]
 exact ⟨b,h1,by rw [e1];exact h3 _ _ g1,by rw [e2];exact h3 _ _ g2⟩
theorem solid_any (k:Int) (w:World):Calls Tryz.prog 74 #[.int .i64 k] w fun e w'=>e=.returned (.bool (solidK k))/\w'=w:=by
 unfold solidK
 by_cases h:4<=k
 ·have t1:decide (4<=k)=true:=decide_eq_true h
  go_enter Tryz.func74,Tryz.ntmps74
  go_wp2_with fail
  try go_ret
  exact ⟨by simp [h],rfl⟩
 ·have t1:decide (4<=k)=false:=decide_eq_false h
  go_enter Tryz.func74,Tryz.ntmps74
  go_wp2_with fail
  try go_ret
  exact ⟨by simp [h],rfl⟩
theorem skipN_here {X:TS} {k:Nat} (h:k<X.T.length):skipN (X.T.drop k)=if solidK (X.kind k) then 0 else skipN (X.T.drop (k+1))+1:=by
 have e1:X.kind k=(X.T[k]).1:=by unfold TS.kind;rw [List.getElem?_eq_getElem h]
 rw [List.drop_eq_getElem_cons h,e1]
 rfl
def RP (R:Nat) (ta:Option Addr) (tc:Nat) (S:ByteArray) (X:TS) (s:PS) (w:World) (e:Ending) (w':World):Prop:=e=.returned (.tuple #[])/\RS w' R ta tc S X s/\w.grownBy w' (some R)
set_option maxHeartbeats 8000000 in
theorem skip_any (R:Nat) (ta:Option Addr) (tc:Nat) (S:ByteArray) (X:TS) (s:PS) (w:World) (h:RS w R ta tc S X s) (hT:X.T.length<=20000) (hi:s.i<=100000) :
 Calls Tryz.prog 45 #[.pointer (some ⟨R,0,none⟩)] w (RP R ta tc S X (s.skip X) w):=by
 have hH:=Lib.hid h
 clear h
 go_enter Tryz.func45,Tryz.ntmps45
 go_wp2_with fail
 go_loopg [] (skipN (X.T.drop s.i)) (fun g wx=>∃ k:Nat,s.i<=k/\k<=200000/\k+g=(s.skip X).i/\g=skipN (X.T.drop k)/\RS wx R ta tc S X { s with i:=k }/\w.grownBy wx (some R))
 case atStart=>exact ⟨s.i,Nat.le_refl _,by omega,rfl,rfl,hH.out,World.grownBy.refl _ _⟩
 case round =>
  obtain ⟨k,hk,hk2,hkg,hg,hr,hw⟩:=hrel
  obtain ⟨c0,c1,c2,c3,c4,fz⟩:=hr.cells
  have HR:=Lib.hid hr
  have HW:=Lib.hid hw
  simp only at c2 c3 c4
  clear hw hr
  by_cases hlt:k<X.T.length
  ·obtain ⟨b,rfl,d0,d1⟩:=HR.out.tok3 k hlt
   have hsn:=skipN_here hlt
   rw [<-hg] at hsn
   have hi1:(0:Int)<=(k:Int):=by omega
   have hi2:(k:Int)<(X.T.length:Int):=by omega
   have t1:decide ((k:Int)<(X.T.length:Int))=true:=decide_eq_true hi2
   have hkn:(k:Int).toNat=k:=rfl
   have HS:=Lib.hid (solid_any (X.kind k))
   obtain ⟨kd,hkd⟩:∃ kd,kd=X.kind k:=⟨_,rfl⟩
   rw [<-hkd] at HS d0 hsn
   clear hkd
   cases hsol:solidK kd with
   | true =>
     rw [hsol] at HS hsn
     rw [if_pos rfl] at hsn
     have hfin:s.skip X={ s with i:=k }:=by unfold PS.skip at hkg ⊢;simp only at hkg;rw [<-hkg,hsn];rfl
     have HF:=Lib.hid hfin
     clear hfin hg hsn hkg hsol
     go_wp2_with fail
     go_quiet ((refine (HS.out _).mono ?_;rintro e w' ⟨rfl,rfl⟩;exact ⟨rfl,_,rfl⟩))
     go_wp2_with fail
     exact bodyPost_ret (v:=.tuple #[]) (by simp [results,Tryz.results45,go_sem]) rfl ⟨rfl,by rw [HF.out];exact HR.out.drewN _,HW.out.trans (grown_drew _ _ _)⟩
   | false =>
     rw [hsol] at HS hsn
     rw [if_neg (by decide)] at hsn
     have g3:skipN (X.T.drop (k+1))=gk - 1:=by omega
     have hk3:k+1+(gk - 1)=(s.skip X).i:=by omega
     have hgpos:gk - 1<gk:=by omega
     have HG3:=Lib.hid g3
     have HK3:=Lib.hid hk3
     have HP:=Lib.hid hgpos
     clear hg hsn hkg hsol g3 hk3 hgpos
     go_wp2_with fail
     go_quiet ((refine (HS.out _).mono ?_;rintro e w' ⟨rfl,rfl⟩;exact ⟨rfl,_,rfl⟩))
     go_wp2_with fail
     go_roundg (gk - 1)
     case measure=>exact HP.out
     case rel=>exact ⟨k+1,by omega,by omega,HK3.out,HG3.out.symm,(HR.out.drewN _).set2 (k+1),(HW.out.trans (grown_drew _ _ _)).trans (grown_set _ R 2 _)⟩
  ·have t1:decide ((k:Int)<(X.T.length:Int))=false:=decide_eq_false (by omega)
   have hg0:skipN (X.T.drop k)=0:=by rw [List.drop_eq_nil_of_le (by omega)];rfl
   have hfin:s.skip X={ s with i:=k }:=by unfold PS.skip at hkg ⊢;simp only at hkg;rw [<-hkg,hg,hg0];rfl
   have HF:=Lib.hid hfin
   clear hfin hg hkg hg0
   go_wp2_with fail
   go_quiet (fail)
   go_wp2_with fail
   exact bodyPost_ret (v:=.tuple #[]) (by simp [results,Tryz.results45,go_sem]) rfl ⟨rfl,by rw [HF.out];exact HR.out.drewN _,HW.out.trans (grown_drew _ _ _)⟩
set_option maxHeartbeats 4000000 in
theorem fail_any (e:Int) (R:Nat) (ta:Option Addr) (tc:Nat) (S:ByteArray) (X:TS) (s:PS) (w:World) (h:RS w R ta tc S X s) (hT:X.T.length<=20000) (hi:s.i<=200000) :
 Calls Tryz.prog 46 #[.pointer (some ⟨R,0,none⟩),.int .i64 e] w (RP R ta tc S X (s.fail X e) w):=by
 have HR:=Lib.hid h
 obtain ⟨c0,c1,c2,c3,c4,fz⟩:=h.cells
 clear h
 by_cases h0:s.bad=0
 ·have t0:(s.bad != 0)=false:=by simpa using h0
  have he:s.fail X e={ s with bad:=e,wh:=X.pos s.i }:=by unfold PS.fail;rw [if_neg (fun h=>h h0)]
  have HE:=Lib.hid he
  have hl:S.size=X.l.length:=by rw [Lib.size_eq,HR.out.str]
  clear he h0
  obtain ⟨w4,hw4⟩:∃ w4,w4=(w.setCell ⟨R,3,none⟩ (.int .i64 e)).setCell ⟨R,4,none⟩ (.int .i64 X.l.length):=⟨_,rfl⟩
  have hr4:=HR.out.set34 e X.l.length
  rw [<-hw4] at hr4
  have hg4:w.grownBy w4 (some R):=by rw [hw4];exact (grown_set w R 3 _).trans (grown_set _ R 4 _)
  obtain ⟨a0,a1,a2,a3,a4,fz4⟩:=hr4.cells
  simp only at a2 a3 a4
  have HR4:=Lib.hid hr4
  have HG4:=Lib.hid hg4
  have HW4:=Lib.hid hw4
  have q3:(w.setCell ⟨R,3,none⟩ (.int .i64 e)).cell? ⟨R,4,none⟩=some (.int .i64 s.wh):=by rw [World.cell?_setCell_other _ _ _ _ (by simp)];exact c4
  have q0:(w.setCell ⟨R,3,none⟩ (.int .i64 e)).cell? ⟨R,0,none⟩=some (.string S):=by rw [World.cell?_setCell_other _ _ _ _ (by simp)];exact c0
  clear hr4 hg4 hw4
  by_cases hlt:s.i<X.T.length
  ·obtain ⟨b,rfl,d0,d1⟩:=HR4.out.tok3 s.i hlt
   have t1:decide ((s.i:Int)<(X.T.length:Int))=true:=decide_eq_true (by omega)
   have hi1:(0:Int)<=(s.i:Int):=by omega
   have hi2:(s.i:Int)<(X.T.length:Int):=by omega
   have hkn:(s.i:Int).toNat=s.i:=rfl
   go_enter Tryz.func46,Tryz.ntmps46
   go_wp2_with fail
   rw [<-HW4.out]
   go_quiet (fail)
   go_wp2_with fail
   have hr5:=HR4.out.drewN nq
   have hg5:=HG4.out.trans (grown_drew w4 nq (some R))
   generalize w4.drewN nq=w5 at hr5 hg5 ⊢
   obtain ⟨b',hb',e0,e1⟩:=hr5.tok3 s.i hlt
   cases hb'
   obtain ⟨i0,i1,i2,i3,i4,fz5⟩:=hr5.cells
   simp only at i2 i3 i4
   have HR5:=Lib.hid hr5
   have HG5:=Lib.hid hg5
   clear a0 a1 a2 a3 a4 fz4 c0 c1 c2 c3 c4 fz d0 d1 q0 q3 hr5 hg5
   have hbR:b≠R:=HR5.out.far _ rfl
   have HK:∀ v,(w5.setCell ⟨R,4,none⟩ v).drew.cell? ⟨R,1,none⟩=some (.slice (some ⟨b,0,none⟩) X.T.length tc)/\(w5.setCell ⟨R,4,none⟩ v).drew.cell? ⟨R,2,none⟩=some (.int .i64 s.i)/\(w5.setCell ⟨R,4,none⟩ v).drew.cell? ⟨b,s.i * 3+1,none⟩=some (.int .i64 (X.pos s.i)):=fun v =>
    ⟨(World.cell?_setCell_other w5 ⟨R,4,none⟩ ⟨R,1,none⟩ v (by simp)).trans i1,(World.cell?_setCell_other w5 ⟨R,4,none⟩ ⟨R,2,none⟩ v (by simp)).trans i2,(World.cell?_setCell_other w5 ⟨R,4,none⟩ ⟨b,s.i * 3+1,none⟩ v (fun h=>hbR (congrArg Addr.block h).symm)).trans e1⟩
   go_region_held3 (fun w'=>w'.cell? ⟨R,1,none⟩=some (.slice (some ⟨b,0,none⟩) X.T.length tc)/\w'.cell? ⟨R,2,none⟩=some (.int .i64 s.i)/\w'.cell? ⟨b,s.i * 3+1,none⟩=some (.int .i64 (X.pos s.i))) (first|exact HK _|go_keep) (fail)
   have HR6:RS (w5.setCell ⟨R,4,none⟩ (.int .i64 (X.pos s.i))).drew R (some ⟨b,0,none⟩) tc S X (s.fail X e):=by
    rw [HE.out]
    exact (HR5.out.set4 (X.pos s.i)).drewN 1
   exact bodyPost_ret (v:=.tuple #[]) (by simp [results,Tryz.results46,go_sem]) rfl ⟨rfl,HR6,(HG5.out.trans (grown_set w5 R 4 _)).trans (grown_drew _ 1 _)⟩
  ·have t1:decide ((s.i:Int)<(X.T.length:Int))=false:=decide_eq_false (by omega)
   have hp:X.pos s.i=X.l.length:=by unfold TS.pos;rw [List.getElem?_eq_none (by omega)]
   go_enter Tryz.func46,Tryz.ntmps46
   go_wp2_with fail
   rw [<-HW4.out]
   go_quiet (fail)
   go_wp2_with fail
   exact bodyPost_ret (v:=.tuple #[]) (by simp [results,Tryz.results46,go_sem]) rfl ⟨rfl,by rw [HE.out,hp];exact HR4.out.drewN _,HG4.out.trans (grown_drew _ _ _)⟩
 ·have t0:(s.bad != 0)=true:=by simpa using h0
  have he:s.fail X e=s:=by unfold PS.fail;rw [if_pos h0]
  have HE:=Lib.hid he
  clear he h0
  go_enter Tryz.func46,Tryz.ntmps46
  go_wp2_with fail
  exact bodyPost_ret (v:=.tuple #[]) (by simp [results,Tryz.results46,go_sem]) rfl ⟨rfl,by rw [HE.out];exact HR.out,World.grownBy.refl _ _⟩
set_option maxRecDepth 100000
def MP (R:Nat) (ta:Option Addr) (tc:Nat) (S:ByteArray) (X:TS) (s:PS) (w:World) (e:Ending) (w':World):Prop :=
 e=.returned (.int .u8 (((s.skip X).mark X).toNat:Int))/\RS w' R ta tc S X (s.skip X)/\w.grownBy w' (some R)
theorem skip_i (X:TS) (s:PS):(s.skip X).i<=s.i+X.T.length:=by
 have h:∀ L:List (Int×Nat×Nat),skipN L<=L.length:=by
  intro L
  induction L with
  | nil=>exact Nat.le_refl _
  | cons t L ih=>unfold skipN;split<;>simp<;>omega
 have:=h (X.T.drop s.i)
 rw [List.length_drop] at this
 show s.i+skipN (X.T.drop s.i)<=_
 omega
set_option maxHeartbeats 8000000 in
theorem mark_any (R:Nat) (ta:Option Addr) (tc:Nat) (S:ByteArray) (X:TS) (s:PS) (w:World) (h:RS w R ta tc S X s) (hT:X.T.length<=20000) (hi:s.i<=100000) (hpos:∀ j,j<X.T.length->X.pos j<X.l.length) :
 Calls Tryz.prog 68 #[.pointer (some ⟨R,0,none⟩)] w (MP R ta tc S X s w):=by
 have H:=Lib.hid (skip_any R ta tc S X s w h hT hi)
 unfold RP at H
 have hsk:=skip_i X s
 have hstr:=h.str
 clear h
 unfold MP
 generalize s.skip X=u at H hsk ⊢
 have hmk:∀ k:Nat,u.i=k->X.kind k≠6->u.mark X=0:=fun k e h6=>by unfold PS.mark;rw [e,if_neg h6]
 have HM:=Lib.hid hmk
 have hmy:∀ k:Nat,u.i=k->X.kind k=6->u.mark X=X.l.getD (X.pos k) 0:=fun k e h6=>by unfold PS.mark;rw [e,if_pos h6]
 have HY:=Lib.hid hmy
 clear hmk hmy
 by_cases hlt:u.i<X.T.length
 ·have hp:=hpos u.i hlt
  have hb:∃ hh:X.pos u.i<S.size,S[X.pos u.i]'hh=X.l.getD (X.pos u.i) 0:=by
   have hsz:S.size=X.l.length:=by rw [Lib.size_eq,hstr]
   refine ⟨by omega,?_⟩
   have h1:=Lib.data_getElem? S (X.pos u.i) (by omega)
   rw [hstr] at h1
   rw [List.getD,h1];rfl
  obtain ⟨hps,hbyte⟩:=hb
  have t1:decide ((u.i:Int)<(X.T.length:Int))=true:=decide_eq_true (by omega)
  have hi1:(0:Int)<=(u.i:Int):=by omega
  have hi2:(u.i:Int)<(X.T.length:Int):=by omega
  have hkn:(u.i:Int).toNat=u.i:=rfl
  have hj1:(0:Int)<=(X.pos u.i:Int):=by omega
  have hj2:(X.pos u.i:Int)<(S.size:Int):=by omega
  have hjn:(X.pos u.i:Int).toNat=X.pos u.i:=rfl
  by_cases h6:X.kind u.i=6
  ·have hm:=HY.out u.i rfl h6
   rw [<-hbyte] at hm
   have HMK:=Lib.hid hm
   clear hm hbyte hp hpos hstr hsk hi
   go_enter Tryz.func68,Tryz.ntmps68
   go_wp2_with fail
   refine H.out.mono ?_
   rintro e w2 ⟨rfl,hr,hg⟩
   obtain ⟨b,rfl,d0,d1⟩:=hr.tok3 u.i hlt
   obtain ⟨c0,c1,c2,c3,c4,fz⟩:=hr.cells
   rw [h6] at d0
   have HR:=Lib.hid hr
   have HG:=Lib.hid hg
   clear hr hg
   go_wp2_with fail
   go_quiet (fail)
   go_wp2_with fail
   go_quiet (fail)
   go_wp2_with fail
   try go_ret
   rw [HMK.out]
   exact ⟨rfl,(HR.out.drewN _).drewN _,(HG.out.trans (grown_drew _ _ _)).trans (grown_drew _ _ _)⟩
  ·have t6:(X.kind u.i==6)=false:=by simpa using h6
   have hm:=HM.out u.i rfl h6
   have HMK:=Lib.hid hm
   clear hm hbyte hp hpos hstr hsk hi h6
   obtain ⟨kd,hkd⟩:∃ kd,kd=X.kind u.i:=⟨_,rfl⟩
   rw [<-hkd] at t6
   go_enter Tryz.func68,Tryz.ntmps68
   go_wp2_with fail
   refine H.out.mono ?_
   rintro e w2 ⟨rfl,hr,hg⟩
   obtain ⟨b,rfl,d0,d1⟩:=hr.tok3 u.i hlt
   obtain ⟨c0,c1,c2,c3,c4,fz⟩:=hr.cells
   rw [<-hkd] at d0
   have HR:=Lib.hid hr
   have HG:=Lib.hid hg
   clear hr hg hkd
   go_wp2_with fail
   go_quiet (fail)
   go_wp2_with fail
   try go_ret
   rw [HMK.out]
   exact ⟨rfl,(HR.out.drewN _),HG.out.trans (grown_drew _ _ _)⟩
 ·have t1:decide ((u.i:Int)<(X.T.length:Int))=false:=decide_eq_false (by omega)
  have hk0:X.kind u.i=0:=by unfold TS.kind;rw [List.getElem?_eq_none (by omega)]
  have HMK:=Lib.hid (HM.out u.i rfl (by rw [hk0];decide))
  clear hpos hstr hsk hi hk0
  go_enter Tryz.func68,Tryz.ntmps68
  go_wp2_with fail
  refine H.out.mono ?_
  rintro e w2 ⟨rfl,hr,hg⟩
  obtain ⟨c0,c1,c2,c3,c4,fz⟩:=hr.cells
  have HR:=Lib.hid hr
  have HG:=Lib.hid hg
  clear hr hg
  go_wp2_with fail
  go_quiet (fail)
  go_wp2_with fail
  try go_ret
  rw [HMK.out]
  exact ⟨rfl,(HR.out.drewN _),HG.out.trans (grown_drew _ _ _)⟩
end Go.Proofs.YtldhmfkojaekfaaGreatDoor
