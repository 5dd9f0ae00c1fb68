/-
  Lemmas for the statement: plain laws, and what functions answer; the conditions stand in each.
-/
import Derived.Shelf.SlSortCmp.WholeK
import Derived.Shelf.SlSortCmp.NoneTotal
import Derived.Ground.SlsfProg
import Derived.Test.YtgnonbdkmmkdgaaGreatDoorProg
import Derived.Test.YtgnonbdkmmkdgaaGreatDoorChainTypedAllPartF
set_option linter.unusedVariables false
set_option linter.unusedSimpArgs false
set_option maxHeartbeats 16000000
set_option maxRecDepth 100000
open Go.Lib (hid)
namespace Go.Proofs.YtgnonbdkmmkdgaaGreatDoor
open Go.RowKit Gx
theorem runesJ_any (s:ByteArray) (w:World) (hT:Tabs w) (hs:s.size<=1099511627776) (hok:okText s.data.toList):Calls Tryz.prog 113 #[.string s] w (IntB (runeN s.data.toList:Int) w):=by
 obtain ⟨rs,hg,hl⟩:=hok
 rw [rune_len hg hl]
 have HC:=hid (runes_yes s rs w hT hs hg hl)
 clear hT hg hl
 go_enter Tryz.func113,Tryz.ntmps113
 go_wp2_with fail
 (with_reducible refine HC.out.mono ?_)
 rintro e w2 ⟨g,cap,rfl,-,hb2⟩
 have HB:=hid hb2
 clear hb2 HC
 go_wp2_with fail
 try go_ret
 exact ⟨rfl,HB.out⟩
def kindV (k:Int):Int:=if k=1 then 0 else if k<=6 then k - 2 else if k=7 then 4 else if k=8 then 5 else 6
theorem kindV_tells (k:Int) (h1:1<=k) (h2:k<=10):tells k (kindV k)=true/\0<=kindV k/\kindV k<=6/\∀ j,0<=j->j<kindV k->tells k j=false:=by
 have hk:k=1\/k=2\/k=3\/k=4\/k=5\/k=6\/k=7\/k=8\/k=9\/k=10:=by omega
 have key:∀ (n:Int),kindV k=n->0<=n->(∀ j,0<=j->j<n->tells k j=false)->n<=6->tells k n=true->tells k (kindV k)=true/\0<=kindV k/\kindV k<=6/\∀ j,0<=j->j<kindV k->tells k j=false:=fun n hn h0 hj h6 ht=>by
  rw [hn];exact ⟨ht,h0,h6,hj⟩
 rcases hk with rfl|rfl|rfl|rfl|rfl|rfl|rfl|rfl|rfl|rfl
 all_goals
  refine key _ rfl (by decide) (fun j h0 hj=>?_) (by decide) (by decide)
  have hj':j<_:=hj
  have:j=0\/j=1\/j=2\/j=3\/j=4\/j=5:=by simp [kindV] at hj';omega
  rcases this with rfl|rfl|rfl|rfl|rfl|rfl<;>first|rfl|(exfalso;revert hj';decide)
theorem kindJ_any (q:Lt) (w:World) (h1:1<=q.v.k) (h2:q.v.k<=10):Calls Tryz.prog 129 #[q.val] w (IntB (kindV q.v.k) w):=by
 obtain ⟨ht,h0,h6,hno⟩:=kindV_tells q.v.k h1 h2
 have hb:=(Below.refl w.heap.size w).alloc (Nat.le_refl _) (.cells #[.int .i64 q.v.k,.int .i64 q.v.lo,.int .i64 q.v.hi,.slice q.xd q.v.x.length q.xc,.slice q.td q.v.t.length q.tc,.slice q.fd q.v.f.length q.fc,.string q.v.n] 27)
 have hc:=heap_alloc_new w (.cells #[.int .i64 q.v.k,.int .i64 q.v.lo,.int .i64 q.v.hi,.slice q.xd q.v.x.length q.xc,.slice q.td q.v.t.length q.tc,.slice q.fd q.v.f.length q.fc,.string q.v.n] 27)
 have HCT:Hid (∀ (j:Int) (W:World),0<=j->j<=6->Calls Tryz.prog 52 #[q.val,.int .i64 j] W (BoolB (tells q.v.k j) W)):=hid (fun j W h3 h4=>tells_any q j W h1 h2 h3 h4)
 unfold Lt.val at HCT ⊢
 obtain ⟨n,hn⟩:∃ n:Nat,kindV q.v.k=n:=⟨(kindV q.v.k).toNat,by omega⟩
 rw [hn] at ht h0 h6 hno ⊢
 have HB:=hid hb
 have HN:=hid hno
 have HT:=hid ht
 clear hb hno ht hn h0
 go_enter Tryz.func129,Tryz.ntmps129
 go_upto_region 1 with fail
 generalize World.alloc w _=w1 at hc HB ⊢
 generalize hS:w.heap.size=S at hc ⊢
 have HC:=hid hc
 clear hc hS
 go_wp2_with fail
 go_loopw [3] (fun v3 wr=>∃ k:Nat,k<=n/\v3=.int .i64 k/\Hid (Below w1.heap.size w1 wr)) (fun v3 _=>n - (intOf v3).toNat)
 case atStart=>exact ⟨0,Nat.zero_le _,rfl,hid (Below.refl _ _)⟩
 case round =>
  obtain ⟨k,hkn,rfl,HBr⟩:=hrel
  obtain ⟨c0,c1,c2,c3,c4,c5,c6,-⟩:=ty_cells ((HBr.out.block _ (Array.getElem?_eq_some_iff.1 HC.out).1).trans HC.out)
  have hk6:(k:Int)<=6:=by omega
  have HC1:=hid (HCT.out (k:Int) wr (by omega) hk6)
  by_cases hlt:k<n
  ·have hf:=HN.out k (by omega) (by omega)
   rw [hf] at HC1
   clear hf
   go_wp2_with fail
   (with_reducible refine HC1.out.mono ?_)
   rintro e w2 ⟨rfl,hb2⟩
   have HB2:=hid (HBr.out.trans (hb2.mono HBr.out.size))
   clear hb2 c0 c1 c2 c3 c4 c5 c6 HC1 HBr
   go_wp2_with fail
   go_roundw
   case rel=>exact ⟨k+1,by omega,by go_num,HB2⟩
   case measure=>simp [intOf];omega
  ·obtain rfl:k=n:=by omega
   have ht:=HT.out
   rw [ht] at HC1
   clear ht
   go_wp2_with fail
   (with_reducible refine HC1.out.mono ?_)
   rintro e w2 ⟨rfl,hb2⟩
   have HR:Hid (IntB (k:Int) w (.returned (.int .i64 (k:Int))) w2):=hid ⟨rfl,HB.out.trans ((HBr.out.trans (hb2.mono HBr.out.size)).mono HB.out.size)⟩
   clear hb2 c0 c1 c2 c3 c4 c5 c6 HC1 HBr
   go_wp2_with fail
   try go_ret
   exact HR.out
theorem TRow.one {w:World} {B:Nat->Prop} {q:Lt} {b:Nat} {ty:TypeId} (h:TyAt w B q) (hb:w.heap[b]?=some (.cells #[.int .i64 q.v.k,.int .i64 q.v.lo,.int .i64 q.v.hi,.slice q.xd q.v.x.length q.xc,.slice q.td q.v.t.length q.tc,.slice q.fd q.v.f.length q.fc,.string q.v.n] ty)) (hB:B b):TRow w B false (tf [q.v]) (.slice (some ⟨b,0,none⟩) (tf [q.v]).length 1):=by
 obtain ⟨c0,c1,c2,c3,c4,c5,c6,-⟩:=ty_cells hb
 have h0:∀ i x,(tf [q.v])[i]?=some x->i=0/\x.t=q.v:=fun i x hi=>by
  match i,hi with
  | 0,hi=>exact ⟨rfl,by cases hi;rfl⟩
 refine .row false (tf [q.v]) b 0 1 (fun _=>.slice q.xd q.v.x.length q.xc) (fun _=>.slice q.td q.v.t.length q.tc) (fun _=>.slice q.fd q.v.f.length q.fc) (fun _=>.slice none 0 0) (fun _=>.slice none 0 0) (by unfold tf;simp) (by show (1:Nat) * 112<=140737488351232;decide) hB (Array.getElem?_eq_some_iff.1 hb).1
  (fun h=>by cases h) (fun h=>by cases h) (fun i x hi=>?_) (fun i x hi=>?_) (fun i x hi=>?_) (fun i x hi=>?_) (fun h=>by cases h) (fun h=>by cases h)
 ·obtain ⟨rfl,hx⟩:=h0 i x hi
  rw [hx]
  exact ⟨h.wf,c0,c1,c2,c3,c4,c5,c6⟩
 ·rw [(h0 i x hi).2];exact h.x
 ·rw [(h0 i x hi).2];exact h.t
 ·rw [(h0 i x hi).2];exact h.f
def PartsJPost (a:Ty) (B:Nat->Prop) (w:World) (e:Ending) (w':World):Prop:=∃ ad c,e=.returned (.slice ad (partsT a).length c)/\TRow w' (fun b=>B b\/w.heap.size<=b) false (tf (partsT a)) (.slice ad (partsT a).length c)/\Below w.heap.size w w'
theorem partsJ_any (B:Nat->Prop) (q:Lt) (w:World) (hq:TyAt w B q):Calls Tryz.prog 126 #[q.val] w (PartsJPost q.v B w):=by
 have hb:=(Below.refl w.heap.size w).alloc (Nat.le_refl _) (.cells #[.int .i64 q.v.k,.int .i64 q.v.lo,.int .i64 q.v.hi,.slice q.xd q.v.x.length q.xc,.slice q.td q.v.t.length q.tc,.slice q.fd q.v.f.length q.fc,.string q.v.n] 27)
 have hc:=heap_alloc_new w (.cells #[.int .i64 q.v.k,.int .i64 q.v.lo,.int .i64 q.v.hi,.slice q.xd q.v.x.length q.xc,.slice q.td q.v.t.length q.tc,.slice q.fd q.v.f.length q.fc,.string q.v.n] 27)
 have HB:=hid hb
 have HQ:=hid (hq.keep hb)
 unfold Lt.val
 clear hb hq
 go_enter Tryz.func126,Tryz.ntmps126
 go_upto_region 1 with fail
 generalize World.alloc w _=w1 at hc HB HQ ⊢
 generalize hS:w.heap.size=S at hc ⊢
 have HS:=hid hS
 obtain ⟨c0,c1,c2,c3,c4,c5,c6,-⟩:=ty_cells hc
 clear hc hS
 by_cases h11:q.v.k=11
 ·have HR:Hid (PartsJPost q.v B w (.returned (.slice q.td q.v.t.length q.tc)) w1):=hid (by
   have e:partsT q.v=q.v.t:=by unfold partsT;rw [if_pos h11]
   refine ⟨q.td,q.tc,by rw [e],?_,HB.out⟩
   rw [e]
   exact HQ.out.t.through (Nat.le_refl _) (fun _ _ _=>rfl) (fun _ h _=>.inl h))
  have e11:(q.v.k==11)=true:=beq_iff_eq.2 h11
  clear h11 HQ HB
  go_wp2_with fail
  try go_ret
  exact HR.out
 ·have hba:=(Below.refl w1.heap.size w1).alloc (Nat.le_refl _) (.cells #[.int .i64 q.v.k,.int .i64 q.v.lo,.int .i64 q.v.hi,.slice q.xd q.v.x.length q.xc,.slice q.td q.v.t.length q.tc,.slice q.fd q.v.f.length q.fc,.string q.v.n] 27)
  have hn:=heap_alloc_new w1 (.cells #[.int .i64 q.v.k,.int .i64 q.v.lo,.int .i64 q.v.hi,.slice q.xd q.v.x.length q.xc,.slice q.td q.v.t.length q.tc,.slice q.fd q.v.f.length q.fc,.string q.v.n] 27)
  have HR:Hid (PartsJPost q.v B w (.returned (.slice (some ⟨w1.heap.size,0,none⟩) 1 1)) (w1.alloc (.cells #[.int .i64 q.v.k,.int .i64 q.v.lo,.int .i64 q.v.hi,.slice q.xd q.v.x.length q.xc,.slice q.td q.v.t.length q.tc,.slice q.fd q.v.f.length q.fc,.string q.v.n] 27))):=hid (by
   have e:partsT q.v=[q.v]:=by unfold partsT;rw [if_neg h11]
   refine ⟨some ⟨w1.heap.size,0,none⟩,1,by rw [e];rfl,?_,HB.out.trans (hba.mono HB.out.size)⟩
   rw [e]
   exact TRow.one ((HQ.out.keep hba).weak (fun _ h _=>.inl h)) hn (.inr HB.out.size))
  have e11:(q.v.k==11)=false:=beq_eq_false_iff_ne.2 h11
  clear h11 HQ HB hba hn
  go_wp2_with fail
  try go_ret
  exact HR.out
theorem readEnd_in (m:Bool) (x:Option (Int×Nat×Int)):-9223372036854775808<=(readEnd m x).1/\(readEnd m x).1<=9223372036854775807:=by
 unfold readEnd
 cases x with
 | none=>exact ⟨show -9223372036854775808<=(0:Int) by decide,show (0:Int)<=9223372036854775807 by decide⟩
 | some p =>
   obtain ⟨y,n,o⟩:=p
   simp only []
   split
   ·exact ⟨by decide,by decide⟩
   ·split
    ·exact ⟨by decide,by decide⟩
    ·rename_i h
     have hn:n<=limitOf m:=by omega
     unfold limitOf at hn
     cases m with
     | true=>simp only [if_true] at hn ⊢;omega
     | false=>simp only [Bool.false_eq_true,if_false] at hn ⊢;omega
theorem readOf_in (l:List UInt8):-9223372036854775808<=(readOf l).1/\(readOf l).1<=9223372036854775807:=by
 unfold readOf
 split
 ·exact ⟨by decide,by decide⟩
 ·unfold readBy
  split
  ·exact ⟨by decide,by decide⟩
  ·exact readEnd_in _ _
theorem wf8 (t:List Ty):(Ty.mk 8 1 1 [] t [] ⟨#[]⟩).wf:=⟨show (-9223372036854775808:Int)<=8 by decide,show (8:Int)<=9223372036854775807 by decide,show (-9223372036854775808:Int)<=1 by decide,show (1:Int)<=9223372036854775807 by decide,show (-9223372036854775808:Int)<=1 by decide,show (1:Int)<=9223372036854775807 by decide,show (0:Nat)<=140737488351232 by decide⟩
theorem SRow.at_ {w:World} {B:Nat->Prop} {l:List ByteArray} {ad:Option Addr} {n cap:Nat} (h:SRow w B l (.slice ad n cap)) (hl:0<l.length):∃ b off,ad=some ⟨b,off,none⟩/\B b/\b<w.heap.size/\∀ i x,l[i]?=some x->w.cell? ⟨b,off+i,none⟩=some (.string x)/\x.size<=140737488351232:=by
 generalize hv:Value.slice ad n cap=v at h
 cases h with
 | nil ad cap=>simp at hl
 | row xs blk off cap hne hn hB hlt hc =>
   simp only [Value.slice.injEq] at hv
   obtain ⟨rfl,-,-⟩:=hv
   exact ⟨blk,off,rfl,hB,hlt,hc⟩
def BecPost (a:Ty) (k:Int) (C:Nat->Prop) (w:World) (e:Ending) (w':World):Prop:=∃ (y:Lt) (ok:Bool),e=.returned (.tuple #[y.val,.bool ok])/\(ok=true->BecR a k y.v/\TyAt w' C y)/\Below w.heap.size w w'
def Betw (l:List ByteArray) (lo hi:Int):Prop:=(∀ s∈l,(readOf s.data.toList).2=0/\lo<=(readOf s.data.toList).1/\(readOf s.data.toList).1<=hi)/\-9223372036854775808<=lo/\lo<=9223372036854775807/\-9223372036854775808<=hi/\hi<=9223372036854775807
theorem Betw.first {s:ByteArray} (h:(readOf s.data.toList).2=0):Betw [s] (readOf s.data.toList).1 (readOf s.data.toList).1:=by
 have:=readOf_in s.data.toList
 refine ⟨fun t ht=>?_,by omega,by omega,by omega,by omega⟩
 obtain rfl:=List.mem_singleton.1 ht
 exact ⟨h,Int.le_refl _,Int.le_refl _⟩
theorem Betw.more {l:List ByteArray} {lo hi:Int} {s:ByteArray} (h:Betw l lo hi) (hs:(readOf s.data.toList).2=0):Betw (l++[s]) (min lo (readOf s.data.toList).1) (max hi (readOf s.data.toList).1):=by
 have:=readOf_in s.data.toList
 obtain ⟨h1,h2,h3,h4,h5⟩:=h
 refine ⟨fun t ht=>?_,by omega,by omega,by omega,by omega⟩
 rcases List.mem_append.1 ht with ht|ht
 ·have:=h1 t ht;exact ⟨this.1,by omega,by omega⟩
 ·obtain rfl:=List.mem_singleton.1 ht;exact ⟨hs,by omega,by omega⟩
theorem gidx_at {s:ByteArray} {l:List (ByteArray×V)} {k:Nat} {y:ByteArray×V} (hy:l[k]?=some y) (h:gtK s y=true) (hlt:∀ j z,j<k->l[j]?=some z->gtK s z=false):gidx s l=k:=by
 obtain ⟨hk,rfl⟩:=List.getElem?_eq_some_iff.1 hy
 unfold gidx
 rw [List.findIdx_eq hk]
 exact ⟨h,fun j hj=>hlt j _ hj (List.getElem?_eq_getElem (by omega))⟩
theorem gidx_no {s:ByteArray} {l:List (ByteArray×V)} (hlt:∀ j z,j<l.length->l[j]?=some z->gtK s z=false):gidx s l=l.length:=by
 unfold gidx
 rw [List.findIdx_eq_length]
 intro x hx
 obtain ⟨j,hj,rfl⟩:=List.getElem_of_mem hx
 exact hlt j _ hj (List.getElem?_eq_getElem hj)
theorem gidx_le (s:ByteArray) (l:List (ByteArray×V)):gidx s l<=l.length:=List.findIdx_le_length
theorem putFd_any (x:ByteArray) (k n f:Int) (t:ByteArray) (sl se:Value) (K:Nat) (s:ByteArray) (w:World) (hK:w.cell? ⟨K,0,none⟩=some (.string s)) (b:Bool) (hb:(!Op.bytesLess x.toList s.toList && !(x.toList==s.toList))=b) :
 Calls Tryz.prog 108 #[.agg #[.string x,.int .i64 k,.int .i64 n,.int .u64 f,.string t,sl,se],.pointer (some ⟨K,0,none⟩)] w (KeyPostE b w):=by
 have hlt:=World.block_lt_of_cell? w _ hK
 have hbl:=(Below.refl w.heap.size w).alloc (Nat.le_refl _) (.cells #[.string x,.int .i64 k,.int .i64 n,.int .u64 f,.string t,sl,se] 96)
 have hk1:=(hbl.cell (p:=⟨K,0,none⟩) hlt).trans hK
 have hx1:(w.alloc (.cells #[.string x,.int .i64 k,.int .i64 n,.int .u64 f,.string t,sl,se] 96)).cell? ⟨w.heap.size,0,none⟩=some (.string x):=(seven_cells (heap_alloc_new w _)).1
 have HB:=hid hbl
 clear hK hlt hbl
 go_enter Tryz.func108,Tryz.ntmps108
 go_upto_region 1 with fail
 generalize hw2:World.alloc w _=w2 at HB hk1 hx1 ⊢
 clear hw2
 go_wp2_with fail
 try go_ret
 exact ⟨by rw [<-hb];rfl,HB.out⟩
theorem indexPut_any (bd:Option Addr) (dap:Nat) (l:List (ByteArray×V)) (K:Nat) (s:ByteArray) (w:World) (h:RowAt w (fun _=>True) true l (.slice bd l.length dap)) (hK:w.cell? ⟨K,0,none⟩=some (.string s)) :
 Calls Tryz.prog 106 #[.slice bd l.length dap,.func (.func 108) #[] #[.pointer (some ⟨K,0,none⟩)]] w (IdxPostE (gidx s l) l.length w):=by
 have hltK:=World.block_lt_of_cell? w _ hK
 have HK:=hid hK
 have H:=hid h
 have hbn:=h.ebound
 have HNO:=hid (gidx_no (s:=s) (l:=l))
 have HAT:=hid (fun k y=>gidx_at (s:=s) (l:=l) (k:=k) (y:=y))
 obtain ⟨n,hn⟩:∃ n,l.length=n:=⟨_,rfl⟩
 rw [hn] at hbn HNO ⊢
 have HN:=hid hn
 clear h hK hn
 go_enter Tryz.func106,Tryz.ntmps106
 go_wp2_with fail
 go_loopw [5,8] (fun _ v wr=>∃ k:Nat,k<=n/\v=.int .i64 k/\Hid (∀ j z,j<k->l[j]?=some z->gtK s z=false)/\Hid (Below w.heap.size w wr)) (fun _ v _=>n - (intOf v).toNat)
 case atStart=>exact ⟨0,Nat.zero_le _,rfl,hid (fun j z h=>by omega),hid (Below.refl _ _)⟩
 case round =>
  obtain ⟨k,hk,rfl,HL,HB⟩:=hrel
  by_cases hlt:k<n
  ·obtain ⟨x,hx⟩:∃ x,l[k]?=some x:=⟨_,List.getElem?_eq_getElem (by rw [HN.out];exact hlt)⟩
   obtain ⟨b1,o1,hd1,-,hbl1,hcs1⟩:=H.out.entry (by rw [HN.out];omega)
   subst hd1
   obtain ⟨-,gk1,q1,hq1,hv1,hg1⟩:=hcs1 k x hx
   clear hcs1
   have k1:wr.cell? ⟨b1,o1+k * 7,none⟩=some (.string x.1):=(HB.out.cell (p:=⟨b1,_,none⟩) hbl1).trans gk1
   obtain ⟨c0,c1,c2,c3,c4,c5⟩:=(hg1.through (HB.out.block _ hbl1)).seven
   have hKr:=(HB.out.cell (p:=⟨K,0,none⟩) hltK).trans HK.out
   obtain ⟨b,hb⟩:∃ b,(!Op.bytesLess x.1.toList s.toList && !(x.1.toList==s.toList))=b:=⟨_,rfl⟩
   have HC:=hid (putFd_any x.1 q1.v.k q1.v.n q1.v.f q1.v.s (.slice q1.ad q1.v.l.length q1.cap) (.slice q1.bd q1.v.e.length q1.dap) K s wr hKr b hb)
   have HX:=hid hx
   have HBB:=hid hb
   have r1:(0:Int)<=(k:Int):=by omega
   have r2:(k:Int)<(n:Int):=by omega
   clear hx hq1 hv1 hg1 gk1 hb hKr
   go_wp2_with fail
   (with_reducible refine HC.out.mono ?_)
   rintro e w2 ⟨rfl,hb2⟩
   have HB2:=hid (HB.out.trans (hb2.mono HB.out.size))
   clear hb2 c0 c1 c2 c3 c4 c5 k1
   cases b with
   | true =>
     have hf:=HAT.out k x HX.out HBB.out HL.out
     go_wp2_with fail
     try go_ret
     exact ⟨by rw [hf,if_pos hlt];rfl,HB2.out⟩
   | false =>
     have HL2:Hid (∀ j z,j<k+1->l[j]?=some z->gtK s z=false):=hid (fun j z hj hz=>by
      by_cases e:j=k
      ·subst e
       rw [HX.out] at hz
       cases hz
       exact HBB.out
      ·exact HL.out j z (by omega) hz)
     go_wp2_with fail
     go_roundw
     case rel=>exact ⟨k+1,by omega,by go_num,HL2,HB2⟩
     case measure=>simp [intOf];omega
  ·obtain rfl:k=n:=by omega
   have hf:=HNO.out HL.out
   go_wp2_with fail
   try go_ret
   exact ⟨by rw [hf,if_neg (Nat.lt_irrefl _)];rfl,HB.out⟩
def DropPost (w:World) (vb:Nat) (xs:List (ByteArray×V)) (e:Ending) (w':World):Prop :=
 ∃ vo vc m ps,e=.returned (.slice vo m vc)/\ps.length=m/\Acc w' vb true 96 (.slice vo m vc) ps/\ps.map (fun p=>(p.1,p.2.v))=xs/\Below w.heap.size w w'
theorem drop_snoc (l:List (ByteArray×V)) (s:ByteArray) (x:ByteArray×V):dropL (l++[x]) s=dropL l s++(if isK s x=true then [] else [x]):=by
 unfold dropL
 rw [List.filter_append,List.filter_cons]
 cases isK s x<;>rfl
theorem drop_any (bd:Option Addr) (dap n:Nat) (l:List (ByteArray×V)) (s:ByteArray) (w:World) (vb:Nat) (hvb:w.heap.size=vb+1) (h:RowAt w (fun _=>True) true l (.slice bd n dap)) (hn:l.length=n) (hl:n<=1000000) :
 Calls Tryz.prog 87 #[.slice bd n dap,.string s] w (DropPost w vb (dropL l s)):=by
 have H:=hid h
 have HL:=hid hn
 have HVB:=hid hvb
 clear h hn hvb
 go_enter Tryz.func87,Tryz.ntmps87
 go_wp2_with fail
 go_loopw [5,10] (fun v5 v10 wr=>∃ (k m:Nat) (ps:List (ByteArray×Loc)) (ao:Option Addr) (cp:Nat),k<=n/\m<=k/\v10=.int .i64 k/\v5=.slice ao m cp/\Hid (ps.length=m)/\Hid (Acc wr vb true 96 (.slice ao m cp) ps)/\Hid (ps.map (fun p=>(p.1,p.2.v))=dropL (l.take k) s)/\Hid (Below w.heap.size w wr)) (fun _ v10 _=>n - (intOf v10).toNat)
 case atStart=>exact ⟨0,0,[],none,0,Nat.zero_le _,Nat.le_refl _,rfl,rfl,hid rfl,hid (Acc.nil _ _ _ _),hid (by rw [List.take_zero];rfl),hid (Below.refl _ _)⟩
 case round =>
  obtain ⟨k,m,ps,ao,cp,hk,hm,rfl,rfl,HN,HA,HTK,HB⟩:=hrel
  by_cases hlt:k<n
  ·obtain ⟨x,hx⟩:∃ x,l[k]?=some x:=⟨_,List.getElem?_eq_getElem (by rw [HL.out];exact hlt)⟩
   have hrow:=H.out
   rw [<-HL.out] at hrow
   obtain ⟨b1,o1,hd1,-,hbl1,hcs1⟩:=hrow.entry (by rw [HL.out];omega)
   subst hd1
   obtain ⟨hkl,gk1,q1,hq1,hv1,hg1⟩:=hcs1 k x hx
   clear hcs1 hrow
   have hg:=HB.out
   have k1:wr.cell? ⟨b1,o1+k * 7,none⟩=some (.string x.1):=(hg.cell (p:=⟨b1,_,none⟩) hbl1).trans gk1
   obtain ⟨c0,c1,c2,c3,c4,c5⟩:=(hg1.through (hg.block _ hbl1)).seven
   have r1:(0:Int)<=(k:Int):=by omega
   have r2:(k:Int)<(n:Int):=by omega
   have r4:(k:Int).toNat=k:=rfl
   obtain ⟨t,ht⟩:∃ t,x.1=t:=⟨_,rfl⟩
   have HX:Hid (l[k]?=some (t,q1.v)):=hid (by rw [hx,hq1,<-ht])
   rw [ht] at hkl k1
   have hba:=(Below.refl wr.heap.size wr).alloc (Nat.le_refl _) (.cells #[.string t,.int .i64 q1.v.k,.int .i64 q1.v.n,.int .u64 q1.v.f,.string q1.v.s,.slice q1.ad q1.v.l.length q1.cap,.slice q1.bd q1.v.e.length q1.dap] 96)
   have hab:=HA.out.grow (grown_none hba) (fun _ e=>absurd e (by simp))
   have hvv:=(hv1.keep hg).keep hba
   have hcb:=heap_alloc_new wr (.cells #[.string t,.int .i64 q1.v.k,.int .i64 q1.v.n,.int .u64 q1.v.f,.string q1.v.s,.slice q1.ad q1.v.l.length q1.cap,.slice q1.bd q1.v.e.length q1.dap] 96)
   have hgb:=hg.trans (hba.mono hg.size)
   have hvl:vb<(wr.alloc (.cells #[.string t,.int .i64 q1.v.k,.int .i64 q1.v.n,.int .u64 q1.v.f,.string q1.v.s,.slice q1.ad q1.v.l.length q1.cap,.slice q1.bd q1.v.e.length q1.dap] 96)).heap.size:=by have:=HVB.out;have:=hgb.size;omega
   have hxl:wr.heap.size<(wr.alloc (.cells #[.string t,.int .i64 q1.v.k,.int .i64 q1.v.n,.int .u64 q1.v.f,.string q1.v.s,.slice q1.ad q1.v.l.length q1.cap,.slice q1.bd q1.v.e.length q1.dap] 96)).heap.size:=by simp
   clear hx hq1 hv1 hg1 hg hba HA HB gk1 ht
   go_upto_region 5 with fail
   generalize hwx:World.alloc wr _=wx at hab hvv hcb hgb hvl hxl ⊢
   generalize hxb:wr.heap.size=xb at hcb hxl ⊢
   obtain ⟨e0,e1,e2,e3,e4,e5,e6⟩:=seven_cells hcb
   clear hwx hxb c0 c1 c2 c3 c4 c5 k1
   by_cases heq:isK s (t,q1.v)=true
   ·have t1:(t.toList==s.toList)=true:=heq
    have HTK2:Hid (ps.map (fun p=>(p.1,p.2.v))=dropL (l.take (k+1)) s):=hid (by
     rw [take_snoc HX.out,drop_snoc,if_pos heq,List.append_nil];exact HTK.out)
    have HAx:=hid hab
    have HBx:=hid hgb
    clear heq hab hgb hvv hcb
    go_wp2_with fail
    go_roundw
    case rel=>exact ⟨k+1,m,ps,ao,cp,by omega,by omega,by go_num,rfl,HN,HAx,HTK2,HBx⟩
    case measure=>simp [intOf];omega
   ·have t1:(t.toList==s.toList)=false:=by have:=heq;unfold isK at this;simpa using this
    have HTK2:Hid (∀ p:Loc,p.v=q1.v->(ps++[(t,p)]).map (fun p=>(p.1,p.2.v))=dropL (l.take (k+1)) s):=hid (fun p hp=>by
     rw [take_snoc HX.out,drop_snoc,if_neg heq,List.map_append,HTK.out,<-hp];rfl)
    have HAd:Hid (Acc wx.drew vb true 96 (.slice ao m cp) ps):=hid (hab.grow (r:=none) ⟨rfl,rfl,rfl,Nat.le_refl _,fun _ _ _=>rfl⟩ (fun _ e=>absurd e (by simp)))
    have HBd:Hid (Below w.heap.size w wx.drew):=hid (hgb.trans (Gx.drewN_below wx 1 _))
    have hih:=own_any' q1 wx.drew (hvv.keep (Gx.drewN_below wx 1 _))
    simp only [Loc.val] at hih
    have HCd:=hid hih
    have HE0:Hid (wx.drew.cell? ⟨xb,0,none⟩=some (.string t)):=hid e0
    have HXL:Hid (xb<wx.drew.heap.size):=hid hxl
    have HVL:Hid (vb<wx.drew.heap.size):=hid hvl
    clear heq hab hgb hvv hcb hih hvl hxl
    go_wp2_with fail
    go_region_law (first
     | (go_simp;(with_reducible refine HCd.out.mono ?_);rintro e w5 ⟨p,rfl,hpv,hp,hb5⟩;have k5e:=(hb5.cell (p:=⟨xb,0,none⟩) HXL.out).trans HE0.out;have HA5:=hid (HAd.out.grow (grown_none hb5) (fun _ e=>absurd e (by simp)));have HV5:=hid (Nat.lt_of_lt_of_le HVL.out hb5.size);have HQ5:=hid (HAd.out.fresh HVL.out hp);have HB5:=hid (HBd.out.trans (hb5.mono HBd.out.size));have HPV:=hid hpv;clear hp hb5 hpv;simp only [Loc.val])
     | (refine step_acc Tryz.underlying30 Tryz.info_ent rfl (by decide) rfl (.tmp 18) (.tmp 25) rfl HA5.out HV5.out (t,p) HQ5.out hkl _ rfl rfl rfl m HN.out (by omega) (by omega) ?_;intro ao6 c6 w6 ha6 hg6;have hb6:=HB5.out.grown hg6 HB5.out.size (fun b e=>by have:=(HA5.out.above b e);have:=HVB.out;omega);have HA6:=hid ha6;have HB6:=hid hb6;clear ha6 hg6 hb6))
    all_goals
     have H3:Hid ((ps++[(t,p)]).length=m+1):=hid (by rw [List.length_append,HN.out];rfl)
     have H5:=hid (HTK2.out p HPV.out)
     go_wp2_with fail
     go_roundw
     case rel=>exact ⟨k+1,m+1,ps++[(t,p)],ao6,c6,by omega,by omega,by go_num,rfl,H3,HA6,H5,HB6⟩
     case measure=>simp [intOf];omega
  ·obtain rfl:k=n:=by omega
   have hall:ps.map (fun p=>(p.1,p.2.v))=dropL l s:=by
    have:=HTK.out
    rw [<-HL.out,List.take_length] at this
    exact this
   have HALL:=hid hall
   clear hall
   go_wp2_with fail
   try go_ret
   exact ⟨ao,cp,m,ps,rfl,HN.out,HA.out,HALL.out,HB.out⟩
theorem insert_end (w:World) (base n vb c:Nat) (vo:Option Addr) (xs news:List Value) (hb:base<=w.heap.size) (hown:w.ownsRow base 96 7 (.slice vo n c) n xs) (hn:n<=1000000)
 (hnl:news.length=7) (h1:∀ u∈news,u.oneCell'=true) (hvb:w.heap[vb]?=some (.cells news.toArray 96)) :
 Calls Tryz.prog 109 #[.slice vo n c,.int .i64 n,.slice (some ⟨vb,0,none⟩) 1 1] w (InsPost w base (.slice vo n c) n n xs news):=by
 have hpost:∀ v' w',w'.ownsRow base 96 7 v' (n+1) (xs++news)->w.grownBy w' (Value.slice vo n c).ownBlock->Moved (.slice vo n c) v' w.heap.size->InsPost w base (.slice vo n c) n n xs news (.returned v') w':=by
  intro v' w' ho hg hm
  obtain ⟨vo',vc',rfl⟩:=own_form ho
  refine ⟨vo',vc',rfl,?_,hg,hm⟩
  have hxl:=hown.1
  unfold insC
  rw [List.take_of_length_le (by omega),List.drop_of_length_le (by omega),List.append_nil]
  exact ho
 have HP:=hid hpost
 have HO:=hid hown
 have HV:Hid (∀ a,some (⟨vb,0,none⟩:Addr)=some a->∀ (j:Nat) (u:Value),news[j]?=some u->w.cell? (a.add j)=some u):=hid (fun a e j u hj=>by
  cases e
  rw [Addr.add_lit]
  simp [World.cell?,hvb];simpa using hj)
 have hcap:c<=9223372036854775807/\n<=c:=by
  rcases hown.2 with ⟨h,h0⟩|⟨g,cap,cur,h,-,-,h2,h3,-⟩
  ·cases h;omega
  ·cases h;unfold maxLen at h3;omega
 have z1:((1:Int)==0)=false:=by decide
 have z2:((n:Int)==(n:Int))=true:=by simp
 have b1:(0:Int)<=(n:Int):=by omega
 have b2:(n:Int)<=(n:Int):=by omega
 have b3:(n:Int)<=(c:Int):=by omega
 obtain ⟨hc1,hc2⟩:=hcap
 have HN:=hid hnl
 have HB:=hid hb
 have HH1:=hid h1
 clear hpost hown hvb hnl hb h1
 obtain ⟨vx,hvx⟩:∃ vx,vx=Value.slice vo n c:=⟨_,rfl⟩
 go_enter Tryz.func109,Tryz.ntmps109
 cases vo with
 | none =>
   go_wp2_with (at_builtin;refine Gx.wpList_append_all w rfl _ _ 30 rfl base 96 _ 7 104 Tryz.underlying30 Tryz.info_ent rfl (by decide) (.slice none n c) n xs (some ⟨vb,0,none⟩) 1 1 news rfl rfl HO.out (by rw [HN.out]) (fun e=>by simp at e) HV.out HH1.out (by omega) (by omega) HB.out ?_;intro v' w' ho' hg' hm')
   all_goals
    try go_ret
    exact HP.out _ _ ho' hg' hm'
 | some a =>
   go_wp2_with (at_builtin;refine Gx.wpList_append_all w rfl _ _ 30 rfl base 96 _ 7 104 Tryz.underlying30 Tryz.info_ent rfl (by decide) (.slice (some a) n c) n xs (some ⟨vb,0,none⟩) 1 1 news rfl rfl HO.out (by rw [HN.out]) (fun e=>by simp at e) HV.out HH1.out (by omega) (by omega) HB.out ?_;intro v' w' ho' hg' hm')
   all_goals
    try go_ret
    exact HP.out _ _ ho' hg' hm'
theorem insert_any (w:World) (base n i vb c:Nat) (vo:Option Addr) (xs news:List Value) (hb:base<=w.heap.size) (hown:w.ownsRow base 96 7 (.slice vo n c) n xs) (hi:i<=n) (hn:n<=1000000)
 (hnl:news.length=7) (h1:∀ u∈news,u.oneCell'=true) (hx1:∀ u∈xs,u.oneCell'=true) (hvb:w.heap[vb]?=some (.cells news.toArray 96)) (hne:(Value.slice vo n c).ownBlock≠some vb) :
 Calls Tryz.prog 109 #[.slice vo n c,.int .i64 i,.slice (some ⟨vb,0,none⟩) 1 1] w (InsPost w base (.slice vo n c) n i xs news):=by
 by_cases hin:i=n
 ·subst hin
  exact insert_end w base i vb c vo xs news hb hown hn hnl h1 hvb
 ·rcases hown.2 with ⟨-,h0⟩|⟨g,cap,cur,h,hbg,hg,h2,h3,h4,h5⟩
  ·omega
  ·cases h
   by_cases hroom:n+1<=c
   ·exact insert_room w base g n c i vb cur xs news hbg hg h4 h3 h5 (by omega) hn hroom hnl h1 hx1 hvb (fun e=>hne (by rw [e];rfl))
   ·exact insert_grow w base g n c i vb cur xs news hb hbg hg h4 h2 h3 h5 (by omega) hn (by omega) hnl h1 hx1 hvb
theorem Acc.ins {w w':World} {vb i:Nat} {v v':Value} {ps:List (ByteArray×Loc)} {p:ByteArray×Loc} (h:Acc w vb true 96 v ps) (hp:VAt w (fun b=>vb<b/\v.ownBlock≠some b) p.2) (hk:p.1.size<=140737488351232)
 (hi:i<=ps.length) (ho:w'.ownsRow (vb+1) 96 7 v' (ps.length+1) (insC (ps.flatMap (cellsT true)) (cellsT true p) i)) (hg:w.grownBy w' v.ownBlock) (hm:Moved v v' w.heap.size):Acc w' vb true 96 v' (ps.take i++p::ps.drop i):=by
 have hfl:∀ (l:List (ByteArray×Loc)) (k:Nat),k<=l.length->(l.flatMap (cellsT true)).take (k * 7)=(l.take k).flatMap (cellsT true)/\(l.flatMap (cellsT true)).drop (k * 7)=(l.drop k).flatMap (cellsT true):=by
  intro l k hk
  have e:l.flatMap (cellsT true)=(l.take k).flatMap (cellsT true)++(l.drop k).flatMap (cellsT true):=by rw [<-List.flatMap_append,List.take_append_drop]
  have hl:∀ m:List (ByteArray×Loc),(m.flatMap (cellsT true)).length=m.length * 7:=by
   intro m
   induction m with
   | nil=>rfl
   | cons a m ih=>rw [List.flatMap_cons,List.length_append,ih,cellsT_len,List.length_cons];simp [st];omega
  have h2:((l.take k).flatMap (cellsT true)).length=k * 7:=by rw [hl,List.length_take,Nat.min_eq_left hk]
  rw [e]
  exact ⟨List.take_left' h2,List.drop_left' h2⟩
 have hmem:∀ x,x∈ps.take i++p::ps.drop i->x=p\/x∈ps:=fun x hx=>by
  rcases List.mem_append.1 hx with hx|hx
  ·exact .inr (List.mem_of_mem_take hx)
  ·rcases List.mem_cons.1 hx with hx|hx
   ·exact .inl hx
   ·exact .inr (List.mem_of_mem_drop hx)
 refine ⟨?_,fun x hx=>?_,fun x hx=>?_⟩
 ·have hl:(ps.take i++p::ps.drop i).length=ps.length+1:=by rw [List.length_append,List.length_cons,List.length_take,List.length_drop];omega
  rw [hl,List.flatMap_append,List.flatMap_cons]
  unfold insC at ho
  rw [(hfl ps i hi).1,(hfl ps i hi).2] at ho
  exact ho
 ·have hx':VAt w (fun b=>vb<b/\v.ownBlock≠some b) x.2:=by
   rcases hmem x hx with rfl|hx
   ·exact hp
   ·exact h.at_ x hx
  refine hx'.through hg.size (fun b hb hl=>hg.block b hl (fun e=>hb.2 e.symm)) (fun b hb hl=>⟨hb.1,fun e=>?_⟩)
  rcases hm with hm|⟨g,hm,hgl⟩
  ·exact hb.2 (by rw [<-hm];exact e)
  ·rw [hm] at e;have:g=b:=Option.some.inj e;omega
 ·rcases hmem x hx with rfl|hx
  ·exact hk
  ·exact h.key x hx
def InsAcc (w:World) (vb m:Nat) (ps:List (ByteArray×Loc)) (e:Ending) (w':World):Prop:=∃ ao c,e=.returned (.slice ao (m+1) c)/\Acc w' vb true 96 (.slice ao (m+1) c) ps/\Below (vb+1) w w'
theorem put_ins (w:World) (vb m i c:Nat) (vo:Option Addr) (ps:List (ByteArray×Loc)) (s:ByteArray) (p:Loc) (ha:Acc w vb true 96 (.slice vo m c) ps) (hps:ps.length=m) (hp:VAt w (fun b=>vb<b/\(Value.slice vo m c).ownBlock≠some b) p) (hk:s.size<=140737488351232) (hi:i<=m) (hm:m<=1000000) (hv:vb<w.heap.size) :
 Calls Tryz.prog 109 #[.slice vo m c,.int .i64 i,.slice (some ⟨w.heap.size,0,none⟩) 1 1] (w.alloc (.cells #[.string s,.int .i64 p.v.k,.int .i64 p.v.n,.int .u64 p.v.f,.string p.v.s,.slice p.ad p.v.l.length p.cap,.slice p.bd p.v.e.length p.dap] 96))
  (InsAcc (w.alloc (.cells #[.string s,.int .i64 p.v.k,.int .i64 p.v.n,.int .u64 p.v.f,.string p.v.s,.slice p.ad p.v.l.length p.cap,.slice p.bd p.v.e.length p.dap] 96)) vb m (ps.take i++(s,p)::ps.drop i)):=by
 have hba:=(Below.refl w.heap.size w).alloc (Nat.le_refl _) (.cells #[.string s,.int .i64 p.v.k,.int .i64 p.v.n,.int .u64 p.v.f,.string p.v.s,.slice p.ad p.v.l.length p.cap,.slice p.bd p.v.e.length p.dap] 96)
 have ha2:=ha.grow (grown_none hba) (fun _ e=>absurd e (by simp))
 have hp2:=hp.keep hba
 have hnew:=heap_alloc_new w (.cells #[.string s,.int .i64 p.v.k,.int .i64 p.v.n,.int .u64 p.v.f,.string p.v.s,.slice p.ad p.v.l.length p.cap,.slice p.bd p.v.e.length p.dap] 96)
 have hsz:=hba.size
 generalize hw:w.alloc _=w1 at *
 have hone:∀ u∈ps.flatMap (cellsT true),u.oneCell'=true:=fun u hu=>by
  obtain ⟨x,-,hx⟩:=List.mem_flatMap.1 hu
  exact cellsT_one true x u hx
 refine (insert_any w1 (vb+1) m i w.heap.size c vo (ps.flatMap (cellsT true)) (cellsT true (s,p)) (by omega) (by have:=ha2.own;rw [hps] at this;exact this) hi hm rfl (cellsT_one true (s,p)) hone hnew (fun e=>by have:=(ha.own.lt _ e).2;omega)).mono ?_
 rintro e w' ⟨vo',vc',rfl,ho,hg,hmv⟩
 refine ⟨vo',vc',rfl,ha2.ins hp2 hk (by omega) (by rw [hps];exact ho) hg hmv,(Below.refl _ _).grown hg (by omega) (fun b e=>by have:=ha2.above b e;omega)⟩
def PutVPost (w:World) (xs:List (ByteArray×V)) (e:Ending) (w':World):Prop :=
 ∃ vo vc m,e=.returned (.slice vo m vc)/\xs.length=m/\RowAt w' (fun b=>w.heap.size<=b) true xs (.slice vo m vc)/\Below w.heap.size w w'
theorem drop_le (s:ByteArray) (l:List (ByteArray×V)):(dropL l s).length<=l.length:=List.length_filter_le _ _
theorem put_any (bd:Option Addr) (dap n:Nat) (l:List (ByteArray×V)) (s:ByteArray) (q:Loc) (w:World) (h:RowAt w (fun _=>True) true l (.slice bd n dap)) (hn:l.length=n) (hl:n<=900000) (hq:VAt w (fun _=>True) q) (hk:s.size<=140737488351232) :
 Calls Tryz.prog 86 #[.slice bd n dap,.string s,q.val] w (PutVPost w (putL l s q.v)):=by
 unfold Loc.val
 have hb0:=((Below.refl w.heap.size w).alloc (Nat.le_refl _) (.cells #[.string s] 9)).alloc (by simp) (.cells #[.int .i64 q.v.k,.int .i64 q.v.n,.int .u64 q.v.f,.string q.v.s,.slice q.ad q.v.l.length q.cap,.slice q.bd q.v.e.length q.dap] 32)
 have hs0:((w.alloc (.cells #[.string s] 9)).alloc (.cells #[.int .i64 q.v.k,.int .i64 q.v.n,.int .u64 q.v.f,.string q.v.s,.slice q.ad q.v.l.length q.cap,.slice q.bd q.v.e.length q.dap] 32)).heap[w.heap.size]?=some (.cells #[.string s] 9):=(alloc_old_gx _ _ (by simp)).trans (heap_alloc_new w _)
 have hv0:=heap_alloc_new (w.alloc (.cells #[.string s] 9)) (.cells #[.int .i64 q.v.k,.int .i64 q.v.n,.int .u64 q.v.f,.string q.v.s,.slice q.ad q.v.l.length q.cap,.slice q.bd q.v.e.length q.dap] 32)
 have hsz:((w.alloc (.cells #[.string s] 9)).alloc (.cells #[.int .i64 q.v.k,.int .i64 q.v.n,.int .u64 q.v.f,.string q.v.s,.slice q.ad q.v.l.length q.cap,.slice q.bd q.v.e.length q.dap] 32)).heap.size=w.heap.size+1+1:=by simp
 have hrow0:=h.keep hb0
 have hq0:=hq.keep hb0
 rw [World.size_alloc] at hv0
 clear h hq
 go_enter Tryz.func86,Tryz.ntmps86
 go_upto_region 1 with fail
 generalize hw2:World.alloc (World.alloc w _) _=w2 at hb0 hs0 hv0 hsz hrow0 hq0 ⊢
 clear hw2
 have hcs:w2.cell? ⟨w.heap.size,0,none⟩=some (.string s):=by simp [World.cell?,hs0]
 have HV0:=hid hv0
 have HS0:=hid hs0
 have HQ0:=hid hq0
 have HB0:=hid hb0
 have HD:=hid (drop_any bd dap n l s w2 (w.heap.size+1) hsz hrow0 hn (by omega))
 have HSZ:=hid hsz
 have hdl:=drop_le s l
 rw [hn] at hdl
 clear hv0 hs0 hq0 hb0 hrow0 hsz hn
 go_wp2_with fail
 (with_reducible refine HD.out.mono ?_)
 rintro e w3 ⟨vo,vc,m,ps,rfl,hm,ha,hps,hb3⟩
 have hml:(dropL l s).length=m:=by rw [<-hps,List.length_map,hm]
 have hgi:=gidx_le s (dropL l s)
 have hcs3:=(hb3.cell (p:=⟨w.heap.size,0,none⟩) (by have:=HSZ.out;show w.heap.size<_;omega)).trans hcs
 have hrow:RowAt w3 (fun _=>True) true (dropL l s) (.slice vo (dropL l s).length vc):=by
  rw [hml]
  exact (ha.row (by rw [hm];simp [st];omega) hps.symm).weak (fun _ _ _=>trivial)
 have hix:=indexPut_any vo vc (dropL l s) w.heap.size s w3 hrow hcs3
 rw [hml] at hix hgi hdl
 have HPL:Hid (putL l s q.v=(dropL l s).take (gidx s (dropL l s))++(s,q.v)::(dropL l s).drop (gidx s (dropL l s))):=hid rfl
 obtain ⟨I,hI⟩:∃ I,gidx s (dropL l s)=I:=⟨_,rfl⟩
 rw [hI] at hix hgi HPL
 have HIX:=hid hix
 have HPS:=hid hps
 have HA3:=hid ha
 have HB3:=hid hb3
 have HM:=hid hm
 clear hix hps ha hb3 hm hml hrow hI HD hcs
 go_wp2_with fail
 (with_reducible refine HIX.out.mono ?_)
 rintro e w4 ⟨rfl,hb4⟩
 have hs3:=HSZ.out
 have hsb3:=HB3.out.size
 have hsb4:=hb4.size
 have hb34:=HB3.out.trans (hb4.mono hsb3)
 have hcs4:=(hb4.cell (p:=⟨w.heap.size,0,none⟩) (by show w.heap.size<_;omega)).trans hcs3
 have hv4:=(hb34.block (w.heap.size+1) (by omega)).trans HV0.out
 obtain ⟨e0,e1,e2,e3,e4,e5,-⟩:=six_cells hv4
 have HAd:Hid (Acc w4.drew (w.heap.size+1) true 96 (.slice vo m vc) ps):=hid ((HA3.out.grow (grown_none hb4) (fun _ e=>absurd e (by simp))).grow (r:=none) ⟨rfl,rfl,rfl,Nat.le_refl _,fun _ _ _=>rfl⟩ (fun _ e=>absurd e (by simp)))
 have HBd:Hid (Below w.heap.size w w4.drew):=hid ((HB0.out.trans (hb34.mono HB0.out.size)).trans (Gx.drewN_below w4 1 _))
 have hih:=own_any' q w4.drew ((HQ0.out.keep hb34).keep (Gx.drewN_below w4 1 _))
 simp only [Loc.val] at hih
 have HCd:=hid hih
 have HE0:Hid (w4.drew.cell? ⟨w.heap.size,0,none⟩=some (.string s)):=hid hcs4
 have HXL:Hid (w.heap.size<w4.drew.heap.size):=hid (show w.heap.size<w4.heap.size by omega)
 have HVL:Hid (w.heap.size+1<w4.drew.heap.size):=hid (show w.heap.size+1<w4.heap.size by omega)
 clear hb4 hb34 hih hcs3 HV0 HS0 HQ0 HB0 HB3 HA3 HIX hs3 hsb3 hsb4 hv4
 have hfin:∀ (p:Loc) ao c w6,p.v=q.v->Acc w6 (w.heap.size+1) true 96 (.slice ao (m+1) c) (ps.take I++(s,p)::ps.drop I)->Below w.heap.size w w6->PutVPost w (putL l s q.v) (.returned (.slice ao (m+1) c)) w6:=by
  intro p ao c w6 hpv ha hb
  have hlen:(ps.take I++(s,p)::ps.drop I).length=m+1:=by rw [List.length_append,List.length_cons,List.length_take,List.length_drop,HM.out];omega
  have hmap:putL l s q.v=(ps.take I++(s,p)::ps.drop I).map fun p=>(p.1,p.2.v):=by
   rw [HPL.out,<-HPS.out,List.map_append,List.map_cons,List.map_take,List.map_drop,hpv]
  refine ⟨ao,c,m+1,rfl,by rw [hmap,List.length_map,hlen],?_,hb⟩
  exact (ha.row (by rw [hlen];simp [st];omega) hmap).weak (fun b hb _=>by omega)
 have HFIN:=hid hfin
 clear hfin
 by_cases hIm:I<m
 ·rw [if_pos hIm]
  have t1:decide ((I:Int)<0)=false:=decide_eq_false (by omega)
  go_wp2_with fail
  go_region_law (first
   | (go_simp;(with_reducible refine HCd.out.mono ?_);rintro e w5 ⟨p,rfl,hpv,hp,hb5⟩;have k5e:=(hb5.cell (p:=⟨w.heap.size,0,none⟩) HXL.out).trans HE0.out;have HV5:=hid (Nat.lt_of_lt_of_le HVL.out hb5.size);have HB5:=hid (HBd.out.trans (hb5.mono HBd.out.size));have HPV:=hid hpv;have HIN:=hid (put_ins w5 (w.heap.size+1) m I vc vo ps s p (HAd.out.grow (grown_none hb5) (fun _ e=>absurd e (by simp))) HM.out (HAd.out.fresh HVL.out hp) hk hgi (by omega) HV5.out);clear hp hb5 hpv;simp only [Loc.val])
   | (go_simp;(with_reducible refine HIN.out.mono ?_);rintro e w6 ⟨ao,c,rfl,ha6,hb6⟩;have HR:=hid (HFIN.out p ao c w6 HPV.out ha6 ((HB5.out.alloc HB5.out.size _).trans (hb6.mono (by omega))));clear ha6 hb6))
  all_goals
   go_wp2_with fail
   try go_ret
   exact HR.out
 ·rw [if_neg hIm]
  have t1:decide ((-1:Int)<0)=true:=by decide
  obtain rfl:I=m:=by omega
  clear hIm
  go_wp2_with fail
  go_region_law (first
   | (go_simp;(with_reducible refine HCd.out.mono ?_);rintro e w5 ⟨p,rfl,hpv,hp,hb5⟩;have k5e:=(hb5.cell (p:=⟨w.heap.size,0,none⟩) HXL.out).trans HE0.out;have HV5:=hid (Nat.lt_of_lt_of_le HVL.out hb5.size);have HB5:=hid (HBd.out.trans (hb5.mono HBd.out.size));have HPV:=hid hpv;have HIN:=hid (put_ins w5 (w.heap.size+1) I I vc vo ps s p (HAd.out.grow (grown_none hb5) (fun _ e=>absurd e (by simp))) HM.out (HAd.out.fresh HVL.out hp) hk hgi (by omega) HV5.out);clear hp hb5 hpv;simp only [Loc.val])
   | (go_simp;(with_reducible refine HIN.out.mono ?_);rintro e w6 ⟨ao,c,rfl,ha6,hb6⟩;have HR:=hid (HFIN.out p ao c w6 HPV.out ha6 ((HB5.out.alloc HB5.out.size _).trans (hb6.mono (by omega))));clear ha6 hb6))
  all_goals
   go_wp2_with fail
   try go_ret
   exact HR.out
theorem flatMap_len {α:Type} {enc:α->List Value} {k:Nat} (hk:∀ x,(enc x).length=k):∀ l:List α,(l.flatMap enc).length=l.length * k
 | []=>by simp
 | x::l=>by rw [List.flatMap_cons,List.length_append,flatMap_len hk l,hk,List.length_cons,Nat.succ_mul];omega
section
variable {α:Type} [Inhabited α] {enc:α->List Value} {k:Nat}
theorem flat_at (hk:∀ x,(enc x).length=k) (d:Array α) (j:Nat) (hj:j<d.size * k):(d.toList.flatMap enc)[j]?=some (enc d[j / k]!)[j % k]!:=by
 have k0:0<k:=by
  rcases Nat.eq_zero_or_pos k with h|h
  ·subst h;simp at hj
  ·exact h
 have hlt:j / k<d.size:=Nat.div_lt_of_lt_mul (by rw [Nat.mul_comm];exact hj)
 have hm:=Nat.mod_lt j k0
 have h1:d.toList[j / k]?=some d[j / k]!:=by
  rw [Array.getElem?_toList,Array.getElem?_eq_getElem hlt,getElem!_pos d _ hlt]
 have h2:=flat_get hk d.toList (j / k) _ h1 (j % k) hm
 rw [Nat.div_add_mod' j k] at h2
 rw [h2,List.getElem?_eq_getElem (by rw [hk];exact hm),getElem!_pos (enc d[j / k]!) _ (by rw [hk];exact hm)]
theorem flatK_list (hk:∀ x,(enc x).length=k) (d:Array α):(Sort.flatK enc k d).toList=d.toList.flatMap enc:=by
 apply List.ext_getElem?
 intro j
 by_cases hj:j<d.size * k
 ·rw [flat_at hk d j hj,Array.getElem?_toList,Array.getElem?_eq_getElem (by rw [Sort.size_flatK];exact hj),<-Sort.get_flatK enc k d j hj,getElem!_pos _ _ (by rw [Sort.size_flatK];exact hj)]
 ·rw [List.getElem?_eq_none (by rw [Array.length_toList,Sort.size_flatK];omega),List.getElem?_eq_none (by rw [flatMap_len hk,Array.length_toList];omega)]
theorem own_holds {w:World} {base:Nat} {e:TypeId} {g cap:Nat} (hk:∀ x,(enc x).length=k) (d:Array α) (h:w.ownsRow base e k (.slice (some ⟨g,0,none⟩) d.size cap) d.size (d.toList.flatMap enc)):Sort.HoldsK enc k w g 0 d:=by
 intro j hj
 rw [Sort.size_flatK] at hj
 refine ⟨?_,?_⟩
 ·rw [Nat.zero_add,h.cellAt j hj,flat_at hk d j hj,Sort.get_flatK enc k d j hj];rfl
 ·rw [Nat.zero_add];exact h.frozenAt j
theorem sort_own {w:World} {base:Nat} {e:TypeId} {g cap:Nat} (hk:∀ x,(enc x).length=k) (d d':Array α) (hs:d'.size=d.size) (h:w.ownsRow base e k (.slice (some ⟨g,0,none⟩) d.size cap) d.size (d.toList.flatMap enc)) (m:Nat) (os:Array Obj) :
 (sortWorldK enc k w g 0 m d' os).ownsRow base e k (.slice (some ⟨g,0,none⟩) d.size cap) d.size (d'.toList.flatMap enc)/\w.grownBy (sortWorldK enc k w g 0 m d' os) (some g):=by
 have hlt:=(h.lt g rfl).2
 have hblk:∀ c,c≠g->c<w.heap.size->(sortWorldK enc k w g 0 m d' os).heap[c]?=w.heap[c]?:=fun c hc hl=>by
  show ((w.heap.modify g _)++os)[c]?=_
  rw [Array.getElem?_append_left (by simpa using hl),Array.getElem?_modify,if_neg (fun e=>hc e.symm)]
 have hsz:w.heap.size<=(sortWorldK enc k w g 0 m d' os).heap.size:=by
  show w.heap.size<=((w.heap.modify g _)++os).size
  simp
 refine ⟨⟨by rw [flatMap_len hk,Array.length_toList,hs],?_⟩,⟨rfl,rfl,rfl,hsz,fun c hc hne=>hblk c (fun e=>hne (by rw [e])) hc⟩⟩
 rcases h.2 with ⟨h0,-⟩|⟨g2,cap2,cur,hv,hb,hg,hn,hm,hcs,htk⟩
 ·cases h0
 rw [Value.slice.injEq] at hv
 obtain ⟨hg2,-,rfl⟩:=hv
 obtain rfl:g=g2:=by simpa using hg2
 refine .inr ⟨g,cap,Sort.putCells id 0 (Sort.flatK enc k d') cur,rfl,hb,?_,hn,hm,?_,?_⟩
 ·show ((w.heap.modify g _)++os)[g]?=_
  rw [Array.getElem?_append_left (by simpa using hlt),Array.getElem?_modify,if_pos rfl,hg]
  rfl
 ·simp [Sort.putCells,hcs]
 ·rw [<-flatK_list hk]
  apply List.ext_getElem?
  intro j
  by_cases hj:j<d.size * k
  ·rw [List.getElem?_take_of_lt hj,Array.getElem?_toList,Array.getElem?_toList]
   unfold Sort.putCells
   rw [Array.getElem?_mapIdx]
   have hjc:j<cur.size:=by rw [hcs];exact Nat.lt_of_lt_of_le hj (Nat.mul_le_mul_right k hn)
   have hjf:j<(Sort.flatK enc k d').size:=by rw [Sort.size_flatK,hs];exact hj
   rw [Array.getElem?_eq_getElem hjc,Option.map_some,if_pos ⟨Nat.zero_le _,by omega⟩,Array.getElem?_eq_getElem hjf,Nat.sub_zero,getElem!_pos (Sort.flatK enc k d') j hjf]
   rfl
  ·rw [List.getElem?_eq_none (by rw [List.length_take];omega),List.getElem?_eq_none (by rw [Array.length_toList,Sort.size_flatK,hs];omega)]
theorem perm_of {d d':Array α} (h:Sort.PermIn 0 d.size d d'):d'.toList.Perm d.toList:=by
 obtain ⟨h1,-,h3⟩:=h
 rwa [Array.extract_size,<-h1,Array.extract_size] at h3
end
theorem AccT.perm {w w':World} {vb:Nat} {B:Nat->Prop} {t:Bool} {e:TypeId} {v:Value} {ps ps':List Ft} (h:AccT w vb B t e v ps) (hp:ps'.Perm ps) (ho:w'.ownsRow (vb+1) e (sw t) v ps.length (ps'.flatMap (cellsF t))) (hg:w.grownBy w' v.ownBlock):AccT w' vb B t e v ps':=by
 refine ⟨by rw [hp.length_eq];exact ho,fun p h1=>?_,fun p h1=>?_,fun p h1=>h.key p (hp.mem_iff.1 h1)⟩
 ·exact (h.at_ p (hp.mem_iff.1 h1)).grow hg (fun b hb hB=>hB.2 hb)
 ·exact (h.ad p (hp.mem_iff.1 h1)).grow hg (fun b hb hB=>hB.2 hb)
end Go.Proofs.YtgnonbdkmmkdgaaGreatDoor
namespace Go.Proofs
open Go.Shelf
def Tryz.sortFd_ren:Go.Shelf.Ren:=⟨fun|6=>97|15=>116|14=>115|28=>140|29=>141|20=>132|21=>133|22=>134|23=>135|24=>136|25=>137|26=>138|27=>139|46=>153|47=>154|48=>155|49=>156|50=>157|57=>171|n=>n,fun|22=>25|24=>65|25=>158|3=>3|39=>117|0=>0|53=>202|55=>28|4=>4|46=>196|45=>195|50=>72|5=>5|9=>9|66=>209|70=>99|76=>223|77=>224|n=>n,fun|n=>n⟩
theorem Tryz.sortFd:Go.Proofs.SlLaysF0.n6 Tryz.prog Tryz.sortFd_ren:={
 mixed:=by kernel_rfl
 f6:=⟨Tryz.f97.name,by decide,Tryz.func97.trans (congrArg some (by kernel_rfl))⟩
 f14:=⟨Tryz.f115.name,by decide,Tryz.func115.trans (congrArg some (by kernel_rfl))⟩
 f15:=Tryz.func116.trans (congrArg some (by kernel_rfl))
 f20:=⟨Tryz.f132.name,by decide,Tryz.func132.trans (congrArg some (by kernel_rfl))⟩
 f21:=⟨Tryz.f133.name,by decide,Tryz.func133.trans (congrArg some (by kernel_rfl))⟩
 f22:=⟨Tryz.f134.name,by decide,Tryz.func134.trans (congrArg some (by kernel_rfl))⟩
 f23:=⟨Tryz.f135.name,by decide,Tryz.func135.trans (congrArg some (by kernel_rfl))⟩
 f24:=⟨Tryz.f136.name,by decide,Tryz.func136.trans (congrArg some (by kernel_rfl))⟩
 f25:=⟨Tryz.f137.name,by decide,Tryz.func137.trans (congrArg some (by kernel_rfl))⟩
 f26:=⟨Tryz.f138.name,by decide,Tryz.func138.trans (congrArg some (by kernel_rfl))⟩
 f27:=⟨Tryz.f139.name,by decide,Tryz.func139.trans (congrArg some (by kernel_rfl))⟩
 f28:=Tryz.func140.trans (congrArg some (by kernel_rfl))
 f29:=Tryz.func141.trans (congrArg some (by kernel_rfl))
 f46:=⟨Tryz.f153.name,by decide,Tryz.func153.trans (congrArg some (by kernel_rfl))⟩
 f47:=Tryz.func154.trans (congrArg some (by kernel_rfl))
 f48:=Tryz.func155.trans (congrArg some (by kernel_rfl))
 f49:=⟨Tryz.f156.name,by decide,Tryz.func156.trans (congrArg some (by kernel_rfl))⟩
 f50:=⟨Tryz.f157.name,by decide,Tryz.func157.trans (congrArg some (by kernel_rfl))⟩
 f57:=⟨Tryz.f171.name,by decide,Tryz.func171.trans (congrArg some (by kernel_rfl))⟩
 t0:=Tryz.underlying0
 a0:=Tryz.isAgg0
 z0:=Tryz.sizeOf0
 v0:=Tryz.zeroValue0
 t3:=Tryz.underlying3
 a3:=Tryz.isAgg3
 z3:=Tryz.sizeOf3
 v3:=Tryz.zeroValue3
 t4:=Tryz.underlying4
 a4:=Tryz.isAgg4
 z4:=Tryz.sizeOf4
 v4:=Tryz.zeroValue4
 t5:=Tryz.underlying5
 a5:=Tryz.isAgg5
 z5:=Tryz.sizeOf5
 v5:=Tryz.zeroValue5
 t9:=Tryz.underlying9
 a9:=Tryz.isAgg9
 z9:=Tryz.sizeOf9
 v9:=Tryz.zeroValue9
 t22:=Tryz.underlying25
 a22:=Tryz.isAgg25
 z22:=Tryz.sizeOf25
 v22:=Tryz.zeroValue25
 t25:=Tryz.underlying158
 a25:=Tryz.isAgg158
 z25:=Tryz.sizeOf158
 v25:=Tryz.zeroValue158
 t39:=Tryz.underlying117
 a39:=Tryz.isAgg117
 z39:=Tryz.sizeOf117
 v39:=Tryz.zeroValue117
 t45:=Tryz.underlying195
 a45:=Tryz.isAgg195
 z45:=Tryz.sizeOf195
 v45:=Tryz.zeroValue195
 t46:=Tryz.underlying196
 a46:=Tryz.isAgg196
 z46:=Tryz.sizeOf196
 v46:=Tryz.zeroValue196
 t50:=Tryz.underlying72
 a50:=Tryz.isAgg72
 z50:=Tryz.sizeOf72
 v50:=Tryz.zeroValue72
 t53:=Tryz.underlying202
 a53:=Tryz.isAgg202
 z53:=Tryz.sizeOf202
 v53:=Tryz.zeroValue202
 t55:=Tryz.underlying28
 a55:=Tryz.isAgg28
 z55:=Tryz.sizeOf28
 v55:=Tryz.zeroValue28
 t66:=Tryz.underlying209
 a66:=Tryz.isAgg209
 z66:=Tryz.sizeOf209
 v66:=Tryz.zeroValue209
 t70:=Tryz.underlying99
 a70:=Tryz.isAgg99
 z70:=Tryz.sizeOf99
 v70:=Tryz.zeroValue99
 t76:=Tryz.underlying223
 a76:=Tryz.isAgg223
 z76:=Tryz.sizeOf223
 v76:=Tryz.zeroValue223
 t77:=Tryz.underlying224
 a77:=Tryz.isAgg224
 z77:=Tryz.sizeOf224
 v77:=Tryz.zeroValue224 }
def Tryz.sortTy_ren:Go.Shelf.Ren:=⟨fun|6=>151|15=>116|14=>170|28=>140|29=>141|20=>185|21=>186|22=>187|23=>188|24=>189|25=>190|26=>191|27=>192|46=>198|47=>154|48=>155|49=>199|50=>200|57=>202|n=>n,fun|22=>24|24=>27|25=>208|3=>3|39=>117|0=>0|53=>202|55=>28|4=>4|46=>196|45=>195|50=>72|5=>5|9=>9|66=>209|70=>99|76=>223|77=>224|n=>n,fun|n=>n⟩
theorem Tryz.sortTy:Go.Proofs.SlLaysF0.n6 Tryz.prog Tryz.sortTy_ren:={
 mixed:=by kernel_rfl
 f6:=⟨Tryz.f151.name,by decide,Tryz.func151.trans (congrArg some (by kernel_rfl))⟩
 f14:=⟨Tryz.f170.name,by decide,Tryz.func170.trans (congrArg some (by kernel_rfl))⟩
 f15:=Tryz.func116.trans (congrArg some (by kernel_rfl))
 f20:=⟨Tryz.f185.name,by decide,Tryz.func185.trans (congrArg some (by kernel_rfl))⟩
 f21:=⟨Tryz.f186.name,by decide,Tryz.func186.trans (congrArg some (by kernel_rfl))⟩
 f22:=⟨Tryz.f187.name,by decide,Tryz.func187.trans (congrArg some (by kernel_rfl))⟩
 f23:=⟨Tryz.f188.name,by decide,Tryz.func188.trans (congrArg some (by kernel_rfl))⟩
 f24:=⟨Tryz.f189.name,by decide,Tryz.func189.trans (congrArg some (by kernel_rfl))⟩
 f25:=⟨Tryz.f190.name,by decide,Tryz.func190.trans (congrArg some (by kernel_rfl))⟩
 f26:=⟨Tryz.f191.name,by decide,Tryz.func191.trans (congrArg some (by kernel_rfl))⟩
 f27:=⟨Tryz.f192.name,by decide,Tryz.func192.trans (congrArg some (by kernel_rfl))⟩
 f28:=Tryz.func140.trans (congrArg some (by kernel_rfl))
 f29:=Tryz.func141.trans (congrArg some (by kernel_rfl))
 f46:=⟨Tryz.f198.name,by decide,Tryz.func198.trans (congrArg some (by kernel_rfl))⟩
 f47:=Tryz.func154.trans (congrArg some (by kernel_rfl))
 f48:=Tryz.func155.trans (congrArg some (by kernel_rfl))
 f49:=⟨Tryz.f199.name,by decide,Tryz.func199.trans (congrArg some (by kernel_rfl))⟩
 f50:=⟨Tryz.f200.name,by decide,Tryz.func200.trans (congrArg some (by kernel_rfl))⟩
 f57:=⟨Tryz.f202.name,by decide,Tryz.func202.trans (congrArg some (by kernel_rfl))⟩
 t0:=Tryz.underlying0
 a0:=Tryz.isAgg0
 z0:=Tryz.sizeOf0
 v0:=Tryz.zeroValue0
 t3:=Tryz.underlying3
 a3:=Tryz.isAgg3
 z3:=Tryz.sizeOf3
 v3:=Tryz.zeroValue3
 t4:=Tryz.underlying4
 a4:=Tryz.isAgg4
 z4:=Tryz.sizeOf4
 v4:=Tryz.zeroValue4
 t5:=Tryz.underlying5
 a5:=Tryz.isAgg5
 z5:=Tryz.sizeOf5
 v5:=Tryz.zeroValue5
 t9:=Tryz.underlying9
 a9:=Tryz.isAgg9
 z9:=Tryz.sizeOf9
 v9:=Tryz.zeroValue9
 t22:=Tryz.underlying24
 a22:=Tryz.isAgg24
 z22:=Tryz.sizeOf24
 v22:=Tryz.zeroValue24
 t25:=Tryz.underlying208
 a25:=Tryz.isAgg208
 z25:=Tryz.sizeOf208
 v25:=Tryz.zeroValue208
 t39:=Tryz.underlying117
 a39:=Tryz.isAgg117
 z39:=Tryz.sizeOf117
 v39:=Tryz.zeroValue117
 t45:=Tryz.underlying195
 a45:=Tryz.isAgg195
 z45:=Tryz.sizeOf195
 v45:=Tryz.zeroValue195
 t46:=Tryz.underlying196
 a46:=Tryz.isAgg196
 z46:=Tryz.sizeOf196
 v46:=Tryz.zeroValue196
 t50:=Tryz.underlying72
 a50:=Tryz.isAgg72
 z50:=Tryz.sizeOf72
 v50:=Tryz.zeroValue72
 t53:=Tryz.underlying202
 a53:=Tryz.isAgg202
 z53:=Tryz.sizeOf202
 v53:=Tryz.zeroValue202
 t55:=Tryz.underlying28
 a55:=Tryz.isAgg28
 z55:=Tryz.sizeOf28
 v55:=Tryz.zeroValue28
 t66:=Tryz.underlying209
 a66:=Tryz.isAgg209
 z66:=Tryz.sizeOf209
 v66:=Tryz.zeroValue209
 t70:=Tryz.underlying99
 a70:=Tryz.isAgg99
 z70:=Tryz.sizeOf99
 v70:=Tryz.zeroValue99
 t76:=Tryz.underlying223
 a76:=Tryz.isAgg223
 z76:=Tryz.sizeOf223
 v76:=Tryz.zeroValue223
 t77:=Tryz.underlying224
 a77:=Tryz.isAgg224
 z77:=Tryz.sizeOf224
 v77:=Tryz.zeroValue224 }
end Go.Proofs
namespace Go.Proofs.YtgnonbdkmmkdgaaGreatDoor
open Go.RowKit Gx
def SortPost (vb:Nat) (B:Nat->Prop) (t:Bool) (ty:TypeId) (v:Value) (ps:List Ft) (w:World) (e:Ending) (w':World):Prop:=e=.returned (.tuple #[])/\∃ ps',ps'.Perm ps/\AccT w' vb B t ty v ps'/\w.grownBy w' v.ownBlock
def CmpDoes (fn:FuncId) (x y:Value) (n:Int) (W:World):Prop:=Calls Tryz.prog fn #[x,y] W (fun e w'=>e=.returned (.int .i64 n)/\∃ k os,w'=Sort.grow (W.drewN k) os)
theorem sortFd_any (fn:FuncId) (cf:Ft->Ft->Int) (hO:Sort.SWO (ltOf cf)) (heg:∀ args w,(callFunc fn args).run Tryz.prog w=.ok (.enter fn args) w) (hc:∀ (p q:Ft) (W:World),CmpDoes fn p.val q.val (cf p q) W) {vb:Nat} {B:Nat->Prop} (vo:Option Addr) (cap n:Nat) (ps:List Ft) (w:World)
 (h:AccT w vb B true 65 (.slice vo n cap) ps) (hn:ps.length=n) (hl:n<4611686018427387904) :
 Calls Tryz.prog 97 #[.slice vo n cap,.func (.func fn) #[] #[]] w (SortPost vb B true 65 (.slice vo n cap) ps w):=by
 subst hn
 have hk16:∀ x:Ft,(cellsF true x).length=16:=fun x=>cellsF_len true x
 rcases h.own.2 with ⟨hv,h0⟩|⟨g,cap2,cur,hv,hb,hg,-⟩
 ·rw [h0] at hv h ⊢
  have hcon:=AnyF.slices_SortFunc_none Tryz.sortFd vo cap (.func (.func fn) #[] #[]) w
  change Calls Tryz.prog 97 _ _ _ at hcon
  exact hcon.mono fun e w' ⟨h1,h2⟩=>⟨h1,ps,List.Perm.refl _,by rw [h2];exact h,by rw [h2];exact World.grownBy.refl _ _⟩
 ·rw [Value.slice.injEq] at hv
  obtain ⟨rfl,-,rfl⟩:=hv
  have hlt:=(Array.getElem?_eq_some_iff.1 hg).1
  have hown:w.ownsRow (vb+1) 65 16 (.slice (some ⟨g,0,none⟩) ps.toArray.size cap) ps.toArray.size (ps.toArray.toList.flatMap (cellsF true)):=by
   have h0:w.ownsRow (vb+1) 65 16 (.slice (some ⟨g,0,none⟩) ps.length cap) ps.length (ps.flatMap (cellsF true)):=h.own
   simpa using h0
  have hcon:=AnyQ.slices_SortFunc Tryz.sortFd 16 Tryz.isAgg65 Tryz.sizeOf65 (cellsF true) hk16 (fun x v hv=>cellsF_one true x v hv) cf hO fn #[] g 0 cap ps.toArray w heg
   (fun m os dk _ x y=>(hc x y _).mono fun e w' h=>h) (own_holds hk16 ps.toArray hown) hlt (by simpa using hl)
  change Calls Tryz.prog 97 _ _ _ at hcon
  rw [List.size_toArray] at hcon
  refine hcon.mono fun e w' ⟨h1,d',m,os,h2,_,h4⟩=>?_
  have hp:=perm_of (d:=ps.toArray) (by rw [List.size_toArray];exact h2)
  have hso:=sort_own hk16 ps.toArray d' (by have:=h2.1;exact this) hown m os
  rw [List.size_toArray] at hso
  have hp':d'.toList.Perm ps:=hp
  rw [<-h4] at hso
  exact ⟨h1,d'.toList,hp',h.perm hp' hso.1 hso.2,hso.2⟩
structure PartF where
 v:Ft
 h1:1<=v.t.v.k
 h2:v.t.v.k<=10
instance:Inhabited PartF:=⟨⟨⟨⟨#[]⟩,false,false,⟨.mk 1 0 0 [] [] [] ⟨#[]⟩,none,0,none,0,none,0⟩,⟨.zero,none,0,none,0⟩⟩,by decide,by decide⟩⟩
theorem partF_all:∀ ps:List Ft,(∀ p∈ps,1<=p.t.v.k/\p.t.v.k<=10)->∃ rs:List PartF,rs.map PartF.v=ps
 | [],_=>⟨[],rfl⟩
 | p::ps,h=>by
   obtain ⟨rs,hr⟩:=partF_all ps (fun q hq=>h q (List.mem_cons_of_mem _ hq))
   have:=h p List.mem_cons_self
   exact ⟨⟨p,this.1,this.2⟩::rs,by rw [List.map_cons,hr]⟩
theorem sortTy_any (fn:FuncId) (cf:PartF->PartF->Int) (hO:Sort.SWO (ltOf cf)) (heg:∀ args w,(callFunc fn args).run Tryz.prog w=.ok (.enter fn args) w) (hc:∀ (p q:PartF) (W:World),CmpDoes fn p.v.t.val q.v.t.val (cf p q) W) {vb:Nat} {B:Nat->Prop} (vo:Option Addr) (cap n:Nat) (ps:List Ft) (w:World)
 (h:AccT w vb B false 27 (.slice vo n cap) ps) (hn:ps.length=n) (hl:n<4611686018427387904) (hk:∀ p∈ps,1<=p.t.v.k/\p.t.v.k<=10) :
 Calls Tryz.prog 151 #[.slice vo n cap,.func (.func fn) #[] #[]] w (SortPost vb B false 27 (.slice vo n cap) ps w):=by
 subst hn
 rcases h.own.2 with ⟨hv,h0⟩|⟨g,cap2,cur,hv,hb,hg,-⟩
 ·rw [h0] at hv h ⊢
  have hcon:=AnyF.slices_SortFunc_none Tryz.sortTy vo cap (.func (.func fn) #[] #[]) w
  change Calls Tryz.prog 151 _ _ _ at hcon
  exact hcon.mono fun e w' ⟨h1,h2⟩=>⟨h1,ps,List.Perm.refl _,by rw [h2];exact h,by rw [h2];exact World.grownBy.refl _ _⟩
 ·rw [Value.slice.injEq] at hv
  obtain ⟨rfl,-,rfl⟩:=hv
  have hlt:=(Array.getElem?_eq_some_iff.1 hg).1
  obtain ⟨rs,hrs⟩:=partF_all ps hk
  have hfl:∀ l:List PartF,(l.map PartF.v).flatMap (cellsF false)=l.flatMap (fun x=>cellsF false x.v):=fun l=>by rw [List.flatMap_map]
  have hlen:rs.length=ps.length:=by rw [<-hrs,List.length_map]
  have hk7:∀ x:PartF,(cellsF false x.v).length=7:=fun x=>cellsF_len false x.v
  have hown:w.ownsRow (vb+1) 27 7 (.slice (some ⟨g,0,none⟩) rs.toArray.size cap) rs.toArray.size (rs.toArray.toList.flatMap (fun x=>cellsF false x.v)):=by
   have h0:w.ownsRow (vb+1) 27 7 (.slice (some ⟨g,0,none⟩) ps.length cap) ps.length (ps.flatMap (cellsF false)):=h.own
   rw [<-hrs,hfl,List.length_map] at h0
   simpa using h0
  have hcon:=AnyQ.slices_SortFunc Tryz.sortTy 7 Tryz.isAgg27 Tryz.sizeOf27 (fun x:PartF=>cellsF false x.v) hk7 (fun x v hv=>cellsF_one false x.v v hv) cf hO fn #[] g 0 cap rs.toArray w heg
   (fun m os dk _ x y=>(hc x y _).mono fun e w' h=>h) (own_holds hk7 rs.toArray hown) hlt (by simp;omega)
  change Calls Tryz.prog 151 _ _ _ at hcon
  rw [List.size_toArray,hlen] at hcon
  refine hcon.mono fun e w' ⟨h1,d',m,os,h2,_,h4⟩=>?_
  have hp:=perm_of (d:=rs.toArray) (by rw [List.size_toArray,hlen];exact h2)
  have hso:=sort_own hk7 rs.toArray d' (by have:=h2.1;exact this) hown m os
  rw [List.size_toArray,hlen] at hso
  have hp':(d'.toList.map PartF.v).Perm ps:=by rw [<-hrs];exact hp.map PartF.v
  rw [<-h4,<-hfl] at hso
  exact ⟨h1,d'.toList.map PartF.v,hp',h.perm hp' hso.1 hso.2,hso.2⟩
def Grew (w w':World):Prop:=∃ k os,w'=Sort.grow (w.drewN k) os
theorem Grew.refl (w:World):Grew w w:=⟨0,#[],by unfold Sort.grow World.drewN;simp⟩
theorem Grew.trans {a b c:World} (h:Grew a b) (g:Grew b c):Grew a c:=by
 obtain ⟨k,os,rfl⟩:=h
 obtain ⟨l,os',rfl⟩:=g
 exact ⟨k+l,os++os',by unfold Sort.grow World.drewN;simp only [Array.append_assoc,Nat.add_assoc]⟩
theorem Grew.alloc {a b:World} (h:Grew a b) (o:Obj):Grew a (b.alloc o):=h.trans ⟨0,#[o],by rw [Sort.alloc_eq_grow];rfl⟩
theorem Grew.drew {a b:World} (h:Grew a b):Grew a b.drew:=h.trans ⟨1,#[],by rw [Sort.grow_empty];rfl⟩
theorem Grew.below {a b:World} (h:Grew a b):Below a.heap.size a b:=by
 obtain ⟨k,os,rfl⟩:=h
 refine ⟨rfl,rfl,rfl,?_,fun i hi=>?_⟩
 ·show a.heap.size<=(a.heap++os).size
  simp
 ·show (a.heap++os)[i]?=_
  rw [Array.getElem?_append_left hi]
def IntG (n:Int) (w:World) (e:Ending) (w':World):Prop:=e=.returned (.int .i64 n)/\Grew w w'
def BoolG (b:Bool) (w:World) (e:Ending) (w':World):Prop:=e=.returned (.bool b)/\Grew w w'
theorem kinds_grew (q:Lt) (w:World) (h1:1<=q.v.k) (h2:q.v.k<=12):Calls Tryz.prog 78 #[q.val] w (IntG (kindsN q.v.k) w):=by
 have hb:=(Grew.refl w).alloc (.cells #[.int .i64 q.v.k,.int .i64 q.v.lo,.int .i64 q.v.hi,.slice q.xd q.v.x.length q.xc,.slice q.td q.v.t.length q.tc,.slice q.fd q.v.f.length q.fc,.string q.v.n] 27)
 have hc:=heap_alloc_new w (.cells #[.int .i64 q.v.k,.int .i64 q.v.lo,.int .i64 q.v.hi,.slice q.xd q.v.x.length q.xc,.slice q.td q.v.t.length q.tc,.slice q.fd q.v.f.length q.fc,.string q.v.n] 27)
 have HB:=hid hb
 unfold Lt.val
 clear hb
 generalize q.v.k=k at *
 go_enter Tryz.func78,Tryz.ntmps78
 go_upto_region 1 with fail
 generalize World.alloc w _=w1 at hc HB ⊢
 obtain ⟨c0,-⟩:=ty_cells hc
 clear hc
 rcases kind_cases h1 h2 with rfl|rfl|rfl|rfl|rfl|rfl|rfl|rfl|rfl|rfl|rfl|rfl
 all_goals
  clear h1 h2
  go_wp2
  try go_ret
  exact ⟨rfl,HB.out⟩
theorem tells_grew (q:Lt) (v:Int) (w:World) (h1:1<=q.v.k) (h2:q.v.k<=10) (v0:0<=v) (v1:v<=6):Calls Tryz.prog 52 #[q.val,.int .i64 v] w (BoolG (tells q.v.k v) w):=by
 have hb:=(Grew.refl w).alloc (.cells #[.int .i64 q.v.k,.int .i64 q.v.lo,.int .i64 q.v.hi,.slice q.xd q.v.x.length q.xc,.slice q.td q.v.t.length q.tc,.slice q.fd q.v.f.length q.fc,.string q.v.n] 27)
 have hc:=heap_alloc_new w (.cells #[.int .i64 q.v.k,.int .i64 q.v.lo,.int .i64 q.v.hi,.slice q.xd q.v.x.length q.xc,.slice q.td q.v.t.length q.tc,.slice q.fd q.v.f.length q.fc,.string q.v.n] 27)
 have hk:=fun W=>kinds_grew q W h1 (by omega)
 unfold Lt.val at hk ⊢
 have HK:=hid hk
 have HB:=hid hb
 have HT:=hid (tells_bits q.v.k v h1 h2 v0 v1)
 clear hb hk
 go_enter Tryz.func52,Tryz.ntmps52
 go_upto_region 1 with fail
 generalize World.alloc w _=w1 at hc HB ⊢
 obtain ⟨c0,c1,c2,c3,c4,c5,c6,-⟩:=ty_cells hc
 clear hc
 go_wp2_with fail
 (with_reducible refine (HK.out w1).mono ?_)
 rintro e w2 ⟨rfl,hb2⟩
 have HB2:=hid (HB.out.trans hb2)
 clear hb2 HK HB c0 c1 c2 c3 c4 c5 c6
 have hn:kindsN q.v.k<128:=by
  have hkk:q.v.k=1\/q.v.k=2\/q.v.k=3\/q.v.k=4\/q.v.k=5\/q.v.k=6\/q.v.k=7\/q.v.k=8\/q.v.k=9\/q.v.k=10:=by omega
  rcases hkk with h|h|h|h|h|h|h|h|h|h<;>rw [h]<;>decide
 generalize kindsN q.v.k=n at *
 generalize tells q.v.k v=r at *
 clear h1 h2
 go_wp2
 try go_ret
 exact ⟨by rw [<-HT.out];rfl,HB2.out⟩
theorem kindJ_grew (q:Lt) (w:World) (h1:1<=q.v.k) (h2:q.v.k<=10):Calls Tryz.prog 129 #[q.val] w (IntG (kindV q.v.k) w):=by
 obtain ⟨ht,h0,h6,hno⟩:=kindV_tells q.v.k h1 h2
 have hb:=(Grew.refl w).alloc (.cells #[.int .i64 q.v.k,.int .i64 q.v.lo,.int .i64 q.v.hi,.slice q.xd q.v.x.length q.xc,.slice q.td q.v.t.length q.tc,.slice q.fd q.v.f.length q.fc,.string q.v.n] 27)
 have hc:=heap_alloc_new w (.cells #[.int .i64 q.v.k,.int .i64 q.v.lo,.int .i64 q.v.hi,.slice q.xd q.v.x.length q.xc,.slice q.td q.v.t.length q.tc,.slice q.fd q.v.f.length q.fc,.string q.v.n] 27)
 have HCT:Hid (∀ (j:Int) (W:World),0<=j->j<=6->Calls Tryz.prog 52 #[q.val,.int .i64 j] W (BoolG (tells q.v.k j) W)):=hid (fun j W h3 h4=>tells_grew q j W h1 h2 h3 h4)
 unfold Lt.val at HCT ⊢
 obtain ⟨n,hn⟩:∃ n:Nat,kindV q.v.k=n:=⟨(kindV q.v.k).toNat,by omega⟩
 rw [hn] at ht h0 h6 hno ⊢
 have HB:=hid hb
 have HN:=hid hno
 have HT:=hid ht
 clear hb hno ht hn h0
 go_enter Tryz.func129,Tryz.ntmps129
 go_upto_region 1 with fail
 generalize World.alloc w _=w1 at hc HB ⊢
 generalize hS:w.heap.size=S at hc ⊢
 have HC:=hid hc
 clear hc hS
 go_wp2_with fail
 go_loopw [3] (fun v3 wr=>∃ k:Nat,k<=n/\v3=.int .i64 k/\Hid (Grew w1 wr)) (fun v3 _=>n - (intOf v3).toNat)
 case atStart=>exact ⟨0,Nat.zero_le _,rfl,hid (Grew.refl _)⟩
 case round =>
  obtain ⟨k,hkn,rfl,HBr⟩:=hrel
  obtain ⟨c0,c1,c2,c3,c4,c5,c6,-⟩:=ty_cells ((HBr.out.below.block _ (Array.getElem?_eq_some_iff.1 HC.out).1).trans HC.out)
  have hk6:(k:Int)<=6:=by omega
  have HC1:=hid (HCT.out (k:Int) wr (by omega) hk6)
  by_cases hlt:k<n
  ·have hf:=HN.out k (by omega) (by omega)
   rw [hf] at HC1
   clear hf
   go_wp2_with fail
   (with_reducible refine HC1.out.mono ?_)
   rintro e w2 ⟨rfl,hb2⟩
   have HB2:=hid (HBr.out.trans hb2)
   clear hb2 c0 c1 c2 c3 c4 c5 c6 HC1 HBr
   go_wp2_with fail
   go_roundw
   case rel=>exact ⟨k+1,by omega,by go_num,HB2⟩
   case measure=>simp [intOf];omega
  ·obtain rfl:k=n:=by omega
   have ht:=HT.out
   rw [ht] at HC1
   clear ht
   go_wp2_with fail
   (with_reducible refine HC1.out.mono ?_)
   rintro e w2 ⟨rfl,hb2⟩
   have HR:Hid (IntG (k:Int) w (.returned (.int .i64 (k:Int))) w2):=hid ⟨rfl,HB.out.trans (HBr.out.trans hb2)⟩
   clear hb2 c0 c1 c2 c3 c4 c5 c6 HC1 HBr
   go_wp2_with fail
   try go_ret
   exact HR.out
def cmpKind (p q:PartF):Int:=kindV p.v.t.v.k - kindV q.v.t.v.k
theorem cmpKind_swo:Sort.SWO (ltOf cmpKind):=by
 have e:∀ p q,ltOf cmpKind p q=decide (kindV p.v.t.v.k<kindV q.v.t.v.k):=fun p q=>by
  unfold ltOf cmpKind
  rw [decide_eq_decide]
  omega
 refine ⟨fun x=>?_,fun x y z h1 h2=>?_,fun x y z h1 h2=>?_⟩
 ·rw [e];simp
 ·rw [e] at *;simp at *;omega
 ·rw [e] at *;simp at *;omega
theorem kindV_in (k:Int) (h1:1<=k) (h2:k<=10):0<=kindV k/\kindV k<=6:=⟨(kindV_tells k h1 h2).2.1,(kindV_tells k h1 h2).2.2.1⟩
theorem union2_any (P Q:PartF) (W:World):CmpDoes 152 P.v.t.val Q.v.t.val (cmpKind P Q) W:=by
 obtain ⟨⟨pn,po,ph,p,pd⟩,p1,p2⟩:=P
 obtain ⟨⟨qn,qo,qh,q,qd⟩,q1,q2⟩:=Q
 unfold CmpDoes cmpKind
 simp only at p1 p2 q1 q2 ⊢
 obtain ⟨m0,m6⟩:=kindV_in p.v.k p1 p2
 obtain ⟨n0,n6⟩:=kindV_in q.v.k q1 q2
 have HP:Hid (∀ W,Calls Tryz.prog 129 #[p.val] W (IntG (kindV p.v.k) W)):=hid (fun W=>kindJ_grew p W p1 p2)
 have HQ:Hid (∀ W,Calls Tryz.prog 129 #[q.val] W (IntG (kindV q.v.k) W)):=hid (fun W=>kindJ_grew q W q1 q2)
 unfold Lt.val at HP HQ ⊢
 generalize kindV p.v.k=m at *
 generalize kindV q.v.k=n at *
 have hb:=((Grew.refl W).alloc (.cells #[.int .i64 p.v.k,.int .i64 p.v.lo,.int .i64 p.v.hi,.slice p.xd p.v.x.length p.xc,.slice p.td p.v.t.length p.tc,.slice p.fd p.v.f.length p.fc,.string p.v.n] 27)).alloc (.cells #[.int .i64 q.v.k,.int .i64 q.v.lo,.int .i64 q.v.hi,.slice q.xd q.v.x.length q.xc,.slice q.td q.v.t.length q.tc,.slice q.fd q.v.f.length q.fc,.string q.v.n] 27)
 have hc1:=heap_alloc_new W (.cells #[.int .i64 p.v.k,.int .i64 p.v.lo,.int .i64 p.v.hi,.slice p.xd p.v.x.length p.xc,.slice p.td p.v.t.length p.tc,.slice p.fd p.v.f.length p.fc,.string p.v.n] 27)
 have hc:((W.alloc (.cells #[.int .i64 p.v.k,.int .i64 p.v.lo,.int .i64 p.v.hi,.slice p.xd p.v.x.length p.xc,.slice p.td p.v.t.length p.tc,.slice p.fd p.v.f.length p.fc,.string p.v.n] 27)).alloc (.cells #[.int .i64 q.v.k,.int .i64 q.v.lo,.int .i64 q.v.hi,.slice q.xd q.v.x.length q.xc,.slice q.td q.v.t.length q.tc,.slice q.fd q.v.f.length q.fc,.string q.v.n] 27)).heap[W.heap.size]?=_:=(Below.heap_alloc _ _ _ (by simp)).trans hc1
 have hd:=heap_alloc_new (W.alloc (.cells #[.int .i64 p.v.k,.int .i64 p.v.lo,.int .i64 p.v.hi,.slice p.xd p.v.x.length p.xc,.slice p.td p.v.t.length p.tc,.slice p.fd p.v.f.length p.fc,.string p.v.n] 27)) (.cells #[.int .i64 q.v.k,.int .i64 q.v.lo,.int .i64 q.v.hi,.slice q.xd q.v.x.length q.xc,.slice q.td q.v.t.length q.tc,.slice q.fd q.v.f.length q.fc,.string q.v.n] 27)
 rw [World.size_alloc] at hd
 clear hc1 p1 p2 q1 q2
 go_enter Tryz.func152,Tryz.ntmps152
 go_upto_region 1 with fail
 generalize World.alloc (World.alloc W _) _=w1 at hc hd hb ⊢
 generalize hS:W.heap.size=S at hc hd ⊢
 obtain ⟨c0,c1,c2,c3,c4,c5,c6,-⟩:=ty_cells hc
 obtain ⟨d0,d1,d2,d3,d4,d5,d6,-⟩:=ty_cells hd
 have HD:Hid (w1.drew.heap[S+1]?=_):=hid hd
 have HB:=hid hb.drew
 have z1:-9223372036854775808<=m - n:=by omega
 have z2:m - n<=9223372036854775807:=by omega
 clear hc hd hb hS
 go_region_law (first
  | (go_simp;(with_reducible refine (HP.out _).mono ?_);rintro e w5 ⟨rfl,hb5⟩;obtain ⟨f0,f1,f2,f3,f4,f5,f6,-⟩:=ty_cells ((hb5.below.block _ (Array.getElem?_eq_some_iff.1 HD.out).1).trans HD.out);have HB5:=hid hb5;clear hb5)
  | (go_simp;(with_reducible refine (HQ.out _).mono ?_);rintro e w6 ⟨rfl,hb6⟩;have HB6:=hid hb6;clear hb6))
 all_goals
  go_wp2_with fail
  try go_ret
  refine ⟨?_,HB.out.trans (HB5.out.trans HB6.out)⟩
  show Ending.returned (Value.int .i64 (IntKind.i64.wrap (m - n)))=_
  rw [show IntKind.i64.wrap (m - n)=m - n by simp [IntKind.wrap,IntKind.bits,IntKind.signed];omega]
structure V2 (w:World) (rb:Nat) (X:Array Value) (W:World):Prop where
 bx:W.heap[w.heap.size]?=some (.cells X 32)
 res:W.heap[rb]?=some (.cells #[.int .i64 0,.int .i64 0,.int .u64 0,.string ⟨#[]⟩,.slice none 0 0,.slice none 0 0] 32)
 g:Below w.heap.size w W
 lt:w.heap.size<rb
namespace V2
variable {w W W':World} {rb:Nat} {X:Array Value}
theorem vlt (h:V2 w rb X W):rb<W.heap.size:=(Array.getElem?_eq_some_iff.1 h.res).1
theorem grow (h:V2 w rb X W) {row:Option Nat} (hg:W.grownBy W' row) (hr:∀ b,row=some b->rb<b):V2 w rb X W':=by
 have h1:=h.vlt
 have h2:=h.lt
 have hk:∀ k,k<=rb->W'.heap[k]?=W.heap[k]?:=fun k hk=>hg.block k (by omega) (fun e=>by have:=hr _ e.symm;omega)
 exact ⟨(hk _ (by omega)).trans h.bx,(hk _ (by omega)).trans h.res,⟨hg.os.trans h.g.os,hg.tape.trans h.g.tape,hg.output.trans h.g.output,Nat.le_trans h.g.size hg.size,fun i hi=>(hk i (by omega)).trans (h.g.block i hi)⟩,h2⟩
theorem keep (h:V2 w rb X W) (hb:Below W.heap.size W W'):V2 w rb X W':=h.grow (grown_none hb) (fun _ e=>absurd e (by simp))
theorem setX (h:V2 w rb X W) {X':Array Value} (hx:W'.heap[w.heap.size]?=some (.cells X' 32)) (hg:W.grownBy W' (some w.heap.size)):V2 w rb X' W':=by
 have h1:=h.vlt
 have h2:=h.lt
 exact ⟨hx,(hg.block _ h1 (fun e=>by have:=Option.some.inj e;omega)).trans h.res,h.g.grown hg (by omega) (fun b e=>by have:=Option.some.inj e;omega),h2⟩
end V2
theorem v2_start (w:World) (X:Array Value):V2 w (w.heap.size+1) X ((w.alloc (.cells X 32)).alloc (.cells #[.int .i64 0,.int .i64 0,.int .u64 0,.string ⟨#[]⟩,.slice none 0 0,.slice none 0 0] 32)):=by
 refine ⟨?_,?_,((Below.refl _ w).alloc (Nat.le_refl _) _).alloc (by simp) _,by omega⟩
 ·rw [Below.heap_alloc _ _ _ (by simp)]
  exact heap_alloc_new w _
 ·have:=heap_alloc_new (w.alloc (.cells X 32)) (.cells #[.int .i64 0,.int .i64 0,.int .u64 0,.string ⟨#[]⟩,.slice none 0 0,.slice none 0 0] 32)
  rwa [World.size_alloc] at this
theorem vone_store {w:World} {b:Nat} {ty:TypeId} {cur:Array Value} (h:w.heap[b]?=some (.cells cur ty)) (j:Nat) (u:Value):(w.setCell ⟨b,j,none⟩ u).heap[b]?=some (.cells (cur.setIfInBounds j u) ty):=by
 simp [World.setCell,Array.getElem?_modify,h]
theorem val_all {W:World} {b:Nat} {ty:TypeId} {a0 a1 a2 a3 a4 a5:Value} (h:W.heap[b]?=some (.cells #[a0,a1,a2,a3,a4,a5] ty)) (u0 u1 u2 u3 u4 u5:Value) :
 ∃ W9,W9=(((((W.setCell ⟨b,0,none⟩ u0).setCell ⟨b,1,none⟩ u1).setCell ⟨b,2,none⟩ u2).setCell ⟨b,3,none⟩ u3).setCell ⟨b,4,none⟩ u4).setCell ⟨b,5,none⟩ u5/\W9.heap[b]?=some (.cells #[u0,u1,u2,u3,u4,u5] ty)/\W.grownBy W9 (some b):=by
 have t:∀ {a b c:World} {r:Option Nat},a.grownBy b r->b.grownBy c r->a.grownBy c r:=fun h g =>
  ⟨g.os.trans h.os,g.tape.trans h.tape,g.output.trans h.output,Nat.le_trans h.size g.size,fun k hk hn=>(g.block k (Nat.lt_of_lt_of_le hk h.size) hn).trans (h.block k hk hn)⟩
 have h0:=vone_store h 0 u0
 have h1:=vone_store h0 1 u1
 have h2:=vone_store h1 2 u2
 have h3:=vone_store h2 3 u3
 have h4:=vone_store h3 4 u4
 have h5:=vone_store h4 5 u5
 exact ⟨_,rfl,h5,t (t (t (t (t (grown_cell _ b 0 u0) (grown_cell _ b 1 u1)) (grown_cell _ b 2 u2)) (grown_cell _ b 3 u3)) (grown_cell _ b 4 u4)) (grown_cell _ b 5 u5)⟩
theorem RowAt.one {w:World} {B:Nat->Prop} {q:Loc} {b:Nat} {ty:TypeId} (h:VAt w B q) (hb:w.heap[b]?=some (.cells #[.int .i64 q.v.k,.int .i64 q.v.n,.int .u64 q.v.f,.string q.v.s,.slice q.ad q.v.l.length q.cap,.slice q.bd q.v.e.length q.dap] ty)) (hB:B b):RowAt w B false (lp [q.v]) (.slice (some ⟨b,0,none⟩) 1 1):=by
 obtain ⟨c0,c1,c2,c3,c4,c5,-⟩:=six_cells hb
 have h0:∀ i x,(lp [q.v])[i]?=some x->i=0/\x.2=q.v:=fun i x hi=>by
  match i,hi with
  | 0,hi=>exact ⟨rfl,by cases hi;rfl⟩
 refine .row false (lp [q.v]) b 0 1 (fun _=>.slice q.ad q.v.l.length q.cap) (fun _=>.slice q.bd q.v.e.length q.dap) (by unfold lp;simp) (by show (1:Nat) * 88<=140737488351232;decide) hB (Array.getElem?_eq_some_iff.1 hb).1
  (fun h=>by cases h) (fun i x hi=>?_) (fun i x hi=>?_) (fun i x hi=>?_)
 ·obtain ⟨rfl,hx⟩:=h0 i x hi
  rw [hx]
  exact ⟨h.wf,c0,c1,c2,c3,c4,c5⟩
 ·rw [(h0 i x hi).2];exact h.l
 ·rw [(h0 i x hi).2];exact h.e
theorem becomeV_ways {x z:V} {k:Int} (h:becomeV x k=.ok z):(k=4/\x.k=2/\z=mvText ⟨(Lib.itoa x.n).toArray⟩)\/(k=5/\x.k=4/\(readOf x.s.data.toList).2=0/\z=intOfN (readOf x.s.data.toList).1)\/(k=6/\z=listOf [x])\/(k≠4/\k≠5/\k≠6/\x.k=5/\x.l=[z]):=by
 unfold becomeV at h
 split at h
 ·rename_i hk
  split at h
  ·rename_i h1;exact .inl ⟨hk,h1,(Except.ok.inj h).symm⟩
  ·cases h
 split at h
 ·rename_i hk
  split at h
  ·rename_i h1
   split at h
   ·rename_i h2;exact .inr (.inl ⟨hk,h1,h2,(Except.ok.inj h).symm⟩)
   ·cases h
  ·cases h
 split at h
 ·rename_i hk;exact .inr (.inr (.inl ⟨hk,(Except.ok.inj h).symm⟩))
 rename_i k4 k5 k6
 split at h
 ·rename_i h1
  split at h
  ·rename_i hl
   obtain ⟨y,hy⟩:∃ y,x.l=[y]:=List.length_eq_one_iff.1 hl
   refine .inr (.inr (.inr ⟨k4,k5,k6,h1,?_⟩))
   have:=Except.ok.inj h
   rw [hy] at this ⊢
   rw [<-this];rfl
  ·cases h
 ·cases h
def BecVPost (z:V) (B:Nat->Prop) (w:World) (e:Ending) (w':World):Prop:=∃ y:Loc,e=.returned (.tuple #[y.val,.int .i64 0])/\y.v=z/\VAt w' (fun b=>B b\/w.heap.size<=b) y/\Below w.heap.size w w'
def P10 (w:World):Prop:=Lib.TabIs Tryz.prog w "internal/strconv.uint64pow10" .u64 Lib.pow10Tab
theorem wfText (s:ByteArray) (h:s.size<=140737488351232):(mvText s).wf:=⟨show (-9223372036854775808:Int)<=4 by decide,show (4:Int)<=9223372036854775807 by decide,show (-9223372036854775808:Int)<=0 by decide,show (0:Int)<=9223372036854775807 by decide,show (0:Int)<=0 by decide,show (0:Int)<=18446744073709551615 by decide,h⟩
theorem wfInt (n:Int) (h0:-9223372036854775808<=n) (h1:n<=9223372036854775807):(intOfN n).wf:=⟨show (-9223372036854775808:Int)<=2 by decide,show (2:Int)<=9223372036854775807 by decide,h0,h1,show (0:Int)<=0 by decide,show (0:Int)<=18446744073709551615 by decide,show (0:Nat)<=140737488351232 by decide⟩
theorem wfList (l:List V):(listOf l).wf:=⟨show (-9223372036854775808:Int)<=5 by decide,show (5:Int)<=9223372036854775807 by decide,show (-9223372036854775808:Int)<=0 by decide,show (0:Int)<=9223372036854775807 by decide,show (0:Int)<=0 by decide,show (0:Int)<=18446744073709551615 by decide,show (0:Nat)<=140737488351232 by decide⟩
theorem numText_any (n:Int) (w:World) (h0:-9223372036854775808<=n) (h1:n<=9223372036854775807) (hT:P10 w):Calls Tryz.prog 110 #[.int .i64 n] w (fun e w'=>e=.returned (.string ⟨(Lib.itoa n).toArray⟩)/\Below w.heap.size w w'):=by
 have HC:=hid (Tryz.strconv_FormatInt_10 n h0 h1 w hT)
 generalize (⟨(Lib.itoa n).toArray⟩:ByteArray)=s at HC ⊢
 go_enter Tryz.func110,Tryz.ntmps110
 go_wp2_with fail
 (with_reducible refine HC.out.mono ?_)
 rintro e w2 ⟨rfl,k,os,hw2⟩
 have HB:Hid (Below w.heap.size w w2):=hid (Grew.below ⟨k,os,hw2⟩)
 clear hw2 HC
 go_wp2_with fail
 try go_ret
 exact ⟨rfl,HB.out⟩
end Go.Proofs.YtgnonbdkmmkdgaaGreatDoor
