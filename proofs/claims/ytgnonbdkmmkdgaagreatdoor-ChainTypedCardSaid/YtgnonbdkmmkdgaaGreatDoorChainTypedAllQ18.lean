/-
  Lemmas for the statement: plain laws, and what functions answer; the conditions stand in each.
-/
import Derived.Test.YtgnonbdkmmkdgaaGreatDoorChainTypedAllQ04
import Derived.Test.YtgnonbdkmmkdgaaGreatDoorChainTypedAllQ10
import Derived.Test.YtgnonbdkmmkdgaaGreatDoorChainTypedAllQ13
import Derived.Test.YtgnonbdkmmkdgaaGreatDoorChainTypedAllQ14
import Derived.Test.YtgnonbdkmmkdgaaGreatDoorChainTypedAllQ15
import Derived.Test.YtgnonbdkmmkdgaaGreatDoorChainTypedAllQ16
import Derived.Test.YtgnonbdkmmkdgaaGreatDoorChainTypedAllQ17
set_option linter.unusedVariables false
set_option linter.unusedSimpArgs false
set_option maxHeartbeats 16000000
set_option maxRecDepth 100000
open Go.Lib (hid)
namespace Go.Proofs.YtgnonbdkmmkdgaaGreatDoor
open Go.RowKit Gx
def prevB {α:Type} (l:List α) (k:Nat):Option α:=if k=0 then none else l[k - 1]?
theorem prevB_succ {α:Type} (l:List α) (k:Nat):prevB l (k+1)=l[k]?:=by unfold prevB;rw [if_neg (by omega),Nat.add_sub_cancel]
theorem drop_at {α:Type} {l:List α} {k:Nat} {x:α} (h:l[k]?=some x):l.drop k=x::l.drop (k+1):=by
 obtain ⟨hk,rfl⟩:=List.getElem?_eq_some_iff.1 h
 exact List.drop_eq_getElem_cons hk
theorem texts_any (ad:Option Addr) (cap:Nat) (l:List ByteArray) (w:World) (h:SRow w (fun _=>True) l (.slice ad l.length cap)) (hT:Tabs w) :
 Calls Tryz.prog 65 #[.slice ad l.length cap] w (IntB (textsF l) w):=by
 have hbn:=h.bound
 have H:=hid h
 have HT:=hid hT
 obtain ⟨n,hn⟩:∃ n,l.length=n:=⟨_,rfl⟩
 have HN:=hid hn
 rw [hn] at hbn ⊢
 have HF:Hid (textsF l=if n=0 then 4 else if 200<n then 2 else textsL none l):=hid (by unfold textsF;rw [hn])
 clear h hT hn
 go_enter Tryz.func65,Tryz.ntmps65
 by_cases h0:n=0
 ·have HR:Hid (IntB (textsF l) w (.returned (.int .i64 4)) w):=hid (by rw [HF.out,if_pos h0];exact ⟨rfl,Below.refl _ _⟩)
  subst h0
  clear HF
  go_wp2_with fail
  try go_ret
  exact HR.out
 by_cases h2:200<n
 ·have HR:Hid (IntB (textsF l) w (.returned (.int .i64 2)) w):=hid (by rw [HF.out,if_neg h0,if_pos h2];exact ⟨rfl,Below.refl _ _⟩)
  have c1:¬ (n:Int)=0:=by omega
  have c2:((n:Int)==0)=false:=beq_eq_false_iff_ne.2 c1
  have c3:(200:Int)<(n:Int):=by omega
  clear HF
  go_wp2_with fail
  try go_ret
  exact HR.out
 have HL:Hid (textsF l=textsL none l):=hid (by rw [HF.out,if_neg h0,if_neg h2])
 have c2:((n:Int)==0)=false:=beq_eq_false_iff_ne.2 (by omega)
 have c3:¬ (200:Int)<(n:Int):=by omega
 clear HF
 go_wp2_with fail
 go_loopw [15] (fun v15 wr=>∃ k:Nat,k<=n/\v15=.int .i64 k/\Hid (textsF l=textsL (prevB l k) (l.drop k))/\Hid (Below w.heap.size w wr)) (fun v15 _=>n - (intOf v15).toNat)
 case atStart=>exact ⟨0,Nat.zero_le _,rfl,hid (by rw [HL.out];rfl),hid (Below.refl _ _)⟩
 case round =>
  obtain ⟨k,hkn,rfl,HE,HB⟩:=hrel
  by_cases hlt:k<n
  ·obtain ⟨s,hs⟩:∃ s,l[k]?=some s:=⟨_,List.getElem?_eq_getElem (by rw [HN.out];exact hlt)⟩
   obtain ⟨b1,o1,hd1,-,hbl1,hcs⟩:=srow_at H.out (by rw [HN.out];omega)
   subst hd1
   have hcell:∀ j x,l[j]?=some x->wr.cell? ⟨b1,o1+j,none⟩=some (.string x):=fun j x hj=>(HB.out.cell (p:=⟨b1,_,none⟩) hbl1).trans (hcs j x hj).1
   have e0:=hcell k s hs
   have hsz:=(hcs k s hs).2
   have HCB:=hid (bad_any s wr (HT.out.keep HB.out) (by omega))
   have hE:=HE.out
   rw [drop_at hs,textsL_cons] at hE
   have r1:(0:Int)<=(k:Int):=by omega
   have r2:(k:Int)<(n:Int):=by omega
   have HS:=hid hs
   have HE2:=hid hE
   have HCL:=hid hcell
   clear hcs hs hE hcell hsz
   go_wp2_with fail
   (with_reducible refine HCB.out.mono ?_)
   rintro e w2 ⟨i,rfl,hi,hb2⟩
   have HB2:Hid (Below w.heap.size w w2):=hid (HB.out.trans (hb2.mono HB.out.size))
   by_cases hok:okText s.data.toList
   ·have hE:=HE2.out
    rw [if_neg (fun g=>g hok)] at hE
    have c5:¬ (0:Int)<=i:=by have:=hi.2 hok;omega
    rcases Nat.eq_zero_or_pos k with hk0|hk0
    ·subst hk0
     have H1:Hid (textsF l=textsL (prevB l (0+1)) (l.drop (0+1))):=hid (by rw [hE,prevB_succ,HS.out];rfl)
     clear hE hi hb2 HCB HE HE2 hok
     go_wp2_with fail
     go_roundw
     case rel=>exact ⟨0+1,by omega,by go_num,H1,HB2⟩
     case measure=>simp [intOf];omega
    ·obtain ⟨q,hq⟩:∃ q,l[k - 1]?=some q:=⟨_,List.getElem?_eq_getElem (by rw [HN.out];omega)⟩
     have hp:prevB l k=some q:=by unfold prevB;rw [if_neg (by omega)];exact hq
     have e1:=(hb2.cell (p:=⟨b1,_,none⟩) (Nat.lt_of_lt_of_le hbl1 HB.out.size)).trans (HCL.out (k - 1) q hq)
     rw [hp] at hE
     have c6:(0:Int)<(k:Int):=by omega
     have c7:(0:Int)<=(k:Int) - 1:=by omega
     have c8:(k:Int) - 1<(n:Int):=by omega
     have c9:((k:Int) - 1).toNat=k - 1:=by omega
     obtain ⟨bb,hbb⟩:∃ bb,Op.bytesLess q.toList s.toList=bb:=⟨_,rfl⟩
     rw [show notRise (some q) s=!bb from by rw [<-hbb];rfl] at hE
     cases bb with
     | false =>
       have HR:Hid (IntB (textsF l) w (.returned (.int .i64 14)) w2):=hid (by rw [hE];exact ⟨rfl,HB2.out⟩)
       clear hE hi hb2 HCB HE HE2 hok HCL hq hp HB HB2 HL
       go_wp2_with fail
       try go_ret
       exact HR.out
     | true =>
       have H1:Hid (textsF l=textsL (prevB l (k+1)) (l.drop (k+1))):=hid (by rw [hE,prevB_succ,HS.out];rfl)
       clear hE hi hb2 HCB HE HE2 hok HCL hq hp HB HL
       go_wp2_with fail
       go_roundw
       case rel=>exact ⟨k+1,by omega,by go_num,H1,HB2⟩
       case measure=>simp [intOf];omega
   ·have hE:=HE2.out
    rw [if_pos hok] at hE
    have HR:Hid (IntB (textsF l) w (.returned (.int .i64 3)) w2):=hid (by rw [hE];exact ⟨rfl,HB2.out⟩)
    have c5:(0:Int)<=i:=by
     rcases Int.lt_or_le i 0 with h|h
     ·exact absurd (hi.1 h) hok
     ·exact h
    clear hE hi hb2 HCB HE HE2 hok HCL HB HB2 HL
    go_wp2_with fail
    try go_ret
    exact HR.out
  ·obtain rfl:k=n:=by omega
   have HR:Hid (IntB (textsF l) w (.returned (.int .i64 0)) wr):=hid (by rw [HE.out,List.drop_of_length_le (by rw [HN.out];exact Nat.le_refl _),textsL_nil];exact ⟨rfl,HB.out⟩)
   clear HE HB HL
   go_wp2_with fail
   try go_ret
   exact HR.out
def StrB (s:ByteArray) (w:World) (e:Ending) (w':World):Prop:=e=.returned (.string s)/\Below w.heap.size w w'
theorem names_any (a b:Value) (ns:List ByteArray) (hl:ns.length<=1000) (w:World) (hT:Tabs w)
 (hcall:∀ (j:Nat) (s:ByteArray) (W:World),ns[j]?=some s->Below w.heap.size w W->s.size<=140737488351232/\Calls Tryz.prog 90 #[.int .i64 (j:Int),a,b] W (StrB s W)) :
 Calls Tryz.prog 42 #[.int .i64 (ns.length:Int),.func (.func 90) #[] #[a,b]] w (IntB (namesL none ns) w):=by
 have HT:=hid hT
 have HC:=hid hcall
 obtain ⟨n,hn⟩:∃ n,ns.length=n:=⟨_,rfl⟩
 have HN:=hid hn
 rw [hn] at hl ⊢
 clear hT hn hcall
 go_enter Tryz.func42,Tryz.ntmps42
 go_wp2_with fail
 go_loopw [8] (fun v8 wr=>∃ k:Nat,k<=n/\v8=.int .i64 k/\Hid (namesL none ns=namesL (prevB ns k) (ns.drop k))/\Hid (Below w.heap.size w wr)) (fun v8 _=>n - (intOf v8).toNat)
 case atStart=>exact ⟨0,Nat.zero_le _,rfl,hid rfl,hid (Below.refl _ _)⟩
 case round =>
  obtain ⟨k,hkn,rfl,HE,HB⟩:=hrel
  by_cases hlt:k<n
  ·obtain ⟨s,hs⟩:∃ s,ns[k]?=some s:=⟨_,List.getElem?_eq_getElem (by rw [HN.out];exact hlt)⟩
   obtain ⟨hsz,hc0⟩:=HC.out k s wr hs HB.out
   have HC0:=hid hc0
   have hE:=HE.out
   rw [drop_at hs,namesL_cons] at hE
   have r1:(0:Int)<=(k:Int):=by omega
   have r2:(k:Int)<(n:Int):=by omega
   have HS:=hid hs
   have HE2:=hid hE
   have HSZ:=hid hsz
   clear hs hE hc0 hsz HE
   go_wp2_with fail
   (with_reducible refine HC0.out.mono ?_)
   rintro e w1 ⟨rfl,hb1⟩
   have HB1:Hid (Below w.heap.size w w1):=hid (HB.out.trans (hb1.mono HB.out.size))
   clear hb1 HC0 HB
   by_cases hlong:100<s.size
   ·have HR:Hid (IntB (namesL none ns) w (.returned (.int .i64 2)) w1):=hid (by
     have hE:=HE2.out
     have h2:nameE s=2:=by unfold nameE;rw [if_pos hlong]
     rw [h2,if_pos (by decide)] at hE
     rw [hE];exact ⟨rfl,HB1.out⟩)
    have c1:(100:Int)<(s.size:Int):=by omega
    clear HE2 HB1 HS HC hlong
    go_wp2_with fail
    try go_ret
    exact HR.out
   have c1:¬ (100:Int)<(s.size:Int):=by omega
   have HCB:=hid (bad_any s w1 (HT.out.keep HB1.out) (by omega))
   go_wp2_with fail
   (with_reducible refine HCB.out.mono ?_)
   rintro e w2 ⟨i,rfl,hi,hb2⟩
   have HB2:Hid (Below w.heap.size w w2):=hid (HB1.out.trans (hb2.mono HB1.out.size))
   by_cases hok:okText s.data.toList
   ·have hE:=HE2.out
    have h2:nameE s=0:=by unfold nameE;rw [if_neg hlong,if_neg (fun g=>g hok)]
    rw [h2,if_neg (fun g=>g rfl)] at hE
    have c5:¬ (0:Int)<=i:=by have:=hi.2 hok;omega
    rcases Nat.eq_zero_or_pos k with hk0|hk0
    ·subst hk0
     have H1:Hid (namesL none ns=namesL (prevB ns (0+1)) (ns.drop (0+1))):=hid (by rw [hE,prevB_succ,HS.out];rfl)
     clear hE h2 hi hb2 HCB HE2 hok HB1 hlong c1
     go_wp2_with fail
     go_roundw
     case rel=>exact ⟨0+1,by omega,by go_num,H1,HB2⟩
     case measure=>simp [intOf];omega
    ·obtain ⟨q,hq⟩:∃ q,ns[k - 1]?=some q:=⟨_,List.getElem?_eq_getElem (by rw [HN.out];omega)⟩
     have hp:prevB ns k=some q:=by unfold prevB;rw [if_neg (by omega)];exact hq
     have hc2:=(HC.out (k - 1) q w2 hq HB2.out).2
     have ek:((k - 1:Nat):Int)=(k:Int) - 1:=by omega
     rw [ek] at hc2
     have HC2:=hid hc2
     rw [hp] at hE
     have c6:(0:Int)<(k:Int):=by omega
     obtain ⟨bb,hbb⟩:∃ bb,Op.bytesLess q.toList s.toList=bb:=⟨_,rfl⟩
     rw [show notRise (some q) s=!bb from by rw [<-hbb];rfl] at hE
     have HE3:=hid hE
     clear hE hc2 ek h2 hi hb2 HCB HE2 hok hp hq HB1 hlong c1
     go_wp2_with fail
     (with_reducible refine HC2.out.mono ?_)
     rintro e w3 ⟨rfl,hb3⟩
     have HB3:Hid (Below w.heap.size w w3):=hid (HB2.out.trans (hb3.mono HB2.out.size))
     clear hb3 HC2 HB2
     cases bb with
     | false =>
       have HR:Hid (IntB (namesL none ns) w (.returned (.int .i64 14)) w3):=hid (by have hE:=HE3.out;rw [hE];exact ⟨rfl,HB3.out⟩)
       clear HE3 HB3 HC HS
       go_wp2_with fail
       try go_ret
       exact HR.out
     | true =>
       have H1:Hid (namesL none ns=namesL (prevB ns (k+1)) (ns.drop (k+1))):=hid (by have hE:=HE3.out;rw [hE,prevB_succ,HS.out];rfl)
       clear HE3 HS
       go_wp2_with fail
       go_roundw
       case rel=>exact ⟨k+1,by omega,by go_num,H1,HB3⟩
       case measure=>simp [intOf];omega
   ·have HR:Hid (IntB (namesL none ns) w (.returned (.int .i64 3)) w2):=hid (by
     have hE:=HE2.out
     have h2:nameE s=3:=by unfold nameE;rw [if_neg hlong,if_pos hok]
     rw [h2,if_pos (by decide)] at hE
     rw [hE];exact ⟨rfl,HB2.out⟩)
    have c5:(0:Int)<=i:=by
     rcases Int.lt_or_le i 0 with h|h
     ·exact absurd (hi.1 h) hok
     ·exact h
    clear hi hb2 HCB HE2 hok HB1 HB2 hlong c1 HC HS
    go_wp2_with fail
    try go_ret
    exact HR.out
  ·obtain rfl:k=n:=by omega
   have HR:Hid (IntB (namesL none ns) w (.returned (.int .i64 0)) wr):=hid (by rw [HE.out,List.drop_of_length_le (by rw [HN.out];exact Nat.le_refl _),namesL_nil];exact ⟨rfl,HB.out⟩)
   clear HE HB HC
   go_wp2_with fail
   try go_ret
   exact HR.out
theorem names_zero (v:Value) (w:World):Calls Tryz.prog 42 #[.int .i64 0,v] w (IntB 0 w):=by
 go_enter Tryz.func42,Tryz.ntmps42
 go_wp2_with fail
 go_loopw [8] (fun v8 wr=>v8=.int .i64 0/\wr=w) (fun _ _=>0)
 case atStart=>exact ⟨rfl,rfl⟩
 case round =>
  obtain ⟨rfl,rfl⟩:=hrel
  go_wp2_with fail
  try go_ret
  exact ⟨rfl,Below.refl _ _⟩
theorem fields1_any (L I:Nat) (ad:Option Addr) (cap:Nat) (l:List (Fd Ty)) (i k:Nat) (x:Fd Ty) (w:World) (h:TRow w (fun _=>True) true l (.slice ad l.length cap)) (hL:w.cell? ⟨L,0,none⟩=some (.slice ad l.length cap)) (hI:w.cell? ⟨I,0,none⟩=some (.int .i64 (i:Int))) (hk:k<=1000) (hx:l[i - 1+k]?=some x) :
 Calls Tryz.prog 90 #[.int .i64 (k:Int),.pointer (some ⟨L,0,none⟩),.pointer (some ⟨I,0,none⟩)] w (StrB x.n w):=by
 have hlt:=(List.getElem?_eq_some_iff.1 hx).1
 have hbn:=h.bound
 obtain ⟨b1,o1,hd1,-,hbl1,hcs⟩:=h.fieldF (by omega)
 subst hd1
 obtain ⟨p,hp,-,-,-,hg⟩:=hcs _ x hx
 have e0:=hg.c0
 have hpn:p.n=x.n:=by rw [<-hp];rfl
 rw [hpn] at e0
 obtain ⟨n,hn⟩:∃ n,l.length=n:=⟨_,rfl⟩
 rw [hn] at hL hlt hbn
 obtain ⟨j,hj⟩:∃ j,i - 1+k=j:=⟨_,rfl⟩
 rw [hj] at e0 hlt
 have HJ:max ((i:Int) - 1) 0+(k:Int)=(j:Int):=by omega
 have hi63:(i:Int)<=9223372036854775807:=by omega
 have q0:max ((i:Int) - 1) 0=((i - 1:Nat):Int):=by omega
 have q1:IntKind.i64.wrap ((i:Int) - 1)=(i:Int) - 1:=by rw [IntKind.wrap_i64];omega
 have q2:((i - 1:Nat):Int)+(k:Int)=(j:Int):=by omega
 have q3:IntKind.i64.wrap (j:Int)=(j:Int):=by rw [IntKind.wrap_i64];omega
 have r1:(0:Int)<=(j:Int):=by omega
 have r2:(j:Int)<(n:Int):=by omega
 have r3:(j:Int).toNat=j:=rfl
 clear h hcs hp hg hpn hx
 go_enter Tryz.func90,Tryz.ntmps90
 go_wp2_with fail
 try go_ret
 exact ⟨rfl,Below.refl _ _⟩
theorem clash_any (c av:Value) (q:Lt) (w:World) (hq:TyAt w (fun _=>True) q) (hk:KOk q.v) :
 Calls Tryz.prog 47 #[c,q.val,av] w (IntB (clashF q.v) w):=by
 have hb:=(Below.refl w.heap.size w).alloc (Nat.le_refl _) (.cells #[.int .i64 q.v.k,.int .i64 q.v.lo,.int .i64 q.v.hi,.slice q.xd q.v.x.length q.xc,.slice q.td q.v.t.length q.tc,.slice q.fd q.v.f.length q.fc,.string q.v.n] 27)
 have hc:=heap_alloc_new w (.cells #[.int .i64 q.v.k,.int .i64 q.v.lo,.int .i64 q.v.hi,.slice q.xd q.v.x.length q.xc,.slice q.td q.v.t.length q.tc,.slice q.fd q.v.f.length q.fc,.string q.v.n] 27)
 have HB:=hid hb
 have HQ:=hid (hq.keep hb)
 have HK:=hid hk
 have hbn:=hq.t.wide
 rw [tf_len] at hbn
 obtain ⟨n,hn⟩:∃ n,q.v.t.length=n:=⟨_,rfl⟩
 have HN:=hid hn
 rw [hn] at hc HB HQ hbn
 unfold Lt.val
 rw [hn]
 generalize hta:q.td=ta at *
 have HTA:=hid hta
 clear hb hq hk hn hta
 go_enter Tryz.func47,Tryz.ntmps47
 go_upto_region 1 with fail
 generalize World.alloc w _=w1 at hc HB HQ ⊢
 obtain ⟨c0,c1,c2,c3,c4,c5,c6,-⟩:=ty_cells hc
 clear hc
 by_cases h11:q.v.k=11
 rotate_left
 ·have HR:Hid (IntB (clashF q.v) w (.returned (.int .i64 0)) w1):=hid (by unfold clashF;rw [if_neg h11];exact ⟨rfl,HB.out⟩)
  have e11:(q.v.k==11)=false:=beq_eq_false_iff_ne.2 h11
  clear HB HQ HK HTA h11
  go_wp2_with fail
  try go_ret
  exact HR.out
 have HL:Hid (clashF q.v=clashL 0 q.v.t):=hid (by unfold clashF;rw [if_pos h11])
 have e11:(q.v.k==11)=true:=beq_iff_eq.2 h11
 clear h11
 go_wp2_with fail
 clear c0 c1 c2 c3 c4 c5 c6
 go_loopw [7,16] (fun v7 v16 wr=>∃ (k:Nat) (al:Int),k<=n/\v16=.int .i64 k/\v7=.int .i64 al/\Hid (clashF q.v=clashL al (q.v.t.drop k))/\Hid (Below w1.heap.size w1 wr)) (fun _ v16 _=>n - (intOf v16).toNat)
 case atStart=>exact ⟨0,0,Nat.zero_le _,rfl,rfl,hid (by rw [HL.out];rfl),hid (Below.refl _ _)⟩
 case round =>
  obtain ⟨k,al,hkn,rfl,rfl,HE,HBr⟩:=hrel
  by_cases hlt:k<n
  ·obtain ⟨x,hx⟩:∃ x,q.v.t[k]?=some x:=⟨_,List.getElem?_eq_getElem (by rw [HN.out];exact hlt)⟩
   obtain ⟨b1,o1,hd1,-,hbl1,hcs1⟩:=HQ.out.t.elem (by rw [HN.out];omega)
   rw [HTA.out] at hd1
   subst hd1
   obtain ⟨q1,hq1,hv1,hg1⟩:=hcs1 k x hx
   obtain ⟨d0,d1,d2,d3,d4,d5,d6⟩:=hg1.through (HBr.out.block _ hbl1)
   have hba:=(Below.refl wr.heap.size wr).alloc (Nat.le_refl _) (.cells #[.int .i64 q1.v.k,.int .i64 q1.v.lo,.int .i64 q1.v.hi,.slice q1.xd q1.v.x.length q1.xc,.slice q1.td q1.v.t.length q1.tc,.slice q1.fd q1.v.f.length q1.fc,.string q1.v.n] 27)
   have hxb:=heap_alloc_new wr (.cells #[.int .i64 q1.v.k,.int .i64 q1.v.lo,.int .i64 q1.v.hi,.slice q1.xd q1.v.x.length q1.xc,.slice q1.td q1.v.t.length q1.tc,.slice q1.fd q1.v.f.length q1.fc,.string q1.v.n] 27)
   have HBa:=hid (HBr.out.trans (hba.mono HBr.out.size))
   have HTD:Hid (∀ W,Below w1.heap.size w1 W->Calls Tryz.prog 70 #[c,q1.val] W (IntB (toldI x.flat) W)):=hid (fun W hW=>by
    have:=told_any c q1 W (hv1.keep hW) (by rw [hq1];exact HK.out.t x (List.mem_of_getElem? hx))
    rwa [hq1] at this)
   unfold Lt.val at HTD
   have hE:=HE.out
   rw [drop_at hx,clashL] at hE
   have HE2:=hid hE
   have r1:(0:Int)<=(k:Int):=by omega
   have r2:(k:Int)<(n:Int):=by omega
   obtain ⟨tt,htt⟩:∃ tt,toldI x.flat=tt:=⟨_,rfl⟩
   rw [htt] at HTD HE2
   clear hcs1 hx hq1 hv1 hba hg1 htt hE HE HBr
   go_upto_region 6 with fail
   generalize World.alloc wr _=wx at hxb HBa ⊢
   generalize hxbe:wr.heap.size=xb at hxb ⊢
   clear hxbe d0 d1 d2 d3 d4 d5 d6
   obtain ⟨e0,e1,e2,e3,e4,e5,e6,-⟩:=ty_cells hxb
   have HXB:=hid hxb
   clear hxb
   go_wp2_with fail
   (with_reducible refine (HTD.out _ HBa.out).mono ?_)
   rintro e w2 ⟨rfl,hb2⟩
   have HB2:=hid (HBa.out.trans (hb2.mono HBa.out.size))
   have hxb2:=(hb2.block _ (Array.getElem?_eq_some_iff.1 HXB.out).1).trans HXB.out
   clear e0 e1 e2 e3 e4 e5 e6 hb2 HXB HBa
   by_cases hz:bits .and .i64 al tt=0
   ·have hE:=HE2.out
    rw [if_neg (fun g=>g hz)] at hE
    have HE3:=hid hE
    obtain ⟨e0,e1,e2,e3,e4,e5,e6,-⟩:=ty_cells hxb2
    have z0:(bits .and .i64 al tt==0)=true:=beq_iff_eq.2 hz
    clear hE HE2 hxb2
    go_wp2_with fail
    (with_reducible refine (HTD.out _ HB2.out).mono ?_)
    rintro e w3 ⟨rfl,hb3⟩
    have HB3:=hid (HB2.out.trans (hb3.mono HB2.out.size))
    clear e0 e1 e2 e3 e4 e5 e6 hb3 HB2 z0 hz HTD
    go_wp2_with fail
    go_roundw
    case rel=>exact ⟨k+1,bits .or .i64 al tt,by omega,by go_num,rfl,HE3,HB3⟩
    case measure=>simp [intOf];omega
   ·have HR:Hid (IntB (clashF q.v) w (.returned (.int .i64 13)) w2):=hid (by
     have hE:=HE2.out
     rw [if_pos hz] at hE
     rw [hE];exact ⟨rfl,HB.out.trans (HB2.out.mono HB.out.size)⟩)
    have z0:(bits .and .i64 al tt==0)=false:=beq_eq_false_iff_ne.2 hz
    have z1:(bits .and .i64 al tt != 0)=true:=by rw [bne,z0];rfl
    clear HE2 hxb2 HB2 HTD
    go_wp2_with fail
    try go_ret
    exact HR.out
  ·obtain rfl:k=n:=by omega
   have HR:Hid (IntB (clashF q.v) w (.returned (.int .i64 0)) wr):=hid (by rw [HE.out,List.drop_of_length_le (by rw [HN.out];exact Nat.le_refl _),clashL];exact ⟨rfl,HB.out.trans (HBr.out.mono HB.out.size)⟩)
   clear HE HBr
   go_wp2_with fail
   try go_ret
   exact HR.out
theorem part_rec {J:Nat} {r:Lt} {full:Bool} {d:Nat} (hon:OnAll J r full d) (T:Lt) (q:Loc) (w:World) (ha:Asked J r full T q w) (hk:TOk T.v) (hg:Gd (d+1) q.v) (hkd:T.v.k=10) :
 Calls Tryz.prog 53 #[.pointer (some ⟨J,0,none⟩),T.val,q.val] w (FitPost (PartFit full T.v q.v) (d+1) w):=by
 obtain ⟨htq,hb2⟩:=tq_start w T q
 have hA2:=ha.keep hb2
 have HKD:=hid hkd
 clear hkd
 unfold Lt.val Loc.val
 go_enter Tryz.func53,Tryz.ntmps53
 go_upto_region 1 with fail
 generalize World.alloc (World.alloc w _) _=w2 at htq hb2 hA2 ⊢
 have hkd:=HKD.out
 obtain ⟨c0,c1,c2,c3,c4,c5,c6,-⟩:=ty_cells htq.t
 obtain ⟨v0,v1,v2,v3,v4,v5⟩:=six_at htq.q
 rw [hkd] at c0
 have HC:Hid (Calls Tryz.prog 83 #[.pointer (some ⟨J,0,none⟩),.slice T.fd T.v.f.length T.fc,q.val] w2 (FitPost (RecFit full T.v.f q.v.e) (d+1) w2)):=hid (record_any hon T q w2 hA2 hk hg)
 unfold Loc.val at HC
 have HB2:=hid hb2
 clear hkd htq hb2 hA2 ha hk hg hon
 go_wp2_with fail
 (with_reducible refine HC.out.mono ?_)
 rintro e w3 ⟨ad,pl,pc,bad,rfl,hbad,hp,hb3⟩
 have HF:Hid (FitPost (PartFit full T.v q.v) (d+1) w (.returned (.tuple #[.slice ad pl pc,.bool bad])) w3):=hid ⟨ad,pl,pc,bad,rfl,by rw [part10 HKD.out];exact hbad,hp,HB2.out.trans (hb3.mono HB2.out.size)⟩
 clear hbad hp hb3 HC HB2 c0 c1 c2 c3 c4 c5 c6 v0 v1 v2 v3 v4 v5
 go_wp2_with fail
 exact bodyPost_ret (v:=.tuple #[.slice ad pl pc,.bool bad]) (by simp [results,Tryz.results53,go_sem]) rfl HF.out
theorem part_any {J:Nat} {r:Lt} {full:Bool} {d:Nat} (hon:OnAll J r full d) (T:Lt) (q:Loc) (w:World) (ha:Asked J r full T q w) (hk:TOk T.v) (h11:T.v.k≠11) (hg:Gd (d+1) q.v) :
 Calls Tryz.prog 53 #[.pointer (some ⟨J,0,none⟩),T.val,q.val] w (FitPost (PartFit full T.v q.v) (d+1) w):=by
 have h1:=hk.k.k1
 have h2:=hk.k.k2
 have hcs:(T.v.k=1\/T.v.k=2\/T.v.k=3\/T.v.k=5)\/T.v.k=4\/T.v.k=6\/T.v.k=7\/T.v.k=8\/T.v.k=9\/T.v.k=10:=by omega
 rcases hcs with h|h|h|h|h|h|h
 ·exact part_other T q w ha hk hg h
 ·exact part_int T q w ha hk hg h
 ·exact part_text T q w ha hk hg h
 ·exact part_oneof T q w ha hk hg h
 ·exact part_list hon T q w ha hk hg h
 ·exact part_map hon T q w ha hk hg h
 ·exact part_rec hon T q w ha hk hg h
theorem pick_at {a b:Ty} {v:Int} {k:Nat} (hb:a.flat[k]?=some b) (ht:tells b.k v=true) (hlt:∀ j y,j<k->a.flat[j]?=some y->tells y.k v=false):a.pick v=some b:=by
 unfold Ty.pick
 obtain ⟨hk,rfl⟩:=List.getElem?_eq_some_iff.1 hb
 rw [List.find?_eq_some_iff_getElem]
 refine ⟨ht,k,hk,rfl,fun j hj=>?_⟩
 rw [Bool.not_eq_true',hlt j _ hj (List.getElem?_eq_getElem (by omega))]
theorem pick_no {a:Ty} {v:Int} (hlt:∀ j y,j<a.flat.length->a.flat[j]?=some y->tells y.k v=false):a.pick v=none:=by
 unfold Ty.pick
 rw [List.find?_eq_none]
 intro b hb
 obtain ⟨j,hj⟩:=List.getElem?_of_mem hb
 rw [hlt j b (List.getElem?_eq_some_iff.1 hj).1 hj];decide
theorem jat_cells {w:World} {J:Nat} {r:Lt} {full:Bool} (h:JAt w J r full):w.cell? ⟨J,0,none⟩=some (.slice none 0 0)/\w.cell? ⟨J,1,none⟩=some (.int .i64 r.v.k)/\w.cell? ⟨J,2,none⟩=some (.int .i64 r.v.lo)/\w.cell? ⟨J,3,none⟩=some (.int .i64 r.v.hi)/\w.cell? ⟨J,4,none⟩=some (.slice r.xd r.v.x.length r.xc)/\w.cell? ⟨J,5,none⟩=some (.slice r.td r.v.t.length r.tc)/\w.cell? ⟨J,6,none⟩=some (.slice r.fd r.v.f.length r.fc)/\w.cell? ⟨J,7,none⟩=some (.string r.v.n):=by
 unfold JAt at h
 refine ⟨?_,?_,?_,?_,?_,?_,?_,?_⟩<;>simp [World.cell?,h]
theorem wrong_step {J:Nat} {r:Lt} {full:Bool} {d:Nat} (hon:OnAll J r full d):WrongAll J r full (d+1):=by
 intro T q w ha hk hg
 obtain ⟨htq,hb2⟩:=tq_start w T q
 have hA2:=ha.keep hb2
 have hvk:=(Gd.ok hg)
 have hv0:=hvk.k0
 have hv6:=hvk.k6
 have HON:=hid hon
 have HK:=hid hk
 have HG:=hid hg
 unfold Lt.val Loc.val
 clear hon hk hg ha hvk
 go_enter Tryz.func30,Tryz.ntmps30
 go_upto_region 1 with fail
 generalize World.alloc (World.alloc w _) _=w2 at htq hb2 hA2 ⊢
 generalize htb:w.heap.size=tb at htq ⊢
 have HTQ:=hid htq
 have HA2:=hid hA2
 have HB2:Hid (Below w.heap.size w w2):=hid hb2
 have hBd:Below w2.heap.size w2 w2.drew:=Gx.drewN_below w2 1 _
 have hkeep:∀ W,Below w2.heap.size w2 W->(fun w'=>w'.cell? ⟨J,0,none⟩=some (.slice none 0 0)/\w'.cell? ⟨J,1,none⟩=some (.int .i64 r.v.k)/\w'.cell? ⟨J,2,none⟩=some (.int .i64 r.v.lo)/\w'.cell? ⟨J,3,none⟩=some (.int .i64 r.v.hi)/\w'.cell? ⟨J,4,none⟩=some (.slice r.xd r.v.x.length r.xc)/\w'.cell? ⟨J,5,none⟩=some (.slice r.td r.v.t.length r.tc)/\w'.cell? ⟨J,6,none⟩=some (.slice r.fd r.v.f.length r.fc)/\w'.cell? ⟨J,7,none⟩=some (.string r.v.n)/\w'.cell? ⟨tb,0,none⟩=some (.int .i64 T.v.k)/\w'.cell? ⟨tb,1,none⟩=some (.int .i64 T.v.lo)/\w'.cell? ⟨tb,2,none⟩=some (.int .i64 T.v.hi)/\w'.cell? ⟨tb,3,none⟩=some (.slice T.xd T.v.x.length T.xc)/\w'.cell? ⟨tb,4,none⟩=some (.slice T.td T.v.t.length T.tc)/\w'.cell? ⟨tb,5,none⟩=some (.slice T.fd T.v.f.length T.fc)/\w'.cell? ⟨tb,6,none⟩=some (.string T.v.n)) W:=fun W hW=>by
  obtain ⟨j0,j1,j2,j3,j4,j5,j6,j7⟩:=jat_cells (HA2.out.j.keep hW)
  obtain ⟨c0,c1,c2,c3,c4,c5,c6,-⟩:=ty_cells (HTQ.out.keep hW).t
  exact ⟨j0,j1,j2,j3,j4,j5,j6,j7,c0,c1,c2,c3,c4,c5,c6⟩
 have hk0:=hkeep w2.drew hBd
 have HKEEP:=hid hkeep
 have hcall:=flat_any r T w2.drew (HA2.out.t.keep hBd) HK.out.k HK.out.l
 unfold Lt.val at hcall
 have HCALL:=hid hcall
 have HBd:=hid hBd
 clear hkeep hcall hBd htq hA2 hb2 htb
 go_region_held3 (fun w'=>w'.cell? ⟨J,0,none⟩=some (.slice none 0 0)/\w'.cell? ⟨J,1,none⟩=some (.int .i64 r.v.k)/\w'.cell? ⟨J,2,none⟩=some (.int .i64 r.v.lo)/\w'.cell? ⟨J,3,none⟩=some (.int .i64 r.v.hi)/\w'.cell? ⟨J,4,none⟩=some (.slice r.xd r.v.x.length r.xc)/\w'.cell? ⟨J,5,none⟩=some (.slice r.td r.v.t.length r.tc)/\w'.cell? ⟨J,6,none⟩=some (.slice r.fd r.v.f.length r.fc)/\w'.cell? ⟨J,7,none⟩=some (.string r.v.n)/\w'.cell? ⟨tb,0,none⟩=some (.int .i64 T.v.k)/\w'.cell? ⟨tb,1,none⟩=some (.int .i64 T.v.lo)/\w'.cell? ⟨tb,2,none⟩=some (.int .i64 T.v.hi)/\w'.cell? ⟨tb,3,none⟩=some (.slice T.xd T.v.x.length T.xc)/\w'.cell? ⟨tb,4,none⟩=some (.slice T.td T.v.t.length T.tc)/\w'.cell? ⟨tb,5,none⟩=some (.slice T.fd T.v.f.length T.fc)/\w'.cell? ⟨tb,6,none⟩=some (.string T.v.n)) (first|exact hk0|exact hk1|go_keep)
  (first
    | (go_simp;(with_reducible refine HCALL.out.mono ?_);rintro e w3 ⟨v,rfl,ht,hb3⟩;obtain ⟨fad,fcap,rfl⟩:=ht.tlen;have hk1:=HKEEP.out w3 (HBd.out.trans (hb3.mono HBd.out.size));have HT:=hid ht;have HB3:=hid (HBd.out.trans (hb3.mono HBd.out.size));clear ht hb3))
 clear hk0 hk1 HCALL HKEEP HBd
 have hn63:=HT.out.bound
 rw [tf_len] at hn63
 have hTB:Below w3.heap.size w3 w3:=Below.refl _ _
 obtain ⟨n,hn⟩:∃ n,T.v.flat.length=n:=⟨_,rfl⟩
 rw [hn] at hn63 ⊢
 have HN:=hid hn
 clear hn hTB
 go_wp2_with fail
 go_loopw [17] (fun v17 wr=>∃ k:Nat,k<=n/\v17=.int .i64 k/\Hid (∀ j y,j<k->T.v.flat[j]?=some y->tells y.k q.v.k=false)/\Hid (Below w3.heap.size w3 wr)) (fun v17 _=>n - (intOf v17).toNat)
 case atStart=>exact ⟨0,Nat.zero_le _,rfl,hid (fun j y h=>by omega),hid (Below.refl _ _)⟩
 case round =>
  obtain ⟨k,hkn,rfl,HFr,HBr⟩:=hrel
  by_cases hlt:k<n
  ·obtain ⟨x,hx⟩:∃ x,T.v.flat[k]?=some x:=⟨_,List.getElem?_eq_getElem (by rw [HN.out];exact hlt)⟩
   obtain ⟨b1,o1,hd1,-,hbl1,hcs1⟩:=HT.out.elem (by rw [HN.out];omega)
   subst hd1
   obtain ⟨q1,hq1,hv1,hg1⟩:=hcs1 k x hx
   obtain ⟨d0,d1,d2,d3,d4,d5,d6⟩:=hg1.through (HBr.out.block _ hbl1)
   have hfl:=HK.out.flat x (List.mem_of_getElem? hx)
   have hba:=(Below.refl wr.heap.size wr).alloc (Nat.le_refl _) (.cells #[.int .i64 q1.v.k,.int .i64 q1.v.lo,.int .i64 q1.v.hi,.slice q1.xd q1.v.x.length q1.xc,.slice q1.td q1.v.t.length q1.tc,.slice q1.fd q1.v.f.length q1.fc,.string q1.v.n] 27)
   have hxb:=heap_alloc_new wr (.cells #[.int .i64 q1.v.k,.int .i64 q1.v.lo,.int .i64 q1.v.hi,.slice q1.xd q1.v.x.length q1.xc,.slice q1.td q1.v.t.length q1.tc,.slice q1.fd q1.v.f.length q1.fc,.string q1.v.n] 27)
   have HBa:Hid (Below w3.heap.size w3 (wr.alloc (.cells #[.int .i64 q1.v.k,.int .i64 q1.v.lo,.int .i64 q1.v.hi,.slice q1.xd q1.v.x.length q1.xc,.slice q1.td q1.v.t.length q1.tc,.slice q1.fd q1.v.f.length q1.fc,.string q1.v.n] 27))):=hid (HBr.out.trans (hba.mono HBr.out.size))
   have r1:(0:Int)<=(k:Int):=by omega
   have r2:(k:Int)<(n:Int):=by omega
   have r4:(k:Int).toNat=k:=rfl
   have HX:=hid hx
   have HQ1:=hid hq1
   have HV1:=hid hv1
   have HFL:=hid hfl
   clear hcs1 hx hq1 hv1 hba hfl hg1
   go_upto_region 4 with fail
   generalize World.alloc wr _=wx at hxb HBa ⊢
   generalize hxbe:wr.heap.size=xb at hxb ⊢
   clear hxbe d0 d1 d2 d3 d4 d5 d6
   have hB2x:Below w2.heap.size w2 wx:=HB3.out.trans (HBa.out.mono HB3.out.size)
   obtain ⟨v0,v1,v2,v3,v4,v5⟩:=six_at (HTQ.out.keep hB2x).q
   obtain ⟨e0,e1,e2,e3,e4,e5,e6,-⟩:=ty_cells hxb
   have h1:=HFL.out.1.k.k1
   have h2:=HFL.out.1.k.k2
   have h3:=HFL.out.2
   obtain ⟨tt,htt⟩:∃ tt,tells x.k q.v.k=tt:=⟨_,rfl⟩
   have hct:=tells_any q1 q.v.k wx (by rw [HQ1.out];exact h1) (by rw [HQ1.out];omega) hv0 hv6
   rw [HQ1.out,htt] at hct
   unfold Lt.val at hct
   rw [HQ1.out] at hct
   have HCT:=hid hct
   have HTT:=hid htt
   have HXB:=hid hxb
   have HB2X:=hid hB2x
   rw [HQ1.out] at e0 e1 e2 e3 e4 e5 e6
   clear hct htt hxb hB2x h1 h2 h3
   go_wp2_with fail
   (with_reducible refine HCT.out.mono ?_)
   rintro e w4 ⟨rfl,hb4⟩
   have HB4:Hid (Below w2.heap.size w2 w4):=hid (HB2X.out.trans (hb4.mono HB2X.out.size))
   have HBr4:Hid (Below w3.heap.size w3 w4):=hid (HBa.out.trans (hb4.mono HBa.out.size))
   have HXB4:=hid ((hb4.block _ (Array.getElem?_eq_some_iff.1 HXB.out).1).trans HXB.out)
   clear hb4 e0 e1 e2 e3 e4 e5 e6 v0 v1 v2 v3 v4 v5 HCT HXB HB2X HBa
   cases tt with
   | true =>
     obtain ⟨v0,v1,v2,v3,v4,v5⟩:=six_at (HTQ.out.keep HB4.out).q
     obtain ⟨e0,e1,e2,e3,e4,e5,e6,-⟩:=ty_cells HXB4.out
     rw [HQ1.out] at e0 e1 e2 e3 e4 e5 e6
     have hcp:=part_any HON.out q1 q w4 ⟨HA2.out.j.keep HB4.out,HA2.out.u.keep HB4.out,HV1.out.keep (HBr4.out),HA2.out.v.keep HB4.out⟩ (by rw [HQ1.out];exact HFL.out.1) (by rw [HQ1.out];exact HFL.out.2) HG.out
     rw [HQ1.out] at hcp
     unfold Lt.val Loc.val at hcp
     rw [HQ1.out] at hcp
     have HCP:=hid hcp
     have HPK:Hid (T.v.pick q.v.k=some x):=hid (pick_at HX.out HTT.out HFr.out)
     clear hcp
     go_wp2_with fail
     (with_reducible refine HCP.out.mono ?_)
     rintro e w5 ⟨ad,pl,pc,bad,rfl,hbad,hp,hb5⟩
     have HF:Hid (FitPost (Fit full T.v q.v) (d+1) w (.returned (.tuple #[.slice ad pl pc,.bool bad])) w5):=hid ⟨ad,pl,pc,bad,rfl,by rw [fit_some HPK.out];exact hbad,hp,HB2.out.trans ((HB4.out.trans (hb5.mono HB4.out.size)).mono HB2.out.size)⟩
     clear hbad hp hb5 HCP HPK e0 e1 e2 e3 e4 e5 e6 v0 v1 v2 v3 v4 v5 HB4 HBr4 HXB4 HX HQ1 HV1 HFL HTT HFr HBr HT HB3 HA2 HTQ HB2 HON HK HG
     go_wp2_with fail
     exact bodyPost_ret (v:=.tuple #[.slice ad pl pc,.bool bad]) (by simp [results,Tryz.results30,go_sem]) rfl HF.out
   | false =>
     have H1:Hid (∀ j y,j<k+1->T.v.flat[j]?=some y->tells y.k q.v.k=false):=hid (fun j y hj hy=>by
      by_cases e:j=k
      ·subst e;rw [HX.out] at hy;cases hy;exact HTT.out
      ·exact HFr.out j y (by omega) hy)
     clear HB4 HXB4 HX HQ1 HV1 HFL HTT HFr HBr
     go_wp2_with fail
     go_roundw
     case rel=>exact ⟨k+1,by omega,by go_num,H1,HBr4⟩
     case measure=>simp [intOf];omega
  ·obtain rfl:k=n:=by omega
   have HF:Hid (FitPost (Fit full T.v q.v) (d+1) w (.returned (.tuple #[.slice none 0 0,.bool true])) wr):=hid (fit_post true ⟨fun h=>(by cases h),fun h=>absurd h (fit_none (pick_no (by rw [HN.out];exact HFr.out)))⟩ (HB2.out.trans ((HB3.out.trans (HBr.out.mono HB3.out.size)).mono HB2.out.size)))
   clear HFr HBr HT HB3 HA2 HTQ HB2 HON HK HG
   go_wp2_with fail
   exact bodyPost_ret (v:=.tuple #[.slice none 0 0,.bool true]) (by simp [results,Tryz.results30,go_sem]) rfl HF.out
theorem wrong_any {J:Nat} {r:Lt} {full:Bool}:∀ d,d<=1000->WrongAll J r full d
 | 0,_=>fun T q w _ _ hg=>hg.elim
 | d+1,h=>wrong_step (on_any (wrong_any d (by omega)) (by omega))
def BothC (K:List ByteArray) (d:Nat):Prop:=∀ (jv:Value) (x y:Lt) (C:Nat->Prop) (w:World),Pn K d x.v->Pn K d y.v->x.v.k=y.v.k->TyAt w C x->TyAt w C y->(∀ b,w.heap.size<=b->C b)->Calls Tryz.prog 130 #[jv,x.val,y.val] w (BothPost K d x.v y.v C w)
theorem bothC_zero (K:List ByteArray):BothC K 0:=fun _ _ _ _ _ h=>h.elim
theorem bothT_any (K:List ByteArray) (hKn:K.length<=2000) (d:Nat) (IH:JoinC K d) (jv:Value) (x y:Lt) (C:Nat->Prop) (w:World) (hx:Pn K (d+1) x.v) (hy:Pn K (d+1) y.v) (hk:x.v.k=10) (hky:y.v.k=10) (hxa:TyAt w C x) (hya:TyAt w C y) (hC:∀ b,w.heap.size<=b->C b) :
 Calls Tryz.prog 130 #[jv,x.val,y.val] w (BothPost K (d+1) x.v y.v C w):=by
 have hbs:=BS.start w #[.int .i64 x.v.k,.int .i64 x.v.lo,.int .i64 x.v.hi,.slice x.xd x.v.x.length x.xc,.slice x.td x.v.t.length x.tc,.slice x.fd x.v.f.length x.fc,.string x.v.n] #[.int .i64 y.v.k,.int .i64 y.v.lo,.int .i64 y.v.hi,.slice y.xd y.v.x.length y.xc,.slice y.td y.v.t.length y.tc,.slice y.fd y.v.f.length y.fc,.string y.v.n]
 have hkr:=fun W=>kindJ_any x W (by omega) (by omega)
 have k7:(x.v.k==7)=false:=beq_eq_false_iff_ne.2 (by omega)
 have hkv:kindV x.v.k=6:=by rw [hk];rfl
 rw [hkv] at hkr
 obtain ⟨C',hC'⟩:∃ C':Nat->Prop,C'=fun b=>C b/\(b<w.heap.size\/w.heap.size+2<b):=⟨_,rfl⟩
 have htab:=fun (W:World) (hg:Below w.heap.size w W) (hs:w.heap.size+2<W.heap.size)=>tables_any K hKn d IH jv x y C' W hx hy hk hky ((hxa.weak (C:=C') (fun b h1 h2=>by rw [hC'];exact ⟨h1,.inl h2⟩)).keep hg) ((hya.weak (C:=C') (fun b h1 h2=>by rw [hC'];exact ⟨h1,.inl h2⟩)).keep hg) (fun b hb=>by rw [hC'];exact ⟨hC b (by omega),.inr (by omega)⟩)
 unfold BothPost at htab
 unfold Lt.val at hkr htab
 show Calls Tryz.prog 130 #[jv,.agg #[.int .i64 x.v.k,.int .i64 x.v.lo,.int .i64 x.v.hi,.slice x.xd x.v.x.length x.xc,.slice x.td x.v.t.length x.tc,.slice x.fd x.v.f.length x.fc,.string x.v.n],.agg #[.int .i64 y.v.k,.int .i64 y.v.lo,.int .i64 y.v.hi,.slice y.xd y.v.x.length y.xc,.slice y.td y.v.t.length y.tc,.slice y.fd y.v.f.length y.fc,.string y.v.n]] w _
 obtain ⟨mx,hmx⟩:∃ m,x.v.x.length=m:=⟨_,rfl⟩
 obtain ⟨mt,hmt⟩:∃ m,x.v.t.length=m:=⟨_,rfl⟩
 obtain ⟨mf,hmf⟩:∃ m,x.v.f.length=m:=⟨_,rfl⟩
 obtain ⟨nx,hnx⟩:∃ m,y.v.x.length=m:=⟨_,rfl⟩
 obtain ⟨nt,hnt⟩:∃ m,y.v.t.length=m:=⟨_,rfl⟩
 obtain ⟨nf,hnf⟩:∃ m,y.v.f.length=m:=⟨_,rfl⟩
 rw [hmx,hmt,hmf,hnx,hnt,hnf] at hbs ⊢
 have HMX:=hid hmx
 have HMT:=hid hmt
 have HMF:=hid hmf
 have HNX:=hid hnx
 have HNT:=hid hnt
 have HNF:=hid hnf
 have HX:=hid hx
 have HY:=hid hy
 have HXA:=hid hxa
 have HYA:=hid hya
 have HC:=hid hC
 simp only [hmx,hmt,hmf] at hkr
 simp only [hmx,hmt,hmf,hnx,hnt,hnf] at htab
 have HKR:=hid hkr
 have HTAB:=hid htab
 have HC':=hid hC'
 clear hx hy hk hky hxa hya hC IH hKn hkr htab hmx hmt hmf hnx hnt hnf hkv hC'
 go_enter Tryz.func130,Tryz.ntmps130
 go_upto_region 1 with fail
 generalize World.alloc (World.alloc (World.alloc w _) _) _=w1 at hbs ⊢
 obtain ⟨a0,a1,a2,a3,a4,a5,a6,-⟩:=ty_cells hbs.bx
 have HBS:=hid hbs
 clear hbs
 go_wp2_with fail
 (with_reducible refine (HKR.out w1).mono ?_)
 rintro e w2 ⟨rfl,hb2⟩
 have HB2:=hid (HBS.out.keep hb2)
 clear hb2 a0 a1 a2 a3 a4 a5 a6 HBS
 obtain ⟨a0,a1,a2,a3,a4,a5,a6,-⟩:=ty_cells HB2.out.bx
 obtain ⟨b0,b1,b2,b3,b4,b5,b6,-⟩:=ty_cells HB2.out.by_
 have HT2:=hid (HTAB.out w2 HB2.out.g HB2.out.vlt)
 go_wp2_with fail
 (with_reducible refine HT2.out.mono ?_)
 rintro e w5 ⟨z,rfl,hj,hp,hzk,hz,hb5⟩
 have HR:=hid (HB2.out.keep hb5)
 have HJ:=hid hj
 have HP:=hid hp
 have HZK:=hid hzk
 have HZ:=hid hz
 obtain ⟨zx,hzx⟩:∃ m,z.v.x.length=m:=⟨_,rfl⟩
 obtain ⟨zt,hzt⟩:∃ m,z.v.t.length=m:=⟨_,rfl⟩
 obtain ⟨zf,hzf⟩:∃ m,z.v.f.length=m:=⟨_,rfl⟩
 rw [hzx,hzt,hzf]
 have HZX:=hid hzx
 have HZT:=hid hzt
 have HZF:=hid hzf
 clear hj hp hzk hz hb5 a0 a1 a2 a3 a4 a5 a6 b0 b1 b2 b3 b4 b5 b6 HB2 hzx hzt hzf HT2
 obtain ⟨p0,p1,p2,p3,p4,p5,p6,pf⟩:=ty_cells HR.out.res
 have pf0:=pf 0
 have pf1:=pf 1
 have pf2:=pf 2
 have pf3:=pf 3
 have pf4:=pf 4
 have pf5:=pf 5
 have pf6:=pf 6
 obtain ⟨W9,hW9,hr9,hg9⟩:=seven_all HR.out.res (.int .i64 z.v.k) (.int .i64 z.v.lo) (.int .i64 z.v.hi) (.slice z.xd zx z.xc) (.slice z.td zt z.tc) (.slice z.fd zf z.fc) (.string z.v.n)
 obtain ⟨q0,q1,q2,q3,q4,q5,q6,-⟩:=ty_cells hr9
 have HW9:=hid hW9
 have HPOST:Hid (BothPost K (d+1) x.v y.v C w (.returned (.agg #[.int .i64 z.v.k,.int .i64 z.v.lo,.int .i64 z.v.hi,.slice z.xd zx z.xc,.slice z.td zt z.tc,.slice z.fd zf z.fc,.string z.v.n])) W9):=hid ⟨z,by unfold Lt.val;rw [HZX.out,HZT.out,HZF.out],HJ.out,HP.out,HZK.out,(HZ.out.grow hg9 (fun b e hb=>by rw [HC'.out] at hb;have:=Option.some.inj e;have:=hb.2;omega)).weak (fun b hb _=>by rw [HC'.out] at hb;exact hb.1),HR.out.g.grown hg9 (by have:=HR.out.vlt;omega) (fun b e=>by have:=Option.some.inj e;omega)⟩
 clear hW9 hr9 hg9 pf
 go_wp2_with fail
 rw [<-HW9.out]
 exact bodyPost_ret (v:=.agg #[.int .i64 z.v.k,.int .i64 z.v.lo,.int .i64 z.v.hi,.slice z.xd zx z.xc,.slice z.td zt z.tc,.slice z.fd zf z.fc,.string z.v.n]) (by simp [results,Tryz.results130,go_sem,q0,q1,q2,q3,q4,q5,q6]) rfl HPOST.out
theorem both_any (K:List ByteArray) (hKn:K.length<=2000) (d:Nat) (IH:JoinC K d):BothC K (d+1):=fun jv x y C w hx hy hk hxa hya hC=>by
 by_cases h10:x.v.k=10
 ·exact bothT_any K hKn d IH jv x y C w hx hy h10 (by rw [<-hk];exact h10) hxa hya hC
 ·exact bothL_any K d IH jv x y C w hx hy hk h10 hxa hya hC
theorem becomes_any (q:Lt) (k:Int) (C:Nat->Prop) (w:World) (hq:TyAt w C q) (hC:∀ b,w.heap.size<=b->C b) (h8:q.v.k=8->q.v.t.length=1):Calls Tryz.prog 76 #[q.val,.int .i64 k] w (BecPost q.v k C w):=by
 by_cases h4:k=4
 ·subst h4;exact becomes_4 q C w hq hC h8
 by_cases h5:k=5
 ·subst h5;exact becomes_5 q C w hq hC h8
 by_cases h6:k=6
 ·subst h6;exact becomes_6 q C w hq hC h8
 ·exact becomes_o q k C w hq hC h8 h4 h5 h6
end Go.Proofs.YtgnonbdkmmkdgaaGreatDoor
