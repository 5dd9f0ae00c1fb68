/-
  Lemmas for the statement: plain laws, and what functions answer; the conditions stand in each.
-/
import Derived.BigRegion
import Derived.Lib.Strings
import Derived.Test.YtldhmfkojaekfaaGreatDoorShowBackAllPartH
set_option linter.unusedVariables false
set_option linter.unusedSimpArgs false
namespace Go.Proofs.YtldhmfkojaekfaaGreatDoor
open Go.RowKit Gx
set_option maxRecDepth 100000
theorem Tryz.info_u8:(Tryz.prog.info? 5).map (fun i=>(i.zero,i.size,i.bytes))=some (some (.int .u8 0),1,1):=by kernel_rfl
theorem dig_step (M:Nat) (out:List Nat) (n:Nat) (h:dig n=out++dig M) (hM:M≠0):dig n=(out++[M % 10])++dig (M / 10):=by
 rw [h,dig_pos M hM];simp
def digInts (l:List Nat):List Int:=l.map (fun d=>((48+d:Nat):Int))
theorem digInts_snoc (l:List Nat) (d:Nat):digInts (l++[d])=digInts l++[((48+d:Nat):Int)]:=by simp [digInts]
theorem digInts_len (l:List Nat):(digInts l).length=l.length:=by simp [digInts]
theorem dig_bound (xs:List Int) (h:Words xs):(dig (bval xs)).length<=10 * xs.length:=by
 apply dig_len_le
 have h1:=bval_lt xs h
 have h2:4294967296 ^ xs.length<=(10 ^ 10) ^ xs.length:=Nat.pow_le_pow_left (by decide) _
 rw [<-Nat.pow_mul] at h2
 omega
def RevTo (os cur:List Int) (L a:Nat):Prop:=∀ j,j<L->cur.getD j 0=if j<a\/L<=j+a then os.getD (L - 1 - j) 0 else os.getD j 0
theorem revTo_zero (os:List Int) (L:Nat):RevTo os os L 0:=by
 intro j hj
 rw [if_neg (by omega)]
theorem getD_set (l:List Int) (i j:Nat) (v:Int) (h:i<l.length):(l.set i v).getD j 0=if i=j then v else l.getD j 0:=by
 by_cases e:i=j
 ·subst e;simp [List.getD,List.getElem?_set,h]
 ·rw [if_neg e,getD_set_ne _ _ _ _ e]
theorem revTo_step (os cur:List Int) (L a:Nat) (x y:Int) (h:RevTo os cur L a) (hl:cur.length=L) (ha:a+a+1<L) (hx:x=cur.getD a 0) (hy:y=cur.getD (L - 1 - a) 0) :
 RevTo os ((cur.set a y).set (L - 1 - a) x) L (a+1):=by
 intro j hj
 rw [getD_set _ _ _ _ (by rw [List.length_set];omega),getD_set _ _ _ _ (by omega)]
 have hxa:=h a (by omega)
 rw [if_neg (by omega)] at hxa
 have hya:=h (L - 1 - a) (by omega)
 rw [if_neg (by omega)] at hya
 by_cases h1:L - 1 - a=j
 ·rw [if_pos h1,if_pos (by omega),hx,hxa]
  congr 1;omega
 ·rw [if_neg h1]
  by_cases h2:a=j
  ·rw [if_pos h2,if_pos (by omega),hy,hya]
   congr 1;omega
  ·rw [if_neg h2,h j hj]
   by_cases h3:j<a\/L<=j+a
   ·rw [if_pos h3,if_pos (by omega)]
   ·rw [if_neg h3,if_neg (by omega)]
theorem revTo_end (os cur:List Int) (L a:Nat) (h:RevTo os cur L a) (hl:cur.length=L) (ho:os.length=L) (ha:¬ (a:Int)<(L:Int) - 1 - a):cur=os.reverse:=by
 apply List.ext_getElem
 ·simp [hl,ho]
 ·intro j h1 h2
  have:=h j (by omega)
  rw [List.getElem_reverse]
  have e1:cur.getD j 0=cur[j]:=by simp [List.getD,List.getElem?_eq_getElem h1]
  have e2:os.getD (L - 1 - j) 0=os[os.length - 1 - j]'(by omega):=by
   simp [List.getD,ho,List.getElem?_eq_getElem (show L - 1 - j<os.length by omega)]
  rw [<-e1,<-e2,this]
  by_cases h3:j<a\/L<=j+a
  ·rw [if_pos h3]
  ·rw [if_neg h3]
   congr 1;omega
set_option maxHeartbeats 1000000 in
theorem bigText_pos (ad:Option Addr) (cap:Nat) (xs:List Int) (w:World) (h:Rd .u32 w ad cap xs) (hl:xs.length<=1048576) (hn0:bval xs≠0) :
 Calls Tryz.prog 166 #[.slice ad xs.length cap] w (TextPost (decText (bval xs)) w):=by
 have H:=Lib.hid (trimmed_any ad cap xs w h (by omega))
 have hD:=dig_bound xs (words_of_rd h)
 have hT:=h.trim
 have hcl:(canon (bval xs)).length<=1048576:=by
  have:=canon_len_le (bval xs) xs.length (bval_lt _ (words_of_rd h));omega
 have hcp:0<(canon (bval xs)).length:=by rw [canon_pos _ hn0];simp
 have hv:bval (canon (bval xs))=bval xs:=bval_canon _
 unfold TrimmedPost at H
 obtain ⟨n,hn⟩:∃ n,n=bval xs:=⟨_,rfl⟩
 rw [<-hn] at H hD hT hcl hcp hv hn0 ⊢
 clear hn h
 obtain ⟨A,hA⟩:∃ A,A=canon n:=⟨_,rfl⟩
 rw [<-hA] at H hT hcl hcp hv
 have HA:=Lib.hid hA
 have HV:=Lib.hid hv
 have HN0:=Lib.hid hn0
 have HD:=Lib.hid hD
 clear hA hv hn0 hD
 have hb0:((A.length:Int)==0)=false:=by rw [beq_eq_false_iff_ne];omega
 go_enter Tryz.func166,Tryz.ntmps166
 go_wp2_with fail
 refine H.out.mono ?_
 rintro e w2 ⟨rfl,rfl⟩
 clear H
 go_wp2
 clear hb0
 go_loopw [0,3] (fun av v wr=>∃ (N:Nat) (ad':Option Addr) (cap':Nat) (B:List Int) (out:List Nat) (vo:Option Addr) (vc:Nat),av=.slice ad' B.length cap'/\Hid (B=canon N)/\Rd .u32 wr ad' cap' B/\B.length<=1048576/\v=.slice vo out.length vc /\
  wr.ownsRow w.heap.size 5 1 (.slice vo out.length vc) out.length ((digInts out).map (Value.int .u8))/\Hid (dig n=out++dig N)/\Below w.heap.size w wr)
  (fun _ v _=>(dig n).length - Gx.lenOf v)
 case atStart=>exact ⟨n,ad,cap,A,[],none,0,rfl,HA,hT,hcl,rfl,World.ownsRow_nil _ _ _ _,rfl,Below.refl _ _⟩
 case round =>
  obtain ⟨N,ad',cap',B,out,vo,vc,rfl,hB,hR,hBl,rfl,hown,hdig,hb⟩:=hrel
  by_cases hB0:B.length=0
  ·have hN:dig n=out:=by
    have h1:=hB.out
    have h2:N=0:=by
     have:=bval_canon N
     rw [<-h1,List.eq_nil_of_length_eq_zero hB0] at this
     exact this.symm
    rw [hdig.out,h2,dig_zero,List.append_nil]
   have hL0:0<out.length:=by
    rw [<-hN,dig_pos n HN0.out];simp
   have hL1:out.length<=10485760:=by rw [<-hN];have:=HD.out;omega
   have HN:=Lib.hid hN
   clear hN hB hR hdig
   obtain ⟨g,gc,he,hg1,hg2,hg3,-⟩:=Gx.own_cell hown hL0
   obtain ⟨rfl,rfl⟩:vo=some ⟨g,0,none⟩/\vc=gc:=by simpa using he
   clear he
   obtain ⟨L,hLe⟩:∃ L,L=out.length:=⟨_,rfl⟩
   obtain ⟨os,hos⟩:∃ os,os=digInts out:=⟨_,rfl⟩
   rw [<-hLe] at hown hL0 hL1 hg2 ⊢
   rw [<-hos] at hown
   have HOS:=Lib.hid hos
   have hosl:os.length=L:=by rw [hos,digInts_len,hLe]
   have HOSL:=Lib.hid hosl
   have HLE:=Lib.hid hLe
   clear hLe hos hosl
   go_wp2
   go_loopw [6,7] (fun iv kv wr=>∃ (a:Nat) (cur:List Int),a<=L/\iv=.int .i64 a/\kv=.int .i64 ((L:Int) - 1 - a) /\
    wr.ownsRow w.heap.size 5 1 (.slice (some ⟨g,0,none⟩) L vc) L (cur.map (Value.int .u8))/\Hid (cur.length=L)/\Hid (RevTo os cur L a)/\Below w.heap.size w wr)
    (fun iv _ _=>L - (intOf iv).toNat)
   case atStart=>exact ⟨0,os,Nat.zero_le _,rfl,by simp,hown,HOSL,revTo_zero _ _,hb⟩
   case round =>
    clear hown hb
    obtain ⟨a,cur,ha,rfl,rfl,hown1,hcl,hrev,hb1⟩:=hrel
    by_cases hlt:(a:Int)<(L:Int) - 1 - a
    ·have hcl':cur.length=L:=hcl.out
     have hi1:((L:Int) - 1 - a).toNat=L - 1 - a:=by omega
     have hc1:wr.cell? ⟨g,a,none⟩=some (.int .u8 (cur.getD a 0)):=by
      rw [hown1.cellAt a (by omega)]
      simp [List.getD,List.getElem?_eq_getElem (show a<cur.length by omega)]
     have hc2:wr.cell? ⟨g,L - 1 - a,none⟩=some (.int .u8 (cur.getD (L - 1 - a) 0)):=by
      rw [hown1.cellAt (L - 1 - a) (by omega)]
      simp [List.getD,List.getElem?_eq_getElem (show L - 1 - a<cur.length by omega)]
     have hf1:wr.frozen? ⟨g,a,none⟩=false:=hown1.frozenAt a
     have hf2:wr.frozen? ⟨g,L - 1 - a,none⟩=false:=hown1.frozenAt (L - 1 - a)
     obtain ⟨x,hx⟩:∃ x,x=cur.getD a 0:=⟨_,rfl⟩
     obtain ⟨y,hy⟩:∃ y,y=cur.getD (L - 1 - a) 0:=⟨_,rfl⟩
     rw [<-hx] at hc1
     rw [<-hy] at hc2
     clear hcl'
     have hj0:(0:Int)<=(L:Int) - 1 - a:=by omega
     have hj1:(L:Int) - 1 - a<(L:Int):=by omega
     have hj2:(0:Int)<=(a:Int):=by omega
     have hj3:(a:Int)<(L:Int):=by omega
     have hst1:=hown1.stored a (.int .u8 y)
     have hst2:=hst1.1.stored (L - 1 - a) (.int .u8 x)
     have hsz:=hb1.size
     have hbn:=(hb1.grown hst1.2 hsz (fun q e=>by cases e;exact hg1)).grown hst2.2 (Nat.le_trans hsz hst1.2.size) (fun q e=>by cases e;exact hg1)
     have hon:((wr.setCell ⟨g,a,none⟩ (.int .u8 y)).setCell ⟨g,L - 1 - a,none⟩ (.int .u8 x)).ownsRow w.heap.size 5 1 (.slice (some ⟨g,0,none⟩) L vc) L (((cur.set a y).set (L - 1 - a) x).map (Value.int .u8)):=by
      rw [List.map_set,List.map_set];exact hst2.1
     have HON:=Lib.hid hon
     have HBN:=Lib.hid hbn
     have hT:=Lib.hid (revTo_step os cur L a x y hrev.out hcl.out (by omega) hx hy)
     have hl3:Hid (((cur.set a y).set (L - 1 - a) x).length=L):=by show _=_;rw [List.length_set,List.length_set];exact hcl.out
     clear hst1 hst2 hbn hon hown1 hx hy
     go_wp2
     go_region
     go_wp2
     go_roundw
     case rel=>exact ⟨a+1,(cur.set a y).set (L - 1 - a) x,by omega,by go_num,by congr 1<;>omega,HON.out.drew,hl3,hT,HBN.out.drew⟩
     case measure=>simp [intOf];omega
    ·have hfin:cur=os.reverse:=revTo_end os cur L a hrev.out hcl.out HOSL.out (by omega)
     have HF:=Lib.hid hfin
     have hdt:decText n=out.reverse.map byteOf:=by unfold decText;rw [if_neg HN0.out,HN.out]
     have hLd:(decText n).length=L:=by rw [hdt,HLE.out];simp
     have hbytes:∀ j (hj:j<(decText n).length),wr.cell? ((⟨g,0,none⟩:Addr).add j)=some (.int .u8 ((decText n)[j].toNat:Int)):=by
      intro j hj
      have hjL:j<L:=by omega
      rw [Addr.add_lit,Nat.zero_add,hown1.cellAt j (by omega),HF.out,HOS.out]
      have hjo:j<out.reverse.length:=by rw [List.length_reverse,<-HLE.out];exact hjL
      have e1:(decText n)[j]=byteOf (out.reverse[j]):=by simp [hdt]
      have hd10:out.reverse[j]<10:=dig_lt n _ (by rw [HN.out];exact List.mem_reverse.1 (List.getElem_mem hjo))
      rw [e1,byteOf_nat _ hd10]
      have e2:(digInts out).reverse=digInts out.reverse:=by simp [digInts]
      rw [e2]
      unfold digInts
      rw [List.map_map,List.getElem?_map,List.getElem?_eq_getElem hjo]
      rfl
     have HCV:=Lib.hid (run_convert_bytes_back (P:=Tryz.prog) wr 72 9 5 ⟨g,0,none⟩ vc (decText n) Tryz.underlying72 Tryz.underlying5 Tryz.underlying9 hbytes)
     rw [hLd] at HCV
     have hcv:=HCV.out
     clear hbytes hLd HCV hown1
     go_wp2
     go_ret
     exact ⟨rfl,hb1⟩
  ·have hC:=Lib.hid (byWord_any ad' cap' B 1000000000 wr hR hBl (by omega) (by omega))
   have hvB:bval B=N:=by rw [hB.out,bval_canon]
   have hN0:N≠0:=by intro h0;rw [h0] at hB;exact hB0 (by rw [hB.out];rfl)
   unfold ByWordPost at hC
   rw [hvB] at hC
   have hNl:(canon (N / 1000000000)).length<=1048576:=by
    have h1:=bval_lt B (words_of_rd hR)
    rw [hvB] at h1
    exact Nat.le_trans (canon_len_le _ _ (Nat.lt_of_le_of_lt (Nat.div_le_self _ _) h1)) hBl
   have HNl:=Lib.hid hNl
   have HN0:=Lib.hid hN0
   clear hvB hR hB hNl hN0
   go_wp2_with fail
   refine hC.out.mono ?_
   rintro e w3 ⟨ad3,cap3,rfl,hr3,hb3,hfr3⟩
   clear hC
   obtain ⟨M,hM⟩:∃ M,M=N / 1000000000:=⟨_,rfl⟩
   obtain ⟨C,hC⟩:∃ C,C=canon (N / 1000000000):=⟨_,rfl⟩
   obtain ⟨r0,hr0⟩:∃ r0:Int,r0=((N % 1000000000:Nat):Int):=⟨_,rfl⟩
   have hr00:0<=r0:=by omega
   have hr01:r0<=999999999:=by omega
   have hsp:Hid (N=M * 1000000000+r0.toNat):=by show _=_;omega
   rw [show (1000000000:Int).toNat=1000000000 from rfl,<-hC,<-hr0]
   rw [show (1000000000:Int).toNat=1000000000 from rfl,<-hC] at hr3
   have HC:Hid (C=canon M):=by show _=_;rw [hC,hM]
   have hCl:C.length<=1048576:=by rw [hC];exact HNl.out
   clear hM hC hr0 HNl
   have hne3:Hid (∀ a,ad3=some a->0<C.length->(Value.slice vo out.length vc).ownBlock≠some a.block):=by
    intro a ha _ e
    have h1:=hfr3 a ha
    have h2:=hown.lt a.block e
    omega
   clear hfr3
   have hown3:w3.ownsRow w.heap.size 5 1 (.slice vo out.length vc) out.length ((digInts out).map (Value.int .u8)):=Gx.own_keep hown hb3
   have hb4:=hb.trans (hb3.mono hb.size)
   clear hown hb hb3
   go_wp2
   go_loopw [3,4,5] (fun v rv kv wr=>∃ (k P:Nat) (r:Int) (out2:List Nat) (vo:Option Addr) (vc:Nat),k<=9/\kv=.int .i64 k/\rv=.int .u32 r/\0<=r/\r<=999999999/\v=.slice vo out2.length vc/\Hid (P=10 ^ (9 - k))/\Hid (r<P) /\
    wr.ownsRow w.heap.size 5 1 (.slice vo out2.length vc) out2.length ((digInts out2).map (Value.int .u8))/\Hid (out2.length=out.length+k)/\Hid (dig n=out2++dig (M * P+r.toNat))/\Below w.heap.size w wr/\Rd .u32 wr ad3 cap3 C/\Hid (∀ a,ad3=some a->0<C.length->(Value.slice vo out2.length vc).ownBlock≠some a.block))
    (fun _ _ kv _=>9 - (intOf kv).toNat)
   case atStart=>exact ⟨0,1000000000,r0,out,vo,vc,by omega,rfl,rfl,hr00,hr01,rfl,rfl,by show _<_;omega,hown3,rfl,by show _=_;rw [<-hsp.out];exact hdig.out,hb4,hr3,hne3⟩
   case round =>
    clear hown3 hb4 hr3 hr00 hr01
    obtain ⟨k,P,r,out2,vo2,vc2,hk,rfl,rfl,hr00,hr01,rfl,hP,hrP,hown2,hlen2,hdig2,hb2,hr2,hne2⟩:=hrel
    have hexit:(k=9\/(C.length=0/\r=0))->dig n=out2++dig M/\out.length<out2.length:=by
     intro hx
     have h1:=hP.out
     have h2:=hrP.out
     have h3:=hdig2.out
     have h4:=hlen2.out
     have hMr:M * P+r.toNat=M:=by
      rcases hx with rfl|⟨h5,rfl⟩
      ·have:P=1:=h1
       subst this
       omega
      ·have h6:M=0:=by
        have:=bval_canon M
        rw [<-HC.out,List.eq_nil_of_length_eq_zero h5] at this
        exact this.symm
       subst h6
       simp
     rw [hMr] at h3
     refine ⟨h3,?_⟩
     by_cases hk0:k=0
     ·exfalso
      subst hk0
      have:P=1000000000:=h1
      subst this
      have:=hsp.out
      have h7:=HN0.out
      rcases hx with hx|⟨h5,rfl⟩
      ·omega
      ·have h8:=HC.out
       have h6:M=0:=by
        have:=bval_canon M
        rw [<-HC.out,List.eq_nil_of_length_eq_zero h5] at this
        exact this.symm
       subst h6
       have h9:dig n=out++dig N:=hdig.out
       have h10:out2.length=out.length:=h4
       rw [h9,dig_pos N h7] at h3
       have h11:=congrArg List.length h3
       simp [dig_zero] at h11
       omega
     ·omega
    have HX:=Lib.hid hexit
    clear hexit
    by_cases hk9:k=9
    ·subst hk9
     have hx:=HX.out (.inl rfl)
     have HX1:=Lib.hid hx.1
     have hx2:=hx.2
     have hle:out2.length<=(dig n).length:=by rw [hx.1];simp
     clear hx HX
     go_wp2
     go_roundw
     case rel=>exact ⟨M,ad3,cap3,C,out2,vo2,vc2,rfl,HC,hr2,hCl,rfl,hown2,HX1,hb2⟩
     case measure=>simp [Gx.lenOf];omega
    by_cases hx0:C.length=0/\r=0
    ·obtain ⟨hc0,rfl⟩:=hx0
     have hx:=HX.out (.inr ⟨hc0,rfl⟩)
     have HX1:=Lib.hid hx.1
     have hx2:=hx.2
     have hle:out2.length<=(dig n).length:=by rw [hx.1];simp
     clear hx HX
     have hb1:decide ((0:Int)<(C.length:Int))=false:=decide_eq_false (by omega)
     have hb1n:decide (0<C.length)=false:=decide_eq_false (by omega)
     clear hc0
     go_wp2
     go_roundw
     case rel=>exact ⟨M,ad3,cap3,C,out2,vo2,vc2,rfl,HC,hr2,hCl,rfl,hown2,HX1,hb2⟩
     case measure=>simp [Gx.lenOf];omega
    clear HX
    have hk8:k<9:=by omega
    have hM0:M * P+r.toNat≠0:=by
     intro h0
     have hP0:P≠0:=by
      have:=hP.out
      intro h1
      rw [h1] at this
      exact absurd this.symm (Nat.ne_of_gt (Nat.pow_pos (by decide)))
     have h1:M * P=0:=by omega
     have h2:M=0:=by
      rcases Nat.mul_eq_zero.1 h1 with h|h
      ·exact h
      ·exact absurd h hP0
     apply hx0
     refine ⟨?_,by omega⟩
     rw [HC.out,h2];rfl
    obtain ⟨P',hP'⟩:∃ P',P=10 * P'/\P'=10 ^ (9 - (k+1)):=by
     refine ⟨_,?_,rfl⟩
     rw [hP.out,show 9 - k=9 - (k+1)+1 by omega,Nat.pow_succ,Nat.mul_comm]
    have hsum:M * P+r.toNat=10 * (M * P')+r.toNat:=by rw [hP'.1,Nat.mul_left_comm]
    have hT:Hid (dig n=(out2++[r.toNat % 10])++dig (M * P'+(r / 10).toNat)):=by
     have:=dig_step _ _ _ hdig2.out hM0
     rw [show (M * P+r.toNat) % 10=r.toNat % 10 by omega,show (M * P+r.toNat) / 10=M * P'+(r / 10).toNat by omega] at this
     exact this
    have hl2:(out2++[r.toNat % 10]).length<=(dig n).length:=by rw [hT.out];simp
    have hDl:(dig n).length<=10485760:=by have:=HD.out;omega
    have hol2:out2.length<10485760:=by simp at hl2;omega
    have hrP':Hid (r / 10<P'):=by
     have h1:=hrP.out
     have h2:=hP'.1
     show _<_
     omega
    have HP':Hid (P'=10 ^ (9 - (k+1))):=hP'.2
    have hl3:Hid ((out2++[r.toNat % 10]).length=out.length+(k+1)):=by
     show _=_
     have:=hlen2.out
     simp;omega
    have HI:Hid ((digInts out2).map (Value.int .u8)++[.int .u8 (48+r % 10)]=(digInts (out2++[r.toNat % 10])).map (Value.int .u8)):=by
     show _=_
     rw [digInts_snoc,List.map_append]
     congr 2
     simp
     omega
    have hsz:=hb2.size
    clear hM0 hP' hsum hl2 hDl hP hrP hdig2 hlen2
    have hcc:(0<C.length)\/(C.length=0/\0<r):=by omega
    clear hx0
    rcases hcc with hcc|⟨hcc,hrr⟩
    ·have hb1:decide ((0:Int)<(C.length:Int))=true:=by simp;omega
     go_wp2_with (first
      | (at_builtin;refine Gx.wpList_push wr rfl _ _ 72 rfl w.heap.size 5 (.int .u8 0) 1 1 Tryz.underlying72 Tryz.info_u8 rfl (by decide) _ _ _ [.int .u8 (48+r % 10)] _ rfl rfl (by exact hown2) rfl rfl ?a2 ?a3 ?a4 ?a5 ?_))
     case a2=>intro u hu;simp at hu;subst hu;rfl
     case a3=>omega
     case a4=>omega
     case a5=>omega
     intro v' w' hown5 hg5 hmv5 _
     have hb5:Below w.heap.size w w':=hb2.grown hg5 hsz (fun k e=>(hown2.lt k e).1)
     have hr5:Rd .u32 w' ad3 cap3 C:=Gx.Rd.grown hr2 hg5 (fun a ha hp e=>hne2.out a ha hp e.symm)
     have hne5:Hid (∀ a,ad3=some a->0<C.length->v'.ownBlock≠some a.block):=by
      intro a ha hp
      exact hmv5.ne (hr2.at_ a ha hp).2.1 (hne2.out a ha hp)
     rw [HI.out] at hown5
     obtain ⟨vo5,vc5,rfl⟩:=Gx.own_form hown5
     have hown6:w'.ownsRow w.heap.size 5 1 (.slice vo5 (out2++[r.toNat % 10]).length vc5) (out2++[r.toNat % 10]).length ((digInts (out2++[r.toNat % 10])).map (Value.int .u8)):=by
      simpa using hown5
     have hfl:out2.length+1=(out2++[r.toNat % 10]).length:=by simp
     rw [hfl] at hne5
     rw [hfl]
     clear hown5 hown2 hg5 hr2 hb2 HI hfl
     go_wp2
     go_roundw
     case rel=>exact ⟨k+1,P',r / 10,out2++[r.toNat % 10],vo5,vc5,by omega,by go_num,rfl,by omega,by omega,rfl,HP',hrP',hown6,hl3,hT,hb5,hr5,hne5⟩
     case measure=>simp [intOf];omega
    ·have hb1:decide ((0:Int)<(C.length:Int))=false:=decide_eq_false (by omega)
     have hb1n:decide (0<C.length)=false:=decide_eq_false (by omega)
     have HCC:=Lib.hid hcc
     clear hcc
     have hb2':decide ((0:Int)<r)=true:=by simpa using hrr
     go_wp2_with (first
      | (at_builtin;refine Gx.wpList_push wr rfl _ _ 72 rfl w.heap.size 5 (.int .u8 0) 1 1 Tryz.underlying72 Tryz.info_u8 rfl (by decide) _ _ _ [.int .u8 (48+r % 10)] _ rfl rfl (by exact hown2) rfl rfl ?b2 ?b3 ?b4 ?b5 ?_))
     case b2=>intro u hu;simp at hu;subst hu;rfl
     case b3=>omega
     case b4=>omega
     case b5=>omega
     intro v' w' hown5 hg5 hmv5 _
     have hb5:Below w.heap.size w w':=hb2.grown hg5 hsz (fun k e=>(hown2.lt k e).1)
     have hr5:Rd .u32 w' ad3 cap3 C:=Gx.Rd.grown hr2 hg5 (fun a ha hp e=>hne2.out a ha hp e.symm)
     have hne5:Hid (∀ a,ad3=some a->0<C.length->v'.ownBlock≠some a.block):=by
      intro a ha hp
      exact hmv5.ne (hr2.at_ a ha hp).2.1 (hne2.out a ha hp)
     rw [HI.out] at hown5
     obtain ⟨vo5,vc5,rfl⟩:=Gx.own_form hown5
     have hown6:w'.ownsRow w.heap.size 5 1 (.slice vo5 (out2++[r.toNat % 10]).length vc5) (out2++[r.toNat % 10]).length ((digInts (out2++[r.toNat % 10])).map (Value.int .u8)):=by
      simpa using hown5
     have hfl:out2.length+1=(out2++[r.toNat % 10]).length:=by simp
     rw [hfl] at hne5
     rw [hfl]
     clear hown5 hown2 hg5 hr2 hb2 HI hfl
     go_wp2
     go_roundw
     case rel=>exact ⟨k+1,P',r / 10,out2++[r.toNat % 10],vo5,vc5,by omega,by go_num,rfl,by omega,by omega,rfl,HP',hrP',hown6,hl3,hT,hb5,hr5,hne5⟩
     case measure=>simp [intOf];omega
set_option maxRecDepth 100000
def ReadPostFl (l:List UInt8) (w:World) (e:Ending) (w':World):Prop :=
 (decOk l/\l.length<=1000/\∃ ad cap,e=.returned (.tuple #[.slice ad (canon (decVal l)).length cap,.int .i64 0])/\Rd .u32 w' ad cap (canon (decVal l))/\Below w.heap.size w w') \/
 (¬ (decOk l/\l.length<=1000)/\∃ c:Int,c≠0/\e=.returned (.tuple #[.slice none 0 0,.int .i64 c])/\Below w.heap.size w w')
theorem last_ne (l:List Int) (hw:Words l) (h:4294967296 ^ (l.length - 1)<=bval l) (x:Int) (hx:l.getLast?=some x):x≠0:=by
 have hne:l≠[]:=by intro e;subst e;simp at hx
 have e:=List.dropLast_concat_getLast hne
 intro h0
 rw [List.getLast?_eq_some_getLast hne] at hx
 have hx':l.getLast hne=x:=by simpa using hx
 rw [hx',h0] at e
 have h1:bval l=bval l.dropLast:=by
  conv=>lhs;rw [<-e]
  rw [bval_append];simp [bval]
 have h2:=bval_lt l.dropLast (fun y hy=>hw y ((List.dropLast_sublist l).subset hy))
 rw [List.length_dropLast] at h2
 omega
theorem read_digit (c o:Int) (hc:0<=c) (ho:0<=o):((c+o * 10) % 4294967296).toNat+4294967296 * ((c+o * 10) / 4294967296).toNat=c.toNat+10 * o.toNat:=by
 obtain ⟨c,rfl⟩:=Int.eq_ofNat_of_zero_le hc
 obtain ⟨o,rfl⟩:=Int.eq_ofNat_of_zero_le ho
 have e1:((c:Int)+(o:Int) * 10)=((c+o * 10:Nat):Int):=by omega
 rw [e1,show ((c+o * 10:Nat):Int) % 4294967296=(((c+o * 10) % 4294967296:Nat):Int) from rfl,show ((c+o * 10:Nat):Int) / 4294967296=(((c+o * 10) / 4294967296:Nat):Int) from rfl]
 simp only [Int.toNat_natCast]
 rw [Nat.mod_add_div,Nat.mul_comm o 10]
theorem read_arith (X Y Z T D q a b c o:Nat) (hs:X+q * o=Y+q * a) (h:Y+q * c=Z+9 * T+D) (e:a+4294967296 * b=c+10 * o):X+q * 4294967296 * b=Z+9 * (T+q * o)+D:=by
 have e4:q * a+q * 4294967296 * b=q * c+10 * (q * o):=by rw [Nat.mul_assoc,<-Nat.mul_add,e,Nat.mul_add,Nat.mul_left_comm]
 omega
theorem read_step (out out0:List Int) (j q:Nat) (c o d:Int) (hc:0<=c) (ho:0<=o) (hj:j<out.length) (eo:o=out.getD j 0) (eo0:o=out0.getD j 0)
 (h:bval out+4294967296 ^ j * c.toNat=bval out0+9 * bval (out0.take j)+d.toNat) (hq:q=4294967296 ^ j) :
 bval (out.set j ((c+o * 10) % 4294967296))+4294967296 ^ (j+1) * ((c+o * 10) / 4294967296).toNat=bval out0+9 * bval (out0.take (j+1))+d.toNat:=by
 have hs:=bval_set out j ((c+o * 10) % 4294967296) hj
 rw [<-eo,<-hq] at hs
 rw [bval_take_succ,<-eo0,Nat.pow_succ,<-hq]
 rw [<-hq] at h
 exact read_arith _ _ _ _ _ _ _ _ _ _ hs h (read_digit c o hc ho)
theorem decVal_take (s:List UInt8) (k:Nat) (h:k<s.length):decVal (s.take (k+1))=decVal (s.take k) * 10+(s[k].toNat - 48):=by
 rw [List.take_succ_eq_append_getElem h,decVal_snoc]
set_option maxHeartbeats 1000000 in
theorem bigRead_long (s:ByteArray) (w:World) (h:1000<s.size) :
 Calls Tryz.prog 126 #[.string s] w (ReadPostFl s.data.toList w):=by
 have ht:decide ((1000:Int)<(s.size:Int))=true:=by simp;omega
 go_enter Tryz.func126,Tryz.ntmps126
 go_wp2
 go_ret2
 exact .inr ⟨fun ⟨_,h2⟩=>by simp at h2;omega,2,by decide,rfl,Below.refl _ _⟩
set_option maxHeartbeats 1000000 in
theorem bigRead_empty (w:World) :
 Calls Tryz.prog 126 #[.string ⟨#[]⟩] w (ReadPostFl [] w):=by
 go_enter Tryz.func126,Tryz.ntmps126
 go_wp2
 go_ret2
 exact .inr ⟨fun ⟨h2,_⟩=>h2.1 rfl,4,by decide,rfl,Below.refl _ _⟩
theorem head_ofFl (s:ByteArray) (h:0<s.size):s.data.toList.head?=some s[0]:=by
 have:0<s.data.toList.length:=by simpa using h
 rw [List.head?_eq_getElem?,List.getElem?_eq_getElem this];rfl
set_option maxHeartbeats 1000000 in
theorem bigRead_nought (s:ByteArray) (w:World) (h:1<s.size) (h2:s.size<=1000) (h0:s[0]=48) :
 Calls Tryz.prog 126 #[.string s] w (ReadPostFl s.data.toList w):=by
 have HN:Hid (¬ (decOk s.data.toList/\s.data.toList.length<=1000)):=by
  rintro ⟨⟨-,-,h3⟩,-⟩
  have:=h3 (by rw [head_ofFl s (by omega),h0])
  simp at this;omega
 have hb0:((s[0].toNat:Int)==48)=true:=by rw [h0];rfl
 go_enter Tryz.func126,Tryz.ntmps126
 go_wp2
 all_goals
  go_ret2
  exact .inr ⟨HN.out,4,by decide,rfl,Below.refl _ _⟩
theorem read_canon (V d:Nat) (out out2:List Int) (c:Int) (ho:out=canon V) (hl:out2.length=out.length) (hw:Words out2) (hc:0<=c) (hc1:c<=9)
 (h:bval out2+4294967296 ^ out.length * c.toNat=bval out+9 * bval (out.take out.length)+d) :
 (c=0->out2=canon (V * 10+d))/\(0<c->out2++[c]=canon (V * 10+d)):=by
 have hv:bval out=V:=by rw [ho,bval_canon]
 rw [List.take_of_length_le (Nat.le_refl _),hv] at h
 constructor
 ·intro h0
  subst h0
  simp only [Int.toNat_zero,Nat.mul_zero,Nat.add_zero] at h
  have e:bval out2=V * 10+d:=by omega
  rw [<-e]
  refine (canon_bval out2 hw (fun x hx=>?_)).symm
  have hne:out2≠[]:=by intro e;subst e;simp at hx
  have hlen:0<out2.length:=List.length_pos_iff.2 hne
  refine last_ne out2 hw ?_ x hx
  have hV:V≠0:=by
   intro h0
   rw [ho,h0,canon_zero] at hl
   exact hne (List.eq_nil_of_length_eq_zero hl)
  have h3:=canon_len_gt V hV
  rw [<-ho,<-hl] at h3
  omega
 ·intro h0
  have e:bval (out2++[c])=V * 10+d:=by
   rw [bval_append,hl]
   simp only [bval,Nat.mul_zero,Nat.add_zero]
   omega
  rw [<-e]
  refine (canon_bval _ ?_ (fun x hx=>?_)).symm
  ·intro y hy
   rcases List.mem_append.1 hy with hy|hy
   ·exact hw y hy
   ·simp at hy;omega
  ·simp at hx;omega
set_option maxHeartbeats 4000000 in
theorem bigRead_loop (s:ByteArray) (w:World) (h:0<s.size) (h2:s.size<=1000) (h0:s[0]=48->s.size=1) :
 Calls Tryz.prog 126 #[.string s] w (ReadPostFl s.data.toList w):=by
 have HHD:Hid (s.data.toList.head?=some 48->s.data.toList.length=1):=by
  intro h3
  rw [head_ofFl s h] at h3
  have:=h0 (by simpa using h3)
  simpa using this
 obtain ⟨cap,w1,hconv,-,hsz1,hg,hC⟩:=Gx.conv_bytes_run (P:=Tryz.prog) w 9 72 5 s Tryz.underlying9 Tryz.underlying72 Tryz.underlying5
 have hb:Below w.heap.size w w1:=Gx.grown_below hg (Nat.le_refl _) (by simp)
 have HB:=Lib.hid hb
 have HC:=Lib.hid hC
 have hs1:w.heap.size+1<=w1.heap.size:=hsz1
 clear hb hC hg hsz1
 have hb0:(((s[0].toNat:Int)==48)=false)\/((s[0].toNat:Int)==48)=true/\decide ((1:Int)<(s.size:Int))=false:=by
  by_cases h3:s[0]=48
  ·have:=h0 h3
   exact .inr ⟨by rw [h3];rfl,decide_eq_false (by omega)⟩
  ·refine .inl ?_
   rw [beq_eq_false_iff_ne]
   intro h4
   apply h3
   apply UInt8.toNat_inj.1
   have:s[0].toNat=48:=by omega
   rw [this];rfl
 clear h0
 have hem:s.toList.isEmpty=false:=by
  have h3:s.toList.length=s.size:=by rw [Go.Lib.toList_data];simp
  cases h4:s.toList with
  | nil=>rw [h4] at h3;simp at h3;omega
  | cons=>rfl
 have hem2:¬ s.toList=[]:=by intro h3;rw [h3] at hem;simp at hem
 rcases hb0 with hb0|⟨hb0,hb1⟩
 all_goals
  go_enter Tryz.func126,Tryz.ntmps126
  go_wp2
  clear hconv hem hem2
  go_loopw [4,27] (fun v i wr=>∃ (k:Nat) (out:List Int) (vo:Option Addr) (vc:Nat),k<=s.size/\i=.int .i64 k/\v=.slice vo out.length vc/\out.length<=k/\Hid (out=canon (decVal (s.data.toList.take k))) /\
   Hid (∀ b∈s.data.toList.take k,isDigit b=true)/\wr.ownsRow (w.heap.size+1) 145 1 (.slice vo out.length vc) out.length (out.map (Value.int .u32))/\Below (w.heap.size+1) w1 wr)
   (fun _ i _=>s.size - (intOf i).toNat)
  case atStart=>exact ⟨0,[],none,0,Nat.zero_le _,rfl,rfl,Nat.le_refl _,rfl,fun b hb=>by simp at hb,World.ownsRow_nil _ _ _ _,Below.refl _ _⟩
  case round =>
   obtain ⟨k,out,vo,vc,hk,rfl,rfl,hol,hout,hdig,hown,hbl⟩:=hrel
   have hbs:=hbl.size
   have hWB:Hid (Below w.heap.size w wr):=HB.out.trans (hbl.mono (Nat.le_succ _))
   by_cases hlt:k<s.size
   ·have hc:wr.cell? ⟨w.heap.size,k,none⟩=some (.int .u8 (s.data[k].toNat:Int)):=(hbl.cell (p:=⟨w.heap.size,k,none⟩) (Nat.lt_succ_self _)).trans (HC.out k hlt)
    have htk:k<s.data.toList.length:=by simpa using hlt
    have eb:s.data.toList[k]=s.data[k]:=rfl
    obtain ⟨b,hb⟩:∃ b,b=s.data[k]:=⟨_,rfl⟩
    rw [<-hb] at hc eb
    have hb255:(b.toNat:Int)<=255:=by have:=b.toNat_lt;omega
    have EB:=Lib.hid eb
    clear hb eb
    by_cases hd:isDigit b=true
    ·have hd':=hd
     simp [isDigit] at hd'
     have hdl:¬ (b.toNat:Int)<48:=by omega
     have hdg:¬ (57:Int)<(b.toNat:Int):=by omega
     have hV:Hid (decVal (s.data.toList.take (k+1))=decVal (s.data.toList.take k) * 10+(b.toNat - 48)):=by
      show _=_
      rw [decVal_take _ _ htk,EB.out]
     have hD2:Hid (∀ b∈s.data.toList.take (k+1),isDigit b=true):=by
      intro c hcm
      rw [List.take_succ_eq_append_getElem htk] at hcm
      rcases List.mem_append.1 hcm with hcm|hcm
      ·exact hdig.out c hcm
      ·simp only [List.mem_singleton] at hcm
       rw [hcm,EB.out];exact hd
     clear hd htk EB
     go_wp2
     go_loopw [7,42] (fun cv jv wi=>∃ (j:Nat) (c:Int) (out2:List Int),j<=out.length/\jv=.int .i64 j/\cv=.int .u64 c/\0<=c/\c<=9 /\
      Hid (out2.length=out.length)/\Words out2/\Hid (∀ t,j<=t->out2.getD t 0=out.getD t 0) /\
      Hid (bval out2+4294967296 ^ j * c.toNat=bval out+9 * bval (out.take j)+(b.toNat - 48)) /\
      wi.ownsRow (w.heap.size+1) 145 1 (.slice vo out.length vc) out.length (out2.map (Value.int .u32))/\Below (w.heap.size+1) w1 wi)
      (fun _ jv _=>out.length - (intOf jv).toNat)
     case atStart=>exact ⟨0,(b.toNat:Int) - 48,out,Nat.zero_le _,rfl,rfl,by omega,by omega,rfl,by rw [hout.out];exact canon_words _,fun t _=>rfl,by show _=_;simp [bval];omega,hown,hbl⟩
     case round =>
      clear hown hbl hbs hWB hc
      obtain ⟨j,c,out2,hj,rfl,rfl,hc0,hc1,hl2,hw2,hsame,hval,hown2,hb2⟩:=hrel
      have HW2:=Lib.hid hw2
      clear hw2
      have hbs:=hb2.size
      by_cases hjl:j<out.length
      ·obtain ⟨g,gc,he,hg1,hg2,hg3,-⟩:=Gx.own_cell hown2 (by omega)
       obtain ⟨hvo,hvc⟩:vo=some ⟨g,0,none⟩/\vc=gc:=by simpa using he
       subst hvo
       clear he hvc hg3
       have hl2':out2.length=out.length:=hl2.out
       have hcell:wr.cell? ⟨g,j,none⟩=some (.int .u32 (out2.getD j 0)):=by
        rw [hown2.cellAt j (by omega)]
        simp [List.getD,List.getElem?_eq_getElem (show j<out2.length by omega)]
       have hfz:wr.frozen? ⟨g,j,none⟩=false:=hown2.frozenAt j
       obtain ⟨bo0,bo1⟩:=words_getD HW2.out j
       obtain ⟨o,eo⟩:∃ o,o=out2.getD j 0:=⟨_,rfl⟩
       rw [<-eo] at hcell bo0 bo1
       have hT:=read_step out2 out j _ c o ((b.toNat:Int) - 48) hc0 bo0 (by omega) eo (eo.trans (hsame.out j (Nat.le_refl _))) (by have:=hval.out;rw [this];congr 1;omega) rfl
       have HT:Hid (bval (out2.set j ((c+o * 10) % 4294967296))+4294967296 ^ (j+1) * ((c+o * 10) / 4294967296).toNat=bval out+9 * bval (out.take (j+1))+(b.toNat - 48)):=by
        show _=_
        rw [hT];congr 1;omega
       clear eo hT
       have hst:=hown2.stored j (.int .u32 ((c+o * 10) % 4294967296))
       have HBN:=Lib.hid (hb2.grown hst.2 (Nat.le_trans hs1 hbs) (fun q e=>by cases e;exact hg1))
       have HON:Hid ((wr.setCell ⟨g,j,none⟩ (.int .u32 ((c+o * 10) % 4294967296))).ownsRow (w.heap.size+1) 145 1 (.slice (some ⟨g,0,none⟩) out.length vc) out.length ((out2.set j ((c+o * 10) % 4294967296)).map (Value.int .u32))):=by
        show World.ownsRow _ _ _ _ _ _ _
        rw [List.map_set];exact hst.1
       have hw3:=Lib.hid (words_set HW2.out j ((c+o * 10) % 4294967296) (by omega) (by omega))
       have hl3:Hid ((out2.set j ((c+o * 10) % 4294967296)).length=out.length):=by show _=_;rw [List.length_set];exact hl2'
       have hs3:Hid (∀ t,j+1<=t->(out2.set j ((c+o * 10) % 4294967296)).getD t 0=out.getD t 0):=by
        intro t ht
        rw [getD_set_ne _ _ _ _ (by omega)]
        exact hsame.out t (by omega)
       clear hst hown2 hl2' hb2
       go_wp2
       go_roundw
       case rel=>exact ⟨j+1,(c+o * 10) / 4294967296,out2.set j ((c+o * 10) % 4294967296),by omega,by go_num,rfl,by omega,by omega,hl3,hw3.out,hs3,HT,HON.out,HBN.out⟩
       case measure=>simp [intOf];omega
      ·obtain rfl:j=out.length:=by omega
       have hrc:=read_canon _ _ out out2 c hout.out hl2.out HW2.out hc0 hc1 hval.out
       rw [<-hV.out] at hrc
       have HRC:=Lib.hid hrc
       clear hrc hsame hval hjl
       by_cases hcz:c=0
       ·subst hcz
        have hd0:decide ((0:Int)<0)=false:=rfl
        have hl4:Hid (out2.length=out.length):=hl2
        go_wp2
        go_roundw
        case rel=>exact ⟨k+1,out2,vo,vc,by omega,by go_num,by rw [hl4.out],by rw [hl4.out];omega,HRC.out.1 rfl,hD2,by rw [hl4.out];exact hown2,hb2⟩
        case measure=>simp [intOf];omega
       ·have hcp:0<c:=by omega
        have hcp':decide ((0:Int)<c)=true:=by simpa using hcp
        go_wp2_with (first
         | (at_builtin;refine Gx.wpList_push wr rfl _ _ 169 rfl (w.heap.size+1) 145 (.int .u32 0) 1 4 Tryz.underlying169 Tryz.info_u32 rfl (by decide) _ _ _ [.int .u32 c] _ rfl rfl (by exact hown2) rfl rfl ?e2 ?e3 ?e4 ?e5 ?_))
        case e2=>intro u hu;simp at hu;subst hu;rfl
        case e3=>omega
        case e4=>omega
        case e5=>omega
        intro v' w' hown5 hg5 _ _
        have hb5:Below (w.heap.size+1) w1 w':=hb2.grown hg5 (Nat.le_trans hs1 hbs) (fun k e=>(hown2.lt k e).1)
        obtain ⟨vo5,vc5,rfl⟩:=Gx.own_form hown5
        have hl5:(out2++[c]).length=out.length+1:=by simp [hl2.out]
        have hown6:w'.ownsRow (w.heap.size+1) 145 1 (.slice vo5 (out2++[c]).length vc5) (out2++[c]).length ((out2++[c]).map (Value.int .u32)):=by
         rw [hl5,List.map_append];exact hown5
        have HL5:=Lib.hid hl5
        clear hl5 hown5 hown2 hg5 hb2
        go_wp2
        go_roundw
        case rel=>exact ⟨k+1,out2++[c],vo5,vc5,by omega,by go_num,by rw [HL5.out],by rw [HL5.out];omega,HRC.out.2 hcp,hD2,hown6,hb5⟩
        case measure=>simp [intOf];omega
    ·have HN:Hid (¬ (decOk s.data.toList/\s.data.toList.length<=1000)):=by
      rintro ⟨⟨-,h3,-⟩,-⟩
      apply hd
      rw [<-EB.out]
      exact h3 _ (List.getElem_mem htk)
     simp [isDigit] at hd
     clear hown
     by_cases hdl:b.toNat<48
     ·have hdl':decide ((b.toNat:Int)<48)=true:=by simp;omega
      go_wp2
      go_ret2
      exact .inr ⟨HN.out,4,by decide,rfl,hWB.out⟩
     ·have hdl':decide ((b.toNat:Int)<48)=false:=by simp;omega
      have hdg':decide ((57:Int)<(b.toNat:Int))=true:=by simp;omega
      go_wp2
      go_ret2
      exact .inr ⟨HN.out,4,by decide,rfl,hWB.out⟩
   ·obtain rfl:k=s.size:=by omega
    have hdig':=hdig.out
    have hout':=hout.out
    rw [List.take_of_length_le (by simp)] at hdig' hout'
    have hnil:s.data.toList≠[]:=by
     intro h3
     have h4:s.data.toList.length=s.data.size:=Array.length_toList
     have h5:s.data.size=s.size:=rfl
     rw [h3] at h4
     have h6:0=s.data.size:=h4
     omega
    have hok:decOk s.data.toList:=⟨hnil,hdig',HHD.out⟩
    have hw:Words out:=by rw [hout'];exact canon_words _
    obtain ⟨ad',cap',he,hr⟩:=Gx.Rd.own (k:=.u32) (xs:=out) hown (wf_words hw)
    obtain ⟨rfl,rfl⟩:vo=ad'/\vc=cap':=by simpa using he
    have HR:=Lib.hid hr
    have HO:=Lib.hid hout'
    have HOK:=Lib.hid hok
    clear hr hout' hok hdig' hown hw he hnil
    go_wp2
    go_ret2
    refine .inl ⟨HOK.out,by simpa using h2,vo,vc,?_,?_,hWB.out⟩
    ·rw [<-HO.out];rfl
    ·rw [<-HO.out];exact HR.out
theorem bigRead_any (s:ByteArray) (w:World):Calls Tryz.prog 126 #[.string s] w (ReadPostFl s.data.toList w):=by
 by_cases h1:1000<s.size
 ·exact bigRead_long s w h1
 by_cases h0:s.size=0
 ·obtain ⟨⟨l⟩⟩:=s
  have:l=[]:=List.eq_nil_of_length_eq_zero h0
  subst this
  exact bigRead_empty w
 by_cases h2:s[0]=48/\1<s.size
 ·exact bigRead_nought s w h2.2 (by omega) h2.1
 ·exact bigRead_loop s w (by omega) (by omega) (fun h3=>by
   have:¬ 1<s.size:=fun h4=>h2 ⟨h3,h4⟩
   omega)
set_option maxRecDepth 100000
theorem divMod_two (ad bd:Option Addr) (ca cb:Nat) (xs ys:List Int) (w:World) (N M:Nat) (h:Rd .u32 w ad ca xs) (g:Rd .u32 w bd cb ys) (hx:bval xs=N) (hy:bval ys=M) (hl:xs.length<=1000000) (hl2:ys.length<=1000000) (h0:M≠0) :
 Calls Tryz.prog 162 #[.slice ad xs.length ca,.slice bd ys.length cb] w (DivModPost (N / M) (N % M) w):=by
 subst hx;subst hy;exact divMod_any ad bd ca cb xs ys w h g hl hl2 h0
theorem fits_64 (c:Nat) (h:c<18446744073709551616):Fits c 2:=by
 have h1:(4294967296:Nat) ^ 2=18446744073709551616:=by decide
 unfold Fits;rw [h1];exact h
theorem text_canon (ad:Option Addr) (ca c:Nat) (w:World) (h:Rd .u32 w ad ca (canon c)) (hl:(canon c).length<=1048576) :
 Calls Tryz.prog 166 #[.slice ad (canon c).length ca] w (TextPost (decText c) w):=by
 by_cases h0:c=0
 ·subst h0
  have h1:canon 0=[]:=rfl
  rw [h1] at h ⊢
  exact bigText_nil ad ca w h
 ·have h1:=bigText_pos ad ca (canon c) w h hl (by rw [bval_canon];exact h0)
  rw [bval_canon] at h1
  exact h1
theorem dec_len (c:Nat) (h:c<=1000000000000000000):(decText c).length<=30 :=
 decText_len c 30 (Nat.lt_of_le_of_lt h (by decide)) (by decide)
theorem trimRight_len (l:List UInt8) (b:UInt8):(Lib.trimRightB l b).length<=l.length:=by
 unfold Lib.trimRightB
 rw [List.length_reverse]
 have:=(List.dropWhile_sublist (l:=l.reverse) (p:=(·==b))).length_le
 rw [List.length_reverse] at this
 exact this
theorem trim_string (l:List UInt8) (w:World) (hl:l.length<=1000) :
 Calls Tryz.prog 167 #[.string ⟨l.toArray⟩,.string ⟨#[48]⟩] w fun e w'=>e=.returned (.string ⟨(Lib.trimRightB l 48).toArray⟩)/\w'=w:=by
 have h:=Tryz.strings_TrimRight_one ⟨l.toArray⟩ 48 (by decide) w (by show l.toArray.size<=_;rw [List.size_toArray];omega)
 exact h
theorem canon_len_zero (n:Nat):(n=0->(canon n).length=0)/\(n≠0->0<(canon n).length):=by
 refine ⟨fun h=>by subst h;rfl,fun h=>?_⟩
 rw [canon_pos n h];simp
set_option maxRecDepth 100000
theorem trim_two (ad:Option Addr) (cap:Nat) (xs:List Int) (N:Nat) (w:World) (h:Rd .u32 w ad cap xs) (hx:bval xs=N) (hl:xs.length<=1073741824) :
 Calls Tryz.prog 149 #[.slice ad xs.length cap] w (WordsPost N w):=by
 subst hx;exact bigTrim_any ad cap xs w h hl
set_option maxHeartbeats 1000000 in
theorem nat_any (m:Nat) (w:World) (hm:m<18446744073709551616) :
 Calls Tryz.prog 133 #[.int .u64 m] w (WordsPost m w):=by
 have hx:=halves m hm
 have hp:=pair_rd w ((m % 4294967296:Nat):Int) ((m / 4294967296:Nat):Int) (wf32 _ (by omega)) (wf32 _ (by omega))
 have b1:=(Below.refl w.heap.size w).alloc (Nat.le_refl _) (.cells #[.int .u32 ((m % 4294967296:Nat):Int),.int .u32 ((m / 4294967296:Nat):Int)] 145)
 have HT:=Lib.hid (trim_two _ _ _ m _ hp hx (by show 2<=_;omega))
 have B1:=Lib.hid b1
 clear hx hp b1
 go_enter Tryz.func133,Tryz.ntmps133
 go_wp2_with fail
 refine HT.out.mono ?_
 rintro e0 w1 ⟨no,nc,rfl,hr,hb⟩
 have R1:=Lib.hid hr
 have B2:=Lib.hid (B1.out.trans (hb.mono B1.out.size))
 clear hr hb B1
 go_wp2
 go_ret
 exact ⟨_,_,rfl,R1.out,B2.out⟩
def OddPost (n:Nat) (w:World) (e:Ending) (w':World):Prop:=∃ b,(b=true->n % 2=1)/\(b=false->n % 2≠1)/\e=.returned (.bool b)/\w=w'
theorem and_word (n:Nat) (h:n<4294967296):bits BinOp.and IntKind.u32 (n:Int) 1=((n % 2:Nat):Int):=by
 have hx:n &&& 1<2 ^ 32:=Nat.and_lt_two_pow _ (by omega)
 have h1:(BitVec.ofInt 32 (n:Int)).toNat=n:=by
  rw [BitVec.ofInt_natCast,BitVec.toNat_ofNat];exact Nat.mod_eq_of_lt (by omega)
 have h2:(BitVec.ofInt 32 ((1:Nat):Int)).toNat=1:=by
  rw [BitVec.ofInt_natCast,BitVec.toNat_ofNat]
 show IntKind.u32.wrap ((BitVec.ofInt 32 (n:Int) &&& BitVec.ofInt 32 ((1:Nat):Int)).toNat:Int)=_
 rw [BitVec.toNat_and,h1,h2,IntKind.wrap_u32,<-Nat.and_one_is_mod]
 omega
theorem odd_word (x:Int) (h0:0<=x) (h1:x<4294967296):(bits BinOp.and IntKind.u32 x 1==1)=decide (x.toNat % 2=1):=by
 obtain ⟨n,rfl⟩:=Int.eq_ofNat_of_zero_le h0
 rw [and_word n (by omega),Bool.eq_iff_iff,beq_iff_eq,decide_eq_true_eq]
 omega
set_option maxHeartbeats 1000000 in
theorem odd_any (ad:Option Addr) (ca:Nat) (xs:List Int) (w:World) (h:Rd .u32 w ad ca xs) (hl:xs.length<=1048576) :
 Calls Tryz.prog 165 #[.slice ad xs.length ca] w (OddPost (bval xs) w):=by
 by_cases h0:xs.length=0
 ·have t0:decide ((0:Int)<(xs.length:Int))=false:=decide_eq_false (by omega)
  obtain rfl:xs=[]:=List.eq_nil_of_length_eq_zero h0
  have hq:Hid (bval []=0):=rfl
  generalize bval []=q at *
  generalize ([]:List Int).length=n at *
  subst h0
  clear h hl
  go_enter Tryz.func165,Tryz.ntmps165
  go_wp2
  go_ret
  exact ⟨_,fun h=>by simp at h,fun _=>by rw [hq.out];decide,rfl,rfl⟩
 ·obtain ⟨b,off,rfl,hb,hc⟩:=h.addr (by omega)
  have c0:=hc 0 (by omega)
  rw [Nat.add_zero] at c0
  have hw:=h.wf (xs.getD 0 0) (by
   cases xs with
   | nil=>simp at h0
   | cons a l=>simp)
  have hq:bval xs % 2=(xs.getD 0 0).toNat % 2:=by
   cases xs with
   | nil=>simp at h0
   | cons a l=>simp only [bval,List.getD_cons_zero];omega
  obtain ⟨n,hn⟩:∃ n,n=xs.length:=⟨_,rfl⟩
  rw [<-hn] at h0 hl ⊢
  obtain ⟨v,hv⟩:∃ v,v=xs.getD 0 0:=⟨_,rfl⟩
  rw [<-hv] at c0 hw hq
  generalize bval xs=q at *
  have hwr:0<=v/\v<4294967296:=by
   simp [Lit.wf,IntKind.min,IntKind.max,IntKind.signed,IntKind.bits] at hw
   omega
  have hov:=odd_word v hwr.1 hwr.2
  rw [<-hq] at hov
  have HOV:=Lib.hid hov
  have t0:decide ((0:Int)<(n:Int))=true:=decide_eq_true (by omega)
  have hpos:(0:Int)<(n:Int):=by omega
  have hpos2:0<n:=by omega
  clear h hc hn hv h0 hq hov hwr
  go_enter Tryz.func165,Tryz.ntmps165
  go_wp2
  go_ret
  exact ⟨_,fun h=>by rw [HOV.out] at h;simpa using h,fun h=>by rw [HOV.out] at h;simpa using h,rfl,rfl⟩
theorem odd_canon (ad:Option Addr) (ca:Nat) (c:Nat) (w:World) (h:Rd .u32 w ad ca (canon c)) (hl:(canon c).length<=1048576) :
 Calls Tryz.prog 165 #[.slice ad (canon c).length ca] w (OddPost c w):=by
 have:=odd_any ad ca (canon c) w h hl
 rwa [bval_canon] at this
def Hits (c:Nat) (k:Int) (b:Nat):Prop:=Rnd (Y75 (c * tenUp k)) (tenDn k) b
theorem Hits.uniq {c:Nat} {k:Int} {b d:Nat} (h:Hits c k b) (g:Hits c k d):b=d:=Rnd.uniq h g (tenDn_pos k) (tenDn_pos k) rfl
def lowOf (N D:Nat) (k:Int):Nat:=N * tenDn k / (D * tenUp k)
def highOf (N D:Nat) (k:Int):Nat:=if N * tenDn k % (D * tenUp k)=0 then lowOf N D k else lowOf N D k+1
def shortOf (c:Nat):List UInt8:=Lib.trimRightB (decText c) 48
open Classical in
def Pick (low high:Nat) (k:Int) (b:Nat) (cc:Int) (c:Nat):Prop:=c=if ¬ Hits low k b\/(Hits high k b/\(0<cc\/(cc=0/\low % 2=1))) then high else low
theorem pick_below {low high:Nat} {k:Int} {b:Nat} (h:Hits low k b):Pick low high k b (-1) low:=by
 unfold Pick;rw [if_neg];rintro (h1|⟨-,h1|⟨h1,-⟩⟩);exact h1 h;omega;omega
theorem pick_even {low high:Nat} {k:Int} {b:Nat} (h:Hits low k b) (ho:low % 2≠1):Pick low high k b 0 low:=by
 unfold Pick;rw [if_neg];rintro (h1|⟨-,h1|⟨-,h1⟩⟩);exact h1 h;omega;omega
theorem pick_odd {low high:Nat} {k:Int} {b:Nat} (h:Hits high k b) (ho:low % 2=1):Pick low high k b 0 high:=by
 unfold Pick;rw [if_pos];exact .inr ⟨h,.inr ⟨rfl,ho⟩⟩
theorem pick_above {low high:Nat} {k:Int} {b:Nat} (h:Hits high k b):Pick low high k b 1 high:=by
 unfold Pick;rw [if_pos];exact .inr ⟨h,.inl (by omega)⟩
theorem pick_low {low high:Nat} {k:Int} {b:Nat} {cc:Int} (h:Hits low k b) (h2:¬ Hits high k b):Pick low high k b cc low:=by
 unfold Pick;rw [if_neg];rintro (h1|⟨h1,-⟩);exact h1 h;exact h2 h1
theorem pick_high {low high:Nat} {k:Int} {b:Nat} {cc:Int} (h:¬ Hits low k b):Pick low high k b cc high:=by
 unfold Pick;rw [if_pos];exact .inl h
theorem Pick.uniq {low high:Nat} {k:Int} {b:Nat} {cc:Int} {c d:Nat} (h:Pick low high k b cc c) (g:Pick low high k b cc d):c=d:=by
 unfold Pick at h g;rw [h,g]
def halfOf (N D:Nat) (k:Int):Int:=cmpOf (N * tenDn k % (D * tenUp k)+N * tenDn k % (D * tenUp k)) (D * tenUp k)
def NearestPost (N D:Nat) (k:Int) (b:Nat) (w:World) (e:Ending) (w':World):Prop :=
 (∃ c,(c=lowOf N D k\/c=highOf N D k)/\Pick (lowOf N D k) (highOf N D k) k b (halfOf N D k) c/\Hits c k b/\e=.returned (.tuple #[.string ⟨(shortOf c).toArray⟩,.int .i64 (k+((decText c).length:Int) - ((shortOf c).length:Int)),.bool true])/\Below w.heap.size w w') \/
 (¬ Hits (lowOf N D k) k b/\¬ Hits (highOf N D k) k b/\e=.returned (.tuple #[.string ⟨#[]⟩,.int .i64 0,.bool false])/\Below w.heap.size w w')
theorem nearest_ok {N D:Nat} {k:Int} {b:Nat} {w w':World} (c:Nat) (h:c=lowOf N D k\/c=highOf N D k) (hp:Pick (lowOf N D k) (highOf N D k) k b (halfOf N D k) c) (g:Hits c k b) (hb:Below w.heap.size w w') :
 NearestPost N D k b w (.returned (.tuple #[.string ⟨(shortOf c).toArray⟩,.int .i64 (k+((decText c).length:Int) - ((shortOf c).length:Int)),.bool true])) w':=.inl ⟨c,h,hp,g,rfl,hb⟩
theorem cmp_range (a b:Nat):-1<=cmpOf a b/\cmpOf a b<=1:=by
 unfold cmpOf;split
 ·decide
 ·split<;>decide
set_option maxHeartbeats 4000000 in
theorem nearest_any (ad bd:Option Addr) (ca cb:Nat) (xs ys:List Int) (N D:Nat) (k:Int) (b:Nat) (w:World) (h:Rd .u32 w ad ca xs) (g:Rd .u32 w bd cb ys) (hx:bval xs=N) (hy:bval ys=D) (lx:xs.length<=60) (ly:ys.length<=60) (h1:-500<=k) (h2:k<=500)
 (hD:D≠0) (hlow:lowOf N D k<1000000000000000000) :
 Calls Tryz.prog 136 #[.slice ad xs.length ca,.slice bd ys.length cb,.int .i64 k,.int .u64 b] w (NearestPost N D k b w):=by
 have fN:Fits N 60:=by rw [<-hx];exact (Fits.words (words_of_rd h)).mono lx
 have fD:Fits D 60:=by rw [<-hy];exact (Fits.words (words_of_rd g)).mono ly
 have fu:Fits (tenUp k) 63:=ten_fitsK _ 63 (by omega)
 have fd:Fits (tenDn k) 63:=ten_fitsK _ 63 (by omega)
 have lu:=fu.len
 have ld:=fd.len
 have l1:=(fN.mul fd).len
 have l2:=(fD.mul fu).len
 have hQ:D * tenUp k≠0:=Nat.mul_ne_zero hD (Nat.pos_iff_ne_zero.1 (tenUp_pos k))
 have HR:=fun w0 ad (hr:Rd .u32 w0 ad 1 [1])=>ratio_any ad 1 1 k w0 hr (by decide) (by omega) (by omega)
 have e1:1 * tenUp k=tenUp k:=Nat.one_mul _
 rw [e1] at HR
 have HM1:=fun w0 (hb:Below w.heap.size w w0) po pc (hr:Rd .u32 w0 po pc (canon (tenDn k)))=>mul_two ad po ca pc xs (canon (tenDn k)) w0 N (tenDn k) (h.keep hb) hr hx (bval_canon _) (by omega) (by omega)
 have HM2:=fun w0 (hb:Below w.heap.size w w0) po pc (hr:Rd .u32 w0 po pc (canon (tenUp k)))=>mul_two bd po cb pc ys (canon (tenUp k)) w0 D (tenUp k) (g.keep hb) hr hy (bval_canon _) (by omega) (by omega)
 have HDM:=fun w0 po pc qo qc (hr:Rd .u32 w0 po pc (canon (N * tenDn k))) (hq:Rd .u32 w0 qo qc (canon (D * tenUp k)))=>divMod_two po qo pc qc (canon (N * tenDn k)) (canon (D * tenUp k)) w0 _ _ hr hq (bval_canon _) (bval_canon _) (by omega) (by omega) hQ
 have fr:Fits (N * tenDn k % (D * tenUp k)) 123:=Nat.lt_of_lt_of_le (Nat.mod_lt _ (Nat.pos_of_ne_zero hQ)) (Nat.le_of_lt (fD.mul fu))
 have lr:=fr.len
 have lrr:=(fr.add fr).len
 have hhigh:highOf N D k=if N * tenDn k % (D * tenUp k)=0 then lowOf N D k else lowOf N D k+1:=rfl
 have HNR:=fun (c:Nat) (hc:c<=1000000000000000000) w0 po pc (hr:Rd .u32 w0 po pc (canon c)) =>
  near_two' po pc (canon c) w0 c k hr (bval_canon _) (Nat.le_trans (fits_64 c (by omega)).len (by decide)) (by omega) (by omega) (Nat.le_trans (blen_of_fits _ _ (fits_64 c (by omega))) (by decide))
 have HTX:=fun (c:Nat) (hc:c<=1000000000000000000) w0 po pc (hr:Rd .u32 w0 po pc (canon c)) =>
  text_canon po pc c w0 hr (Nat.le_trans (fits_64 c (by omega)).len (by decide))
 have HOD:=fun (c:Nat) (hc:c<=1000000000000000000) w0 po pc (hr:Rd .u32 w0 po pc (canon c)) =>
  odd_canon po pc c w0 hr (Nat.le_trans (fits_64 c (by omega)).len (by decide))
 have HTR:=fun (c:Nat) (hc:c<=1000000000000000000) (w0:World)=>trim_string (decText c) w0 (Nat.le_trans (dec_len c hc) (by decide))
 have HAD:=fun (c:Nat) (hc:c<=1000000000000000000) w0 po pc qo (hr:Rd .u32 w0 po pc (canon c)) (hq:Rd .u32 w0 qo 1 [1]) =>
  add_two po qo pc 1 (canon c) [1] w0 c 1 hr hq (bval_canon _) rfl (Nat.le_trans (fits_64 c (by omega)).len (by decide)) (by decide)
 have HA2:=fun w0 po pc (hr:Rd .u32 w0 po pc (canon (N * tenDn k % (D * tenUp k))))=>add_two po po pc pc (canon (N * tenDn k % (D * tenUp k))) (canon (N * tenDn k % (D * tenUp k))) w0 _ _ hr hr (bval_canon _) (bval_canon _) (by omega) (by omega)
 have HC:=fun w0 po pc qo qc (hr:Rd .u32 w0 po pc (canon (N * tenDn k % (D * tenUp k)+N * tenDn k % (D * tenUp k)))) (hq:Rd .u32 w0 qo qc (canon (D * tenUp k)))=>cmp_two' po qo pc qc (canon _) (canon _) w0 _ _ hr hq (bval_canon _) (bval_canon _) (by omega) (by omega)
 have HCR:=cmp_range (N * tenDn k % (D * tenUp k)+N * tenDn k % (D * tenUp k)) (D * tenUp k)
 have HLEN:=canon_len_zero (N * tenDn k % (D * tenUp k))
 have hlowe:N * tenDn k / (D * tenUp k)=lowOf N D k:=rfl
 have hdl:∀ c,c<=1000000000000000000->(decText c).length<=30:=fun c hc=>dec_len c hc
 have hsl:∀ c,c<=1000000000000000000->(shortOf c).length<=30:=fun c hc=>Nat.le_trans (trimRight_len _ _) (dec_len c hc)
 unfold TwoPost at HR
 unfold WordsPost at HM1 HM2 HAD HA2
 unfold DivModPost at HDM
 unfold NearPost at HNR
 unfold TextPost at HTX
 unfold CmpPostFl at HC
 unfold OddPost at HOD
 replace HTR:=fun c hc w0=>(show Calls Tryz.prog 167 #[.string ⟨(decText c).toArray⟩,.string ⟨#[48]⟩] w0 fun e w'=>e=.returned (.string ⟨(shortOf c).toArray⟩)/\w'=w0 from HTR c hc w0)
 rw [hlowe] at HDM
 have hits:∀ c x,Rnd (Y75 (c * tenUp k)) (tenDn k) x->Hits c k x:=fun c x h=>h
 have hok:=fun (c:Nat) (h:c=lowOf N D k\/c=highOf N D k) (hp:Pick (lowOf N D k) (highOf N D k) k b (cmpOf (N * tenDn k % (D * tenUp k)+N * tenDn k % (D * tenUp k)) (D * tenUp k)) c) (g:Hits c k b) (w':World) (hb:Below w.heap.size w w')=>nearest_ok (w:=w) (w':=w') c h hp g hb
 have hno:∀ w',Below w.heap.size w w'->¬ Hits (lowOf N D k) k b->¬ Hits (highOf N D k) k b->NearestPost N D k b w (.returned (.tuple #[.string ⟨#[]⟩,.int .i64 0,.bool false])) w':=fun w' hb n1 n2=>.inr ⟨n1,n2,rfl,hb⟩
 generalize N * tenDn k % (D * tenUp k)=r at *
 generalize N * tenDn k=P at *
 generalize D * tenUp k=Q at *
 generalize NearestPost N D k b w=POST at *
 generalize lowOf N D k=low at *
 generalize highOf N D k=high at *
 have hlo9:Hid (low<=1000000000000000000):=by show _<=_;omega
 have hhi9:Hid (high<=1000000000000000000):=by show _<=_;rw [hhigh];split<;>omega
 have HH:=Lib.hid hhigh
 obtain ⟨n0,hn0⟩:∃ n,n=xs.length:=⟨_,rfl⟩
 obtain ⟨n1,hn1⟩:∃ n,n=ys.length:=⟨_,rfl⟩
 rw [<-hn0] at HM1 ⊢
 rw [<-hn1] at HM2 ⊢
 generalize tenUp k=U at *
 generalize tenDn k=V at *
 replace HR:=Lib.hid HR
 replace HM1:=Lib.hid HM1
 replace HM2:=Lib.hid HM2
 replace HDM:=Lib.hid HDM
 replace HNR:=Lib.hid HNR
 replace HTX:=Lib.hid HTX
 replace HOD:=Lib.hid HOD
 replace HTR:=Lib.hid HTR
 replace HAD:=Lib.hid HAD
 replace HA2:=Lib.hid HA2
 replace HC:=Lib.hid HC
 replace HLEN:=Lib.hid HLEN
 replace hits:=Lib.hid hits
 replace hok:=Lib.hid hok
 replace hno:=Lib.hid hno
 replace hdl:=Lib.hid hdl
 replace hsl:=Lib.hid hsl
 clear h g hx hy lx ly fN fD fu fd lu ld l1 l2 hn0 hn1 e1 hQ fr lr lrr hhigh hlowe hlow hD
 go_enter Tryz.func136,Tryz.ntmps136
 go_wp2_with fail
 have ho:=one_rd w
 have hc1:canon 1=[1]:=rfl
 rw [hc1] at ho
 have b0:=(Below.refl w.heap.size w).alloc (Nat.le_refl _) (.cells #[.int .u32 1] 145)
 refine (HR.out _ _ ho).mono ?_
 rintro e0 w1 ⟨no,nc,dd,dc,rfl,hr,hr2,hb⟩
 have U1:=Lib.hid hr
 have V1:=Lib.hid hr2
 have B1:=Lib.hid (b0.trans (hb.mono b0.size))
 clear hr hr2 hb b0 ho hc1
 go_wp2_with fail
 refine (HM1.out w1 B1.out _ _ V1.out).mono ?_
 rintro e0 w2 ⟨mo,mc,rfl,hr,hb⟩
 have M2:=Lib.hid hr
 have U2:=Lib.hid (U1.out.keep hb)
 have B2:=Lib.hid (B1.out.trans (hb.mono B1.out.size))
 clear hr hb B1 U1 V1
 go_wp2_with fail
 refine (HM2.out w2 B2.out _ _ U2.out).mono ?_
 rintro e0 w3 ⟨po,pc,rfl,hr,hb⟩
 have P3:=Lib.hid hr
 have M3:=Lib.hid (M2.out.keep hb)
 have B3:=Lib.hid (B2.out.trans (hb.mono B2.out.size))
 clear hr hb B2 U2 M2
 go_wp2_with fail
 refine (HDM.out w3 _ _ _ _ M3.out P3.out).mono ?_
 rintro e0 w4 ⟨qo,qc,ro,rc,rfl,hr,hr2,hb⟩
 have L4:=Lib.hid hr
 have R4:=Lib.hid hr2
 have P4:=Lib.hid (P3.out.keep hb)
 have B4:=Lib.hid (B3.out.trans (hb.mono B3.out.size))
 clear hr hr2 hb B3 M3 P3
 by_cases hr0:r=0
 ·have hz:=HLEN.out.1 hr0
  have he:=HH.out
  rw [if_pos hr0] at he
  replace he:=he.symm
  subst he
  have tz:decide ((0:Int)<((canon r).length:Int))=false:=decide_eq_false (by omega)
  have tz2:¬ 0<(canon r).length:=by omega
  obtain ⟨w5,rfl⟩:∃ w5:World,w5=w4:=⟨_,rfl⟩
  have L5:=L4
  have H5:=L4
  have R5:=R4
  have P5:=P4
  have B5:=B4
  clear L4 R4 P4 B4 hr0 HH hz
  go_wp2_with fail
  refine (HNR.out low hlo9.out w5 _ _ L5.out).mono ?_
  rintro e0 w6 ⟨x,rfl,hr,hb⟩
  have X6:=Lib.hid (hits.out _ _ hr)
  have L6:=Lib.hid (L5.out.keep hb)
  have H6:=Lib.hid (H5.out.keep hb)
  have R6:=Lib.hid (R5.out.keep hb)
  have P6:=Lib.hid (P5.out.keep hb)
  have B6:=Lib.hid (B5.out.trans (hb.mono B5.out.size))
  clear hr hb B5 L5 H5 R5 P5
  go_wp2_with fail
  refine (HNR.out low hhi9.out w6 _ _ H6.out).mono ?_
  rintro e0 w7 ⟨y,rfl,hr,hb⟩
  have Y7:=Lib.hid (hits.out _ _ hr)
  have L7:=Lib.hid (L6.out.keep hb)
  have H7:=Lib.hid (H6.out.keep hb)
  have R7:=Lib.hid (R6.out.keep hb)
  have P7:=Lib.hid (P6.out.keep hb)
  have B7:=Lib.hid (B6.out.trans (hb.mono B6.out.size))
  clear hr hb B6 L6 H6 R6 P6
  go_wp2_with fail
  refine (HA2.out w7 _ _ R7.out).mono ?_
  rintro e0 w8 ⟨so,sc,rfl,hr,hb⟩
  have S8:=Lib.hid hr
  have L8:=Lib.hid (L7.out.keep hb)
  have H8:=Lib.hid (H7.out.keep hb)
  have P8:=Lib.hid (P7.out.keep hb)
  have B8:=Lib.hid (B7.out.trans (hb.mono B7.out.size))
  clear hr hb B7 L7 H7 R7 P7
  go_wp2_with fail
  refine (HC.out w8 _ _ _ _ S8.out P8.out).mono ?_
  rintro e0 w9 ⟨rfl,hb⟩
  have L9:=Lib.hid (L8.out.keep hb)
  have H9:=Lib.hid (H8.out.keep hb)
  have B9:=Lib.hid (B8.out.trans (hb.mono B8.out.size))
  clear hb B8 L8 H8 P8 S8
  generalize cmpOf (r+r) Q=cc at *
  by_cases hxb:x=b
  ·subst hxb
   have tx:decide ((x:Int)=(x:Int))=true:=decide_eq_true rfl
   by_cases hyb:y=x
   ·subst hyb
    rcases (show cc=-1\/cc=0\/cc=1 by omega) with rfl|rfl|rfl
    ·
     go_wp2_with fail
     refine (HTX.out low hlo9.out _ _ _ L9.out).mono ?_
     rintro e0 wa ⟨rfl,hb⟩
     have BA:=Lib.hid (B9.out.trans (hb.mono B9.out.size))
     clear hb B9
     have hd1:=hdl.out low hlo9.out
     have hd2:=hsl.out low hlo9.out
     have hfin:=Lib.hid (hok.out low (.inl rfl) (pick_below X6.out) X6.out wa BA.out)
     have HTRc:=Lib.hid (HTR.out low hlo9.out wa)
     generalize decText low=dt at *
     generalize shortOf low=st at *
     go_wp2_with fail
     refine HTRc.out.mono ?_
     rintro e0 wb ⟨rfl,rfl⟩
     go_wp2
     go_ret3
     exact hfin.out
    ·
     go_wp2_with fail
     refine (HOD.out low hlo9.out _ _ _ L9.out).mono ?_
     rintro e0 wz ⟨bo,od1,od2,rfl,rfl⟩
     have OD1:=Lib.hid od1
     have OD2:=Lib.hid od2
     clear od1 od2
     cases bo
     ·skip
      go_wp2_with fail
      refine (HTX.out low hlo9.out _ _ _ L9.out).mono ?_
      rintro e0 wa ⟨rfl,hb⟩
      have BA:=Lib.hid (B9.out.trans (hb.mono B9.out.size))
      clear hb B9
      have hd1:=hdl.out low hlo9.out
      have hd2:=hsl.out low hlo9.out
      have hfin:=Lib.hid (hok.out low (.inl rfl) (pick_even X6.out (by first|exact OD2.out rfl|exact OD2.out trivial)) X6.out wa BA.out)
      have HTRc:=Lib.hid (HTR.out low hlo9.out wa)
      generalize decText low=dt at *
      generalize shortOf low=st at *
      go_wp2_with fail
      refine HTRc.out.mono ?_
      rintro e0 wb ⟨rfl,rfl⟩
      go_wp2
      go_ret3
      exact hfin.out
     ·skip
      go_wp2_with fail
      refine (HTX.out low hhi9.out _ _ _ H9.out).mono ?_
      rintro e0 wa ⟨rfl,hb⟩
      have BA:=Lib.hid (B9.out.trans (hb.mono B9.out.size))
      clear hb B9
      have hd1:=hdl.out low hhi9.out
      have hd2:=hsl.out low hhi9.out
      have hfin:=Lib.hid (hok.out low (.inr rfl) (pick_odd Y7.out (by first|exact OD1.out rfl|exact OD1.out trivial)) Y7.out wa BA.out)
      have HTRc:=Lib.hid (HTR.out low hhi9.out wa)
      generalize decText low=dt at *
      generalize shortOf low=st at *
      go_wp2_with fail
      refine HTRc.out.mono ?_
      rintro e0 wb ⟨rfl,rfl⟩
      go_wp2
      go_ret3
      exact hfin.out
    ·
     go_wp2_with fail
     refine (HTX.out low hhi9.out _ _ _ H9.out).mono ?_
     rintro e0 wa ⟨rfl,hb⟩
     have BA:=Lib.hid (B9.out.trans (hb.mono B9.out.size))
     clear hb B9
     have hd1:=hdl.out low hhi9.out
     have hd2:=hsl.out low hhi9.out
     have hfin:=Lib.hid (hok.out low (.inr rfl) (pick_above Y7.out) Y7.out wa BA.out)
     have HTRc:=Lib.hid (HTR.out low hhi9.out wa)
     generalize decText low=dt at *
     generalize shortOf low=st at *
     go_wp2_with fail
     refine HTRc.out.mono ?_
     rintro e0 wb ⟨rfl,rfl⟩
     go_wp2
     go_ret3
     exact hfin.out
   ·have ty:((y:Int)==(x:Int))=false:=by rw [beq_eq_false_iff_ne];omega
    have ty3:((y:Int) != (x:Int))=true:=by rw [bne_iff_ne];omega
    have ty2:decide ((y:Int)=(x:Int))=false:=decide_eq_false (by omega)
    go_wp2_with fail
    refine (HTX.out low hlo9.out _ _ _ L9.out).mono ?_
    rintro e0 wa ⟨rfl,hb⟩
    have BA:=Lib.hid (B9.out.trans (hb.mono B9.out.size))
    clear hb B9
    have hd1:=hdl.out low hlo9.out
    have hd2:=hsl.out low hlo9.out
    have hfin:=Lib.hid (hok.out low (.inl rfl) (pick_low X6.out (fun h=>hyb (Y7.out.uniq h))) X6.out wa BA.out)
    have HTRc:=Lib.hid (HTR.out low hlo9.out wa)
    generalize decText low=dt at *
    generalize shortOf low=st at *
    go_wp2_with fail
    refine HTRc.out.mono ?_
    rintro e0 wb ⟨rfl,rfl⟩
    go_wp2
    go_ret3
    exact hfin.out
  ·have tx:((x:Int)==(b:Int))=false:=by rw [beq_eq_false_iff_ne];omega
   have tx3:((x:Int) != (b:Int))=true:=by rw [bne_iff_ne];omega
   have tx2:decide ((x:Int)=(b:Int))=false:=decide_eq_false (by omega)
   by_cases hyb:y=b
   ·subst hyb
    go_wp2_with fail
    refine (HTX.out low hhi9.out _ _ _ H9.out).mono ?_
    rintro e0 wa ⟨rfl,hb⟩
    have BA:=Lib.hid (B9.out.trans (hb.mono B9.out.size))
    clear hb B9
    have hd1:=hdl.out low hhi9.out
    have hd2:=hsl.out low hhi9.out
    have hfin:=Lib.hid (hok.out low (.inr rfl) (pick_high (fun h=>hxb (X6.out.uniq h))) Y7.out wa BA.out)
    have HTRc:=Lib.hid (HTR.out low hhi9.out wa)
    generalize decText low=dt at *
    generalize shortOf low=st at *
    go_wp2_with fail
    refine HTRc.out.mono ?_
    rintro e0 wb ⟨rfl,rfl⟩
    go_wp2
    go_ret3
    exact hfin.out
   ·have ty:((y:Int)==(b:Int))=false:=by rw [beq_eq_false_iff_ne];omega
    have ty3:((y:Int) != (b:Int))=true:=by rw [bne_iff_ne];omega
    have ty2:decide ((y:Int)=(b:Int))=false:=decide_eq_false (by omega)
    have hfin:=Lib.hid (hno.out w9 B9.out (fun h=>hxb (X6.out.uniq h)) (fun h=>hyb (Y7.out.uniq h)))
    go_wp2
    go_ret3
    exact hfin.out
 ·have hz:=HLEN.out.2 hr0
  have he:=HH.out
  rw [if_neg hr0] at he
  have tz:decide ((0:Int)<((canon r).length:Int))=true:=decide_eq_true (by omega)
  have tz2:0<(canon r).length:=by omega
  have ho:=Rd.keep R4.out ((Below.refl _ w4).alloc (Nat.le_refl _) (.cells #[.int .u32 1] 145))
  have b5:=(Below.refl w4.heap.size w4).alloc (Nat.le_refl _) (.cells #[.int .u32 1] 145)
  have h1':=one_rd w4
  have hc1:canon 1=[1]:=rfl
  rw [hc1] at h1'
  have HA:=Lib.hid (HAD.out low hlo9.out _ _ _ _ (L4.out.keep b5) h1')
  have B5':=Lib.hid b5
  rw [<-he] at HA
  clear hr0 he hz ho b5 h1' hc1 HH
  go_wp2_with fail
  refine HA.out.mono ?_
  rintro e0 w5 ⟨ho,hc,rfl,hr,hb⟩
  have b6:=B5'.out.trans (hb.mono B5'.out.size)
  have H5:=Lib.hid hr
  have L5:=Lib.hid (L4.out.keep b6)
  have R5:=Lib.hid (R4.out.keep b6)
  have P5:=Lib.hid (P4.out.keep b6)
  have B5:=Lib.hid (B4.out.trans (b6.mono B4.out.size))
  clear hr hb b6 B5' L4 R4 P4 B4 HA
  go_wp2_with fail
  refine (HNR.out low hlo9.out w5 _ _ L5.out).mono ?_
  rintro e0 w6 ⟨x,rfl,hr,hb⟩
  have X6:=Lib.hid (hits.out _ _ hr)
  have L6:=Lib.hid (L5.out.keep hb)
  have H6:=Lib.hid (H5.out.keep hb)
  have R6:=Lib.hid (R5.out.keep hb)
  have P6:=Lib.hid (P5.out.keep hb)
  have B6:=Lib.hid (B5.out.trans (hb.mono B5.out.size))
  clear hr hb B5 L5 H5 R5 P5
  go_wp2_with fail
  refine (HNR.out high hhi9.out w6 _ _ H6.out).mono ?_
  rintro e0 w7 ⟨y,rfl,hr,hb⟩
  have Y7:=Lib.hid (hits.out _ _ hr)
  have L7:=Lib.hid (L6.out.keep hb)
  have H7:=Lib.hid (H6.out.keep hb)
  have R7:=Lib.hid (R6.out.keep hb)
  have P7:=Lib.hid (P6.out.keep hb)
  have B7:=Lib.hid (B6.out.trans (hb.mono B6.out.size))
  clear hr hb B6 L6 H6 R6 P6
  go_wp2_with fail
  refine (HA2.out w7 _ _ R7.out).mono ?_
  rintro e0 w8 ⟨so,sc,rfl,hr,hb⟩
  have S8:=Lib.hid hr
  have L8:=Lib.hid (L7.out.keep hb)
  have H8:=Lib.hid (H7.out.keep hb)
  have P8:=Lib.hid (P7.out.keep hb)
  have B8:=Lib.hid (B7.out.trans (hb.mono B7.out.size))
  clear hr hb B7 L7 H7 R7 P7
  go_wp2_with fail
  refine (HC.out w8 _ _ _ _ S8.out P8.out).mono ?_
  rintro e0 w9 ⟨rfl,hb⟩
  have L9:=Lib.hid (L8.out.keep hb)
  have H9:=Lib.hid (H8.out.keep hb)
  have B9:=Lib.hid (B8.out.trans (hb.mono B8.out.size))
  clear hb B8 L8 H8 P8 S8
  generalize cmpOf (r+r) Q=cc at *
  by_cases hxb:x=b
  ·subst hxb
   have tx:decide ((x:Int)=(x:Int))=true:=decide_eq_true rfl
   by_cases hyb:y=x
   ·subst hyb
    rcases (show cc=-1\/cc=0\/cc=1 by omega) with rfl|rfl|rfl
    ·
     go_wp2_with fail
     refine (HTX.out low hlo9.out _ _ _ L9.out).mono ?_
     rintro e0 wa ⟨rfl,hb⟩
     have BA:=Lib.hid (B9.out.trans (hb.mono B9.out.size))
     clear hb B9
     have hd1:=hdl.out low hlo9.out
     have hd2:=hsl.out low hlo9.out
     have hfin:=Lib.hid (hok.out low (.inl rfl) (pick_below X6.out) X6.out wa BA.out)
     have HTRc:=Lib.hid (HTR.out low hlo9.out wa)
     generalize decText low=dt at *
     generalize shortOf low=st at *
     go_wp2_with fail
     refine HTRc.out.mono ?_
     rintro e0 wb ⟨rfl,rfl⟩
     go_wp2
     go_ret3
     exact hfin.out
    ·
     go_wp2_with fail
     refine (HOD.out low hlo9.out _ _ _ L9.out).mono ?_
     rintro e0 wz ⟨bo,od1,od2,rfl,rfl⟩
     have OD1:=Lib.hid od1
     have OD2:=Lib.hid od2
     clear od1 od2
     cases bo
     ·skip
      go_wp2_with fail
      refine (HTX.out low hlo9.out _ _ _ L9.out).mono ?_
      rintro e0 wa ⟨rfl,hb⟩
      have BA:=Lib.hid (B9.out.trans (hb.mono B9.out.size))
      clear hb B9
      have hd1:=hdl.out low hlo9.out
      have hd2:=hsl.out low hlo9.out
      have hfin:=Lib.hid (hok.out low (.inl rfl) (pick_even X6.out (by first|exact OD2.out rfl|exact OD2.out trivial)) X6.out wa BA.out)
      have HTRc:=Lib.hid (HTR.out low hlo9.out wa)
      generalize decText low=dt at *
      generalize shortOf low=st at *
      go_wp2_with fail
      refine HTRc.out.mono ?_
      rintro e0 wb ⟨rfl,rfl⟩
      go_wp2
      go_ret3
      exact hfin.out
     ·skip
      go_wp2_with fail
      refine (HTX.out high hhi9.out _ _ _ H9.out).mono ?_
      rintro e0 wa ⟨rfl,hb⟩
      have BA:=Lib.hid (B9.out.trans (hb.mono B9.out.size))
      clear hb B9
      have hd1:=hdl.out high hhi9.out
      have hd2:=hsl.out high hhi9.out
      have hfin:=Lib.hid (hok.out high (.inr rfl) (pick_odd Y7.out (by first|exact OD1.out rfl|exact OD1.out trivial)) Y7.out wa BA.out)
      have HTRc:=Lib.hid (HTR.out high hhi9.out wa)
      generalize decText high=dt at *
      generalize shortOf high=st at *
      go_wp2_with fail
      refine HTRc.out.mono ?_
      rintro e0 wb ⟨rfl,rfl⟩
      go_wp2
      go_ret3
      exact hfin.out
    ·
     go_wp2_with fail
     refine (HTX.out high hhi9.out _ _ _ H9.out).mono ?_
     rintro e0 wa ⟨rfl,hb⟩
     have BA:=Lib.hid (B9.out.trans (hb.mono B9.out.size))
     clear hb B9
     have hd1:=hdl.out high hhi9.out
     have hd2:=hsl.out high hhi9.out
     have hfin:=Lib.hid (hok.out high (.inr rfl) (pick_above Y7.out) Y7.out wa BA.out)
     have HTRc:=Lib.hid (HTR.out high hhi9.out wa)
     generalize decText high=dt at *
     generalize shortOf high=st at *
     go_wp2_with fail
     refine HTRc.out.mono ?_
     rintro e0 wb ⟨rfl,rfl⟩
     go_wp2
     go_ret3
     exact hfin.out
   ·have ty:((y:Int)==(x:Int))=false:=by rw [beq_eq_false_iff_ne];omega
    have ty3:((y:Int) != (x:Int))=true:=by rw [bne_iff_ne];omega
    have ty2:decide ((y:Int)=(x:Int))=false:=decide_eq_false (by omega)
    go_wp2_with fail
    refine (HTX.out low hlo9.out _ _ _ L9.out).mono ?_
    rintro e0 wa ⟨rfl,hb⟩
    have BA:=Lib.hid (B9.out.trans (hb.mono B9.out.size))
    clear hb B9
    have hd1:=hdl.out low hlo9.out
    have hd2:=hsl.out low hlo9.out
    have hfin:=Lib.hid (hok.out low (.inl rfl) (pick_low X6.out (fun h=>hyb (Y7.out.uniq h))) X6.out wa BA.out)
    have HTRc:=Lib.hid (HTR.out low hlo9.out wa)
    generalize decText low=dt at *
    generalize shortOf low=st at *
    go_wp2_with fail
    refine HTRc.out.mono ?_
    rintro e0 wb ⟨rfl,rfl⟩
    go_wp2
    go_ret3
    exact hfin.out
  ·have tx:((x:Int)==(b:Int))=false:=by rw [beq_eq_false_iff_ne];omega
   have tx3:((x:Int) != (b:Int))=true:=by rw [bne_iff_ne];omega
   have tx2:decide ((x:Int)=(b:Int))=false:=decide_eq_false (by omega)
   by_cases hyb:y=b
   ·subst hyb
    go_wp2_with fail
    refine (HTX.out high hhi9.out _ _ _ H9.out).mono ?_
    rintro e0 wa ⟨rfl,hb⟩
    have BA:=Lib.hid (B9.out.trans (hb.mono B9.out.size))
    clear hb B9
    have hd1:=hdl.out high hhi9.out
    have hd2:=hsl.out high hhi9.out
    have hfin:=Lib.hid (hok.out high (.inr rfl) (pick_high (fun h=>hxb (X6.out.uniq h))) Y7.out wa BA.out)
    have HTRc:=Lib.hid (HTR.out high hhi9.out wa)
    generalize decText high=dt at *
    generalize shortOf high=st at *
    go_wp2_with fail
    refine HTRc.out.mono ?_
    rintro e0 wb ⟨rfl,rfl⟩
    go_wp2
    go_ret3
    exact hfin.out
   ·have ty:((y:Int)==(b:Int))=false:=by rw [beq_eq_false_iff_ne];omega
    have ty3:((y:Int) != (b:Int))=true:=by rw [bne_iff_ne];omega
    have ty2:decide ((y:Int)=(b:Int))=false:=decide_eq_false (by omega)
    have hfin:=Lib.hid (hno.out w9 B9.out (fun h=>hxb (X6.out.uniq h)) (fun h=>hyb (Y7.out.uniq h)))
    go_wp2
    go_ret3
    exact hfin.out
end Go.Proofs.YtldhmfkojaekfaaGreatDoor
namespace Go.Proofs.YtldhmfkojaekfaaGreatDoor
open Go.RowKit Gx
set_option maxRecDepth 100000
theorem andnot_sign (b:Nat) (hb:b<18446744073709551616):bits BinOp.andNot IntKind.u64 (b:Int) 9223372036854775808=((b % 9223372036854775808:Nat):Int):=by
 have h1:(BitVec.ofInt 64 (b:Int)).toNat=b:=by
  rw [BitVec.ofInt_natCast,BitVec.toNat_ofNat];exact Nat.mod_eq_of_lt (by omega)
 have h2:(~~~ (BitVec.ofInt 64 9223372036854775808)).toNat=2 ^ 63 - 1:=by decide
 show IntKind.u64.wrap ((BitVec.ofInt 64 (b:Int) &&& ~~~ (BitVec.ofInt 64 9223372036854775808)).toNat:Int)=_
 rw [BitVec.toNat_and,h1,h2,Nat.and_two_pow_sub_one_eq_mod,IntKind.wrap_u64]
 have h3:(2:Nat) ^ 63=9223372036854775808:=by decide
 rw [h3]
 omega
def Lim:Nat:=18014398509481983 * 2 ^ 970
theorem y75_x74 (N:Nat):Y75 N=2 * X74 N:=by
 obtain ⟨K,hK⟩:∃ K:Nat,K=1074:=⟨_,rfl⟩
 rw [y75_of N (K+1) (by omega),x74_of N K hK,Nat.pow_succ,<-Nat.mul_assoc,Nat.mul_comm]
end Go.Proofs.YtldhmfkojaekfaaGreatDoor
namespace Go.Proofs.YtldhmfkojaekfaaGreatDoor
set_option maxRecDepth 100000
theorem Rnd.between {Y D Z C W E b:Nat} (h:Rnd Y D b) (g:Rnd Z C b) (hD:0<D) (hC:0<C) (hE:0<E) (h1:Y * E<=W * D) (h2:W * C<=Z * E):Rnd W E b:=by
 refine ⟨h.le,?_,?_⟩
 ·rcases h.lo with h0|h0
  ·exact .inl h0
  ·generalize fmid (b - 1)=f at *
   have a1:D * f<=Y:=by omega
   have a2:E * f * D<=W * D:=by
    have:=Nat.mul_le_mul_right E a1
    rw [show E * f * D=D * f * E by rw [Nat.mul_comm,Nat.mul_assoc,Nat.mul_comm E f]]
    omega
   have a3:=Nat.le_of_mul_le_mul_right a2 hD
   rcases Nat.lt_or_ge (E * f) W with h3|h3
   ·exact .inr (.inl h3)
   ·have e3:E * f=W:=Nat.le_antisymm a3 h3
    rcases h0 with h0|h0
    ·exfalso
     have:=Nat.mul_lt_mul_of_pos_right h0 hE
     have e4:W * D=D * f * E:=by rw [<-e3,Nat.mul_comm,<-Nat.mul_assoc,Nat.mul_right_comm]
     omega
    ·exact .inr (.inr ⟨e3,h0.2⟩)
 ·rcases g.hi with h0|h0
  ·exact .inl h0
  ·generalize fmid b=f at *
   have a1:Z<=C * f:=by omega
   have a2:W * C<=E * f * C:=by
    have:=Nat.mul_le_mul_right E a1
    rw [show E * f * C=C * f * E by rw [Nat.mul_comm,Nat.mul_assoc,Nat.mul_comm E f]]
    omega
   have a3:=Nat.le_of_mul_le_mul_right a2 hC
   rcases Nat.lt_or_ge W (E * f) with h3|h3
   ·exact .inr (.inl h3)
   ·have e3:W=E * f:=Nat.le_antisymm a3 h3
    rcases h0 with h0|h0
    ·exfalso
     have:=Nat.mul_lt_mul_of_pos_right h0 hE
     have e4:W * C=C * f * E:=by rw [e3,Nat.mul_comm,<-Nat.mul_assoc,Nat.mul_right_comm]
     omega
    ·exact .inr (.inr ⟨e3,h0.2⟩)
theorem gap_lo (b:Nat) (h:0<b):∃ u,0<u/\fval b=fval (b - 1)+u/\fval b<=9007199254740992 * u:=by
 obtain ⟨n,E,hb,hn,hE,hv,he⟩:=fbitsFl (b - 1)
 have h1:=fval_succ (b - 1)
 rw [show b - 1+1=b by omega,<-he] at h1
 refine ⟨2 ^ E,Nat.two_pow_pos E,h1,?_⟩
 rw [h1,hv]
 have:=Nat.mul_le_mul_right (2 ^ E) (show n+1<=9007199254740992 by omega)
 rw [Nat.add_mul,Nat.one_mul] at this
 exact this
theorem gap_hi (b:Nat):∃ u,0<u/\fval (b+1)=fval b+u/\fval b<=9007199254740992 * u:=by
 obtain ⟨n,E,hb,hn,hE,hv,he⟩:=fbitsFl b
 have h1:=fval_succ b
 rw [<-he] at h1
 refine ⟨2 ^ E,Nat.two_pow_pos E,h1,?_⟩
 rw [hv]
 exact Nat.mul_le_mul_right (2 ^ E) (by omega)
theorem low_lt {N D n:Nat} {top:Int} (hD:0<D) (h:Bel N D top):lowOf N D (top - (n:Int))<10 ^ n:=by
 unfold Bel at h
 unfold lowOf
 have hs:=ten_shift top n
 have p1:=tenUp_pos (top - (n:Int))
 have p2:=tenDn_pos (top - (n:Int))
 rw [Nat.div_lt_iff_lt_mul (Nat.mul_pos hD p1)]
 refine Nat.lt_of_mul_lt_mul_right (a:=tenDn top) ?_
 have h1:=Nat.mul_lt_mul_of_pos_right h p2
 have e1:N * tenDn (top - (n:Int)) * tenDn top=N * tenDn top * tenDn (top - (n:Int)):=Nat.mul_right_comm _ _ _
 have e2:10 ^ n * (D * tenUp (top - (n:Int))) * tenDn top=D * (10 ^ n * tenUp (top - (n:Int)) * tenDn top):=by
  rw [Nat.mul_left_comm,Nat.mul_assoc D]
 rw [e1,e2,<-hs,<-Nat.mul_assoc]
 exact h1
end Go.Proofs.YtldhmfkojaekfaaGreatDoor
