/-
  Lemmas for the statement: plain laws, and what functions answer; the conditions stand in each.
-/
import Derived.Laws.Bits64b
import Derived.Test.YtldhmfkojaekfaaGreatDoorMeanTwiceAllPartE
set_option linter.unusedVariables false
set_option linter.unusedSimpArgs false
namespace Go.Proofs.YtldhmfkojaekfaaGreatDoor
open Go.RowKit Gx
set_option maxRecDepth 100000
theorem bval_set:∀ (l:List Int) (j:Nat) (v:Int),j<l.length->bval (l.set j v)+4294967296 ^ j * (l.getD j 0).toNat=bval l+4294967296 ^ j * v.toNat
 | [],j,v,h=>by simp at h
 | x::l,0,v,_=>by simp [bval];omega
 | x::l,j+1,v,h=>by
   have ih:=bval_set l j v (by simpa using h)
   simp only [List.set_cons_succ,bval,Nat.pow_succ]
   have e1:(x::l).getD (j+1) 0=l.getD j 0:=by simp [List.getD]
   rw [e1]
   have h1:4294967296 ^ j * 4294967296 * (l.getD j 0).toNat=4294967296 * (4294967296 ^ j * (l.getD j 0).toNat):=by
    rw [Nat.mul_comm (4294967296 ^ j) 4294967296,Nat.mul_assoc]
   have h2:4294967296 ^ j * 4294967296 * v.toNat=4294967296 * (4294967296 ^ j * v.toNat):=by
    rw [Nat.mul_comm (4294967296 ^ j) 4294967296,Nat.mul_assoc]
   rw [h1,h2]
   omega
theorem words_set {l:List Int} (h:Words l) (j:Nat) (v:Int) (h0:0<=v) (h1:v<=4294967295):Words (l.set j v):=by
 intro x hx
 rcases List.mem_or_eq_of_mem_set hx with hx|rfl
 ·exact h x hx
 ·omega
theorem getD_set_ne (l:List Int) (i j:Nat) (v:Int) (h:i≠j):(l.set i v).getD j 0=l.getD j 0:=by
 simp [List.getD,List.getElem?_set,h]
theorem bval_replicate (n:Nat):bval (List.replicate n 0)=0:=bval_zeros _ (fun x hx=>(List.mem_replicate.1 hx).2)
theorem madeCells_one (k:IntKind) (n:Nat):(madeCells #[Value.int k 0] n).toList=(List.replicate n (0:Int)).map (Value.int k):=by
 apply List.ext_getElem
 ·simp [madeCells]
 ·intro i h1 h2
  simp [madeCells,Nat.mod_one]
theorem mul_bound {x y:Int} (hx:0<=x) (hx':x<=4294967295) (hy:0<=y) (hy':y<=4294967295):0<=x * y/\x * y<=18446744065119617025:=by
 refine ⟨Int.mul_nonneg hx hy,?_⟩
 have h1:x * y<=4294967295 * y:=Int.mul_le_mul_of_nonneg_right hx' hy
 have h2:4294967295 * y<=4294967295 * 4294967295:=Int.mul_le_mul_of_nonneg_left hy' (by decide)
 omega
theorem mul_step (out:List Int) (p q i k:Nat) (x y c o:Int) (hx:0<=x) (hy:0<=y) (hc:0<=c) (ho:0<=o) (hi:i+k<out.length) (eo:o=out.getD (i+k) 0) (ys:List Int) (ey:y=ys.getD k 0)
 (h:bval out+4294967296 ^ (i+k) * c.toNat=p+4294967296 ^ i * (x.toNat * bval (ys.take k))) (hq:q=4294967296 ^ (i+k)) :
 bval (out.set (i+k) ((c+(x * y+o)) % 4294967296))+4294967296 ^ (i+(k+1)) * ((c+(x * y+o)) / 4294967296).toNat=p+4294967296 ^ i * (x.toNat * bval (ys.take (k+1))):=by
 have hs:=bval_set out (i+k) ((c+(x * y+o)) % 4294967296) hi
 rw [<-eo,<-hq] at hs
 rw [<-hq] at h
 rw [bval_take_succ,<-ey]
 have e1:4294967296 ^ (i+(k+1))=q * 4294967296:=by rw [hq,<-Nat.add_assoc,Nat.pow_succ]
 have e2:4294967296 ^ i * (x.toNat * (bval (ys.take k)+4294967296 ^ k * y.toNat))=4294967296 ^ i * (x.toNat * bval (ys.take k))+q * (x.toNat * y.toNat):=by
  rw [hq,Nat.mul_add,Nat.mul_add,Nat.pow_add]
  congr 1
  rw [Nat.mul_assoc]
  congr 1
  rw [<-Nat.mul_assoc,Nat.mul_comm x.toNat,Nat.mul_assoc]
 rw [e1,e2]
 have hp:0<=x * y:=Int.mul_nonneg hx hy
 have exy:(x * y).toNat=x.toNat * y.toNat:=by
  obtain ⟨a,rfl⟩:=Int.eq_ofNat_of_zero_le hx
  obtain ⟨b,rfl⟩:=Int.eq_ofNat_of_zero_le hy
  simp only [Int.toNat_natCast]
  rw [<-Int.natCast_mul,Int.toNat_natCast]
 rw [<-exy]
 generalize x * y=z at *
 have e3:((c+(z+o)) % 4294967296).toNat+4294967296 * ((c+(z+o)) / 4294967296).toNat=c.toNat+z.toNat+o.toNat:=by omega
 have e4:q * ((c+(z+o)) % 4294967296).toNat+q * 4294967296 * ((c+(z+o)) / 4294967296).toNat=q * c.toNat+q * z.toNat+q * o.toNat:=by
  rw [Nat.mul_assoc,<-Nat.mul_add,e3,Nat.mul_add,Nat.mul_add]
 omega
set_option maxHeartbeats 1000000 in
theorem bigMul_any (ad bd:Option Addr) (ca cb:Nat) (xs ys:List Int) (w:World) (h:Rd .u32 w ad ca xs) (g:Rd .u32 w bd cb ys) (hl:xs.length<=1048576) (hl2:ys.length<=1048576) :
 Calls Tryz.prog 161 #[.slice ad xs.length ca,.slice bd ys.length cb] w (WordsPost (bval xs * bval ys) w):=by
 have hwx:=words_of_rd h
 have hwy:=words_of_rd g
 have H:=Lib.hid h
 have G:=Lib.hid g
 have HWX:=Lib.hid hwx
 have HWY:=Lib.hid hwy
 clear h g hwx hwy
 go_enter Tryz.func161,Tryz.ntmps161
 obtain ⟨i0,hi,hz0,hz1,hz2⟩:=info_parts Tryz.info_u32
 have HI:=Lib.hid hi
 have HZ0:=Lib.hid hz0
 have HZ1:=Lib.hid hz1
 clear hi hz0 hz1
 go_wp2_with (first
  | (at_make;refine wpList_make_full _ rfl _ _ 169 rfl w.heap.size 145 i0 (.int .u32 0) 1 Tryz.underlying169 HI.out HZ0.out HZ1.out .i64 .i64 _ _ (xs.length+ys.length) rfl rfl (by omega) (by omega) (by rw [hz2];omega) (by unfold maxLen;omega) (Nat.le_refl _) ?_))
 intro w1 hown hg
 have hb:Below w.heap.size w w1:=Gx.grown_below hg (Nat.le_refl _) (by simp)
 rw [madeCells_one] at hown
 clear hg hz2 HI HZ0 HZ1
 obtain ⟨n,hn⟩:∃ n,n=xs.length+ys.length:=⟨_,rfl⟩
 obtain ⟨gb,hgb⟩:∃ gb,gb=w.heap.size:=⟨_,rfl⟩
 rw [<-hn] at hown ⊢
 rw [show Value.slice (some ⟨w.heap.size,0,none⟩) n n=Value.slice (some ⟨gb,0,none⟩) n n from by rw [hgb]] at hown ⊢
 have HN:=Lib.hid hn;clear hn
 have HGB:=Lib.hid hgb;clear hgb
 have hnb:n<=2097152:=by have:=HN.out;omega
 go_wp2
 go_loopw [19] (fun i wr=>∃ (k:Nat) (out:List Int),k<=xs.length/\i=.int .i64 k /\
  wr.ownsRow w.heap.size 145 1 (.slice (some ⟨gb,0,none⟩) n n) n (out.map (Value.int .u32))/\Hid (out.length=n)/\Words out/\Hid (bval out=bval (xs.take k) * bval ys) /\
  Hid (∀ j,k+ys.length<=j->out.getD j 0=0)/\Below w.heap.size w wr)
  (fun i _=>xs.length - (intOf i).toNat)
 case atStart =>
  refine ⟨0,List.replicate n 0,Nat.zero_le _,rfl,hown,by simp [Hid],fun x hx=>?_,?_,fun j _=>?_,hb⟩
  ·have:=(List.mem_replicate.1 hx).2;omega
  ·show _=_
   rw [bval_replicate];simp [bval]
  ·simp [List.getD,List.getElem?_replicate]
   split<;>rfl
 case round =>
  obtain ⟨i,out,hk,rfl,hown1,hol,how,hval,hzer,hb1⟩:=hrel
  have HOW:=Lib.hid how
  clear how hown hb
  by_cases hkx:i<xs.length
  ·obtain ⟨b1,o1,rfl,-,hcx⟩:=(H.out.keep hb1).addr (by omega)
   have hx:=hcx i hkx
   clear hcx
   have bx:=words_getD HWX.out i
   obtain ⟨x,ex⟩:∃ x,x=xs.getD i 0:=⟨_,rfl⟩
   rw [<-ex] at hx bx
   have EX:=Lib.hid ex;clear ex
   obtain ⟨bx0,bx1⟩:=bx
   go_wp2
   obtain ⟨wo,rfl⟩:∃ wo:World,wo=wr:=⟨_,rfl⟩
   clear hx
   go_loopw [8,26] (fun c j wr=>∃ (k:Nat) (cr:Int) (out2:List Int),k<=ys.length/\j=.int .i64 k/\c=.int .u64 cr/\0<=cr/\cr<=4294967295 /\
    wr.ownsRow w.heap.size 145 1 (.slice (some ⟨gb,0,none⟩) n n) n (out2.map (Value.int .u32))/\Hid (out2.length=n)/\Words out2 /\
    Hid (bval out2+4294967296 ^ (i+k) * cr.toNat=bval out+4294967296 ^ i * (x.toNat * bval (ys.take k)))/\Hid (∀ j,i+ys.length<=j->out2.getD j 0=0)/\Below w.heap.size w wr)
    (fun _ j _=>ys.length - (intOf j).toNat)
   case atStart=>exact ⟨0,0,out,Nat.zero_le _,rfl,rfl,by omega,by omega,hown1,hol,HOW.out,by simp [Hid,bval],hzer.out,hb1⟩
   case round =>
    clear hown1 hb1 hol HOW
    obtain ⟨k,cr,out2,hk2,rfl,rfl,hc0,hc1,hown2,hol2,how2,hval2,hzer2,hb2⟩:=hrel
    have hol2':out2.length=n:=hol2.out
    have HOW2:=Lib.hid how2
    clear how2
    have hlen:i+ys.length<n+1:=by have:=HN.out;omega
    by_cases hky:k<ys.length
    ·obtain ⟨b2,o2,rfl,-,hcy⟩:=(G.out.keep hb2).addr (by omega)
     have hy:=hcy k hky
     clear hcy
     have by_:=words_getD HWY.out k
     obtain ⟨y,ey⟩:∃ y,y=ys.getD k 0:=⟨_,rfl⟩
     rw [<-ey] at hy by_
     have EY:=Lib.hid ey;clear ey
     obtain ⟨by0,by1⟩:=by_
     have hin:i+k<n:=by have:=HN.out;omega
     have bo:=words_getD HOW2.out (i+k)
     have hcell:wr.cell? ⟨gb,i+k,none⟩=some (.int .u32 (out2.getD (i+k) 0)):=by
      rw [hown2.cellAt (i+k) (by omega)]
      simp [List.getD,List.getElem?_eq_getElem (show i+k<out2.length by omega)]
     have hfz:wr.frozen? ⟨gb,i+k,none⟩=false:=hown2.frozenAt (i+k)
     obtain ⟨o,eo⟩:∃ o,o=out2.getD (i+k) 0:=⟨_,rfl⟩
     rw [<-eo] at hcell bo
     have EO:=Lib.hid eo;clear eo
     obtain ⟨bo0,bo1⟩:=bo
     obtain ⟨mb0,mb1⟩:=mul_bound bx0 bx1 by0 by1
     have HT:=Lib.hid (mul_step out2 (bval out) _ i k x y cr o bx0 by0 hc0 bo0 (by omega) EO.out ys EY.out hval2.out rfl)
     clear hol2'
     obtain ⟨m,hm⟩:∃ m,m=x * y:=⟨_,rfl⟩
     have hmul:x * y=m:=hm.symm
     rw [<-hm] at mb0 mb1
     clear hm
     have hb3:=hb2.size
     have hgb:w.heap.size<=gb:=by rw [HGB.out];exact Nat.le_refl _
     have hst:=hown2.stored (i+k) (.int .u32 ((cr+(m+o)) % 4294967296))
     have hbn:Below w.heap.size w (wr.setCell ⟨gb,i+k,none⟩ (.int .u32 ((cr+(m+o)) % 4294967296))):=hb2.grown hst.2 hb3 (fun q e=>by cases e;exact hgb)
     have hon:(wr.setCell ⟨gb,i+k,none⟩ (.int .u32 ((cr+(m+o)) % 4294967296))).ownsRow w.heap.size 145 1 (.slice (some ⟨gb,0,none⟩) n n) n ((out2.set (i+k) ((cr+(m+o)) % 4294967296)).map (Value.int .u32)):=by
      rw [List.map_set];exact hst.1
     have HON:=Lib.hid hon
     have HBN:=Lib.hid hbn
     have hw3:=Lib.hid (words_set HOW2.out (i+k) ((cr+(m+o)) % 4294967296) (by omega) (by omega))
     have hl3:Hid ((out2.set (i+k) ((cr+(m+o)) % 4294967296)).length=n):=by show _=_;rw [List.length_set];exact hol2.out
     have hz3:Hid (∀ j,i+ys.length<=j->(out2.set (i+k) ((cr+(m+o)) % 4294967296)).getD j 0=0):=by
      intro j hj
      have:=hzer2.out j hj
      rw [getD_set_ne _ _ _ _ (by omega)];exact this
     rw [hmul] at HT
     clear hst hbn hon hown2
     go_wp2
     go_roundw
     case rel=>exact ⟨k+1,(cr+(m+o)) / 4294967296,out2.set (i+k) ((cr+(m+o)) % 4294967296),by omega,by go_num,rfl,by omega,by omega,HON.out,hl3,hw3.out,HT,hz3,HBN.out⟩
     case measure=>simp [intOf];omega
    ·obtain rfl:k=ys.length:=by omega
     have hin:i+ys.length<n:=by have:=HN.out;omega
     have hcell:wr.cell? ⟨gb,i+ys.length,none⟩=some (.int .u32 0):=by
      rw [hown2.cellAt (i+ys.length) (by omega)]
      have:=hzer2.out (i+ys.length) (Nat.le_refl _)
      simp [List.getD,List.getElem?_eq_getElem (show i+ys.length<out2.length by omega)] at this
      simp [List.getElem?_eq_getElem (show i+ys.length<out2.length by omega),this]
     have hfz:wr.frozen? ⟨gb,i+ys.length,none⟩=false:=hown2.frozenAt (i+ys.length)
     have hb3:=hb2.size
     have hgb:w.heap.size<=gb:=by rw [HGB.out];exact Nat.le_refl _
     have hst:=hown2.stored (i+ys.length) (.int .u32 cr)
     have hbn:Below w.heap.size w (wr.setCell ⟨gb,i+ys.length,none⟩ (.int .u32 cr)):=hb2.grown hst.2 hb3 (fun q e=>by cases e;exact hgb)
     have hon:(wr.setCell ⟨gb,i+ys.length,none⟩ (.int .u32 cr)).ownsRow w.heap.size 145 1 (.slice (some ⟨gb,0,none⟩) n n) n ((out2.set (i+ys.length) cr).map (Value.int .u32)):=by
      rw [List.map_set];exact hst.1
     have HON:=Lib.hid hon
     have HBN:=Lib.hid hbn
     have hw3:=Lib.hid (words_set HOW2.out (i+ys.length) cr hc0 hc1)
     have hl3:Hid ((out2.set (i+ys.length) cr).length=n):=by show _=_;rw [List.length_set];exact hol2.out
     have hz3:Hid (∀ j,i+1+ys.length<=j->(out2.set (i+ys.length) cr).getD j 0=0):=by
      intro j hj
      have:=hzer2.out j (by omega)
      rw [getD_set_ne _ _ _ _ (by omega)];exact this
     have hv3:Hid (bval (out2.set (i+ys.length) cr)=bval (xs.take (i+1)) * bval ys):=by
      show _=_
      have h1:=bval_set out2 (i+ys.length) cr (by omega)
      rw [hzer2.out (i+ys.length) (Nat.le_refl _)] at h1
      have h2:=hval2.out
      rw [List.take_of_length_le (Nat.le_refl _),hval.out] at h2
      rw [bval_take_succ,<-EX.out,Nat.add_mul]
      simp only [Int.toNat_zero,Nat.mul_zero,Nat.add_zero] at h1
      rw [h1,h2,Nat.mul_assoc]
     clear hst hbn hon hown2 hol2'
     go_wp2
     go_roundw
     case rel=>exact ⟨i+1,out2.set (i+ys.length) cr,by omega,by go_num,HON.out,hl3,hw3.out,hv3,hz3,HBN.out⟩
     case measure=>simp [intOf];omega
  ·obtain rfl:i=xs.length:=by omega
   have hown3:=hown1
   obtain ⟨ad',cap',he,hr⟩:=Gx.Rd.own (k:=.u32) (xs:=out) hown3 (wf_words HOW.out)
   have hln:=hol.out
   obtain ⟨rfl,-,rfl⟩:some ⟨gb,0,none⟩=ad'/\n=out.length/\n=cap':=by simpa using he
   have HR:=Lib.hid hr
   clear hr hown1 hown3 he
   have hfin:bval out=bval xs * bval ys:=by
    rw [hval.out,List.take_of_length_le (Nat.le_refl _)]
   have HF:=Lib.hid hfin;clear hfin
   clear HN hol
   subst hln
   go_wp2_with (first
    | (go_at_call 157;refine (trimmed_any (some ⟨gb,0,none⟩) out.length out _ HR.out (by omega)).mono ?_;rintro e w' ⟨rfl,rfl⟩))
   go_ret
   refine ⟨some ⟨gb,0,none⟩,out.length,?_,?_,hb1⟩
   ·rw [<-HF.out];rfl
   ·rw [<-HF.out];exact HR.out.trim
set_option maxRecDepth 100000
theorem lenAux_bounds:∀ (f x:Nat),x<2 ^ f->x≠0->1<=Lib.bitLenAux f x/\2 ^ (Lib.bitLenAux f x - 1)<=x/\x<2 ^ Lib.bitLenAux f x
 | 0,x,h,h0=>by simp at h;omega
 | f+1,x,h,h0=>by
   rw [Lib.bitLenAux,if_neg h0]
   by_cases h2:x / 2=0
   ·have hz:Lib.bitLenAux f 0=0:=by cases f<;>simp [Lib.bitLenAux]
    rw [h2,hz]
    have:x=1:=by omega
    subst this
    simp
   ·obtain ⟨a,b,c⟩:=lenAux_bounds f (x / 2) (by rw [Nat.pow_succ] at h;omega) h2
    generalize Lib.bitLenAux f (x / 2)=L at a b c ⊢
    obtain ⟨k,rfl⟩:∃ k,L=k+1:=⟨L - 1,by omega⟩
    simp only [Nat.add_sub_cancel] at b
    refine ⟨by omega,?_,?_⟩
    ·rw [show 1+(k+1) - 1=k+1 by omega,Nat.pow_succ];omega
    ·rw [show 1+(k+1)=k+1+1 by omega,Nat.pow_succ];omega
def blen (n:Nat):Nat:=if n=0 then 0 else Nat.log2 n+1
theorem blen_of (n L:Nat) (h1:1<=L) (h2:2 ^ (L - 1)<=n) (h3:n<2 ^ L):blen n=L:=by
 have h0:n≠0:=by have:=Nat.two_pow_pos (L - 1);omega
 unfold blen
 rw [if_neg h0]
 have a:=(Nat.le_log2 h0).2 h2
 have b:=(Nat.log2_lt h0).2 h3
 omega
theorem blen_bounds (n:Nat) (h0:n≠0):1<=blen n/\2 ^ (blen n - 1)<=n/\n<2 ^ blen n:=by
 unfold blen
 rw [if_neg h0]
 exact ⟨by omega,(Nat.le_log2 h0).1 (by omega),(Nat.log2_lt h0).1 (by omega)⟩
theorem blen_zero (n:Nat):blen n=0↔n=0:=by
 unfold blen
 by_cases h:n=0
 ·simp [h]
 ·simp [h]
theorem pow32 (m:Nat):4294967296 ^ m=2 ^ (32 * m):=by rw [Nat.pow_mul]
theorem blen_last (v:Nat) (h0:v≠0):0<(canon v).length/\∃ x:Nat,(x:Int)=(canon v).getD ((canon v).length - 1) 0/\x<4294967296/\blen v=32 * ((canon v).length - 1)+Lib.bitLen x:=by
 have hp:0<(canon v).length:=by rw [canon_pos v h0];simp
 have hw:=canon_words v
 have hb:=bval_canon v
 have hg:=canon_len_gt v h0
 obtain ⟨l,hl⟩:∃ l,l=canon v:=⟨_,rfl⟩
 rw [<-hl] at hp hw hb hg ⊢
 refine ⟨hp,?_⟩
 obtain ⟨b0,b1⟩:=words_getD hw (l.length - 1)
 have hs:=bval_take_succ l (l.length - 1)
 rw [show l.length - 1+1=l.length by omega,List.take_of_length_le (Nat.le_refl _),hb] at hs
 have hlt:=bval_lt (l.take (l.length - 1)) (fun x hx=>hw x (List.mem_of_mem_take hx))
 rw [List.length_take,Nat.min_eq_left (by omega)] at hlt
 obtain ⟨x,ex⟩:∃ x:Nat,(x:Int)=l.getD (l.length - 1) 0:=⟨(l.getD (l.length - 1) 0).toNat,by omega⟩
 rw [<-ex] at hs b1
 rw [Int.toNat_natCast] at hs
 refine ⟨x,ex,by omega,?_⟩
 have hx0:x≠0:=by
  rintro rfl
  rw [Nat.mul_zero,Nat.add_zero] at hs
  omega
 obtain ⟨c1,c2,c3⟩:=lenAux_bounds 64 x (Nat.lt_of_lt_of_le (show x<4294967296 by omega) (by decide)) hx0
 have e:Lib.bitLenAux 64 x=Lib.bitLen x:=rfl
 rw [e] at c1 c2 c3
 generalize Lib.bitLen x=L at *
 rw [pow32] at hs hlt
 generalize l.length - 1=m at *
 refine blen_of _ _ (by omega) ?_ ?_
 ·rw [show 32 * m+L - 1=32 * m+(L - 1) by omega,Nat.pow_add,hs]
  exact Nat.le_trans (Nat.mul_le_mul_left _ c2) (Nat.le_add_left _ _)
 ·rw [Nat.pow_add,hs]
  have h4:2 ^ (32 * m) * (x+1)<=2 ^ (32 * m) * 2 ^ L:=Nat.mul_le_mul_left _ c3
  rw [Nat.mul_add,Nat.mul_one] at h4
  omega
theorem bitLen_le32 (x:Nat) (h:x<4294967296):Lib.bitLen x<=32:=by
 by_cases h0:x=0
 ·subst h0;decide
 obtain ⟨c1,c2,c3⟩:=lenAux_bounds 64 x (Nat.lt_of_lt_of_le h (by decide)) h0
 have e:Lib.bitLenAux 64 x=Lib.bitLen x:=rfl
 rw [e] at c1 c2 c3
 have h5:2 ^ (Lib.bitLen x - 1)<2 ^ 32:=Nat.lt_of_le_of_lt c2 (by simpa using h)
 have:=(Nat.pow_lt_pow_iff_right (by decide)).1 h5
 omega
def LenPost (n:Nat) (w:World) (e:Ending) (w':World):Prop:=e=.returned (.int .i64 (blen n:Nat))/\w=w'
set_option maxHeartbeats 400000 in
theorem bigLen_any (ad:Option Addr) (ca:Nat) (xs:List Int) (w:World) (h:Rd .u32 w ad ca xs) (hl:xs.length<=1048576) :
 Calls Tryz.prog 147 #[.slice ad xs.length ca] w (LenPost (bval xs) w):=by
 have hlen:(canon (bval xs)).length<=1048576:=by
  obtain ⟨m,hm,e⟩:=canon_take xs (words_of_rd h)
  rw [e];simp;omega
 have H:=Lib.hid h
 have HT:=Lib.hid h.trim
 clear h
 by_cases h0:bval xs=0
 ·go_enter Tryz.func147,Tryz.ntmps147
  go_wp2_with fail
  refine (trimmed_any ad ca xs w H.out (by omega)).mono ?_
  rintro e w' ⟨rfl,rfl⟩
  have hz:(canon (bval xs)).length=0:=by rw [h0];rfl
  rw [hz]
  go_wp2
  go_ret
  exact ⟨by rw [h0];rfl,rfl⟩
 ·obtain ⟨hp,x,ex,hx,hbl⟩:=blen_last _ h0
  obtain ⟨b,o,hab,-,hc⟩:=HT.out.addr hp
  have hc1:=hc ((canon (bval xs)).length - 1) (by omega)
  rw [<-ex] at hc1
  have h32:=bitLen_le32 x hx
  have HB:=Lib.hid hbl
  have hne:((canon (bval xs)).length==0)=false:=by simp;intro e;rw [e] at hp;simp at hp
  have hne2:(((canon (bval xs)).length:Int)==0)=false:=by simp;intro e;rw [e] at hp;simp at hp
  clear hc ex hbl HT
  subst hab
  go_enter Tryz.func147,Tryz.ntmps147
  go_wp2_with fail
  refine (trimmed_any _ ca xs w H.out (by omega)).mono ?_
  rintro e w' ⟨rfl,rfl⟩
  obtain ⟨L,hL⟩:∃ L,L=(canon (bval xs)).length:=⟨_,rfl⟩
  rw [<-hL] at hc1 hne hne2 hp hlen HB ⊢
  clear hL
  have i1:(0:Int)<=(L:Int) - 1:=by omega
  have i2:(L:Int) - 1<(L:Int):=by omega
  have i3:((L:Int) - 1).toNat=L - 1:=by omega
  go_wp2_with fail
  refine (Tryz.bits_Len32 (x:Int) w (by omega) (by omega)).mono ?_
  rintro e w' ⟨rfl,rfl⟩
  go_wp2
  go_ret
  refine ⟨?_,rfl⟩
  show Ending.returned (Value.int .i64 _)=_
  rw [HB.out]
  congr 2
  omega
end Go.Proofs.YtldhmfkojaekfaaGreatDoor
namespace Go.Proofs.YtldhmfkojaekfaaGreatDoor
theorem near_firstK (K:Nat) {num den E:Nat} (hn:num≠0) (hd:den≠0) (h1:blen num+K<=E+blen den+54) (h2:E=0\/blen num+K=E+blen den+54) :
 num * 2 ^ K<2 ^ 55 * (den * 2 ^ E)/\(E=0\/2 ^ 53 * (den * 2 ^ E)<num * 2 ^ K):=by
 obtain ⟨n1,n2,n3⟩:=blen_bounds num hn
 obtain ⟨d1,d2,d3⟩:=blen_bounds den hd
 generalize blen num=ln at *
 generalize blen den=ld at *
 constructor
 ·have a1:num * 2 ^ K<2 ^ ln * 2 ^ K:=Nat.mul_lt_mul_of_pos_right n3 (Nat.pow_pos (by decide))
  have a2:2 ^ ln * 2 ^ K<=2 ^ 55 * (2 ^ (ld - 1) * 2 ^ E):=by
   rw [<-Nat.pow_add,<-Nat.pow_add,<-Nat.pow_add]
   exact Nat.pow_le_pow_right (by decide) (by omega)
  have a3:2 ^ 55 * (2 ^ (ld - 1) * 2 ^ E)<=2 ^ 55 * (den * 2 ^ E):=Nat.mul_le_mul_left _ (Nat.mul_le_mul_right _ d2)
  exact Nat.lt_of_lt_of_le a1 (Nat.le_trans a2 a3)
 ·rcases h2 with h2|h2
  ·exact .inl h2
  ·right
   have a1:2 ^ 53 * (den * 2 ^ E)<2 ^ 53 * (2 ^ ld * 2 ^ E):=Nat.mul_lt_mul_of_pos_left (Nat.mul_lt_mul_of_pos_right d3 (Nat.two_pow_pos _)) (Nat.two_pow_pos _)
   have a2:2 ^ 53 * (2 ^ ld * 2 ^ E)=2 ^ (ln - 1) * 2 ^ K:=by
    rw [<-Nat.pow_add,<-Nat.pow_add,<-Nat.pow_add]
    congr 1
    omega
   rw [a2] at a1
   exact Nat.lt_of_lt_of_le a1 (Nat.mul_le_mul_right _ n2)
theorem near_first {num den E:Nat} (hn:num≠0) (hd:den≠0) (h1:blen num+1021<=E+blen den) (h2:E=0\/blen num+1021=E+blen den) :
 num * 2 ^ 1075<2 ^ 55 * (den * 2 ^ E)/\(E=0\/2 ^ 53 * (den * 2 ^ E)<num * 2 ^ 1075) :=
 near_firstK 1075 hn hd (by omega) (by omega)
structure Step (Y T n:Nat):Prop where
 lo:n=0\/(2 * n - 1) * T<Y\/((2 * n - 1) * T=Y/\n % 2=0)
 hi:Y<(2 * n+1) * T\/(Y=(2 * n+1) * T/\n % 2=0)
theorem Step.up {Y T n:Nat} (h:Step Y T n):Y<=(2 * n+1) * T:=by rcases h.hi with h|h;omega;omega
theorem Step.dn {Y T n:Nat} (h:Step Y T n):(2 * n - 1) * T<=Y:=by
 rcases h.lo with h|h|h
 ·subst h;simp
 ·omega
 ·omega
theorem Step.top {Y T n K:Nat} (h:Step Y T n) (hT:0<T) (ha:Y<2 * K * T):n<=K:=by
 apply Classical.byContradiction
 intro hc
 have h1:2 * K * T<=(2 * n - 1) * T:=Nat.mul_le_mul_right _ (by omega)
 have:=h.dn
 omega
theorem Step.bot {Y T n K:Nat} (h:Step Y T n) (hT:0<T) (ha:2 * K * T<Y):K<=n:=by
 apply Classical.byContradiction
 intro hc
 have h1:(2 * n+1) * T<=2 * K * T:=Nat.mul_le_mul_right _ (by omega)
 have:=h.up
 omega
variable {Y D E n m:Nat}
theorem near_hiE (hD:0<D) (hE:2046<=E) (hb:2 * 4503599627370496 * (D * 2 ^ E)<Y):Rnd Y D 9218868437227405312:=by
 refine ⟨Nat.le_refl _,.inr (.inl ?_),.inl rfl⟩
 obtain ⟨E0,hE0⟩:∃ E0:Nat,E0=2046:=⟨_,rfl⟩
 have hv:fval 9218868437227405312=4503599627370496 * 2 ^ E0:=by
  have:=fval_of 4503599627370496 E0 (by omega) (.inr (by omega))
  rw [show E0 * 4503599627370496+4503599627370496=9218868437227405312 by omega] at this
  exact this
 have hm:fmid (9218868437227405312 - 1)<2 * fval 9218868437227405312:=by
  have h1:fmid (9218868437227405312 - 1)=fval (9218868437227405312 - 1)+fval (9218868437227405312 - 1+1):=rfl
  have h2:fval (9218868437227405312 - 1)<fval 9218868437227405312:=fval_lt (by omega)
  rw [h1,show 9218868437227405312 - 1+1=9218868437227405312 by omega]
  omega
 have h3:D * fmid (9218868437227405312 - 1)<D * (2 * fval 9218868437227405312):=Nat.mul_lt_mul_of_pos_left hm hD
 have h4:D * (2 * fval 9218868437227405312)<=2 * 4503599627370496 * (D * 2 ^ E):=by
  rw [hv,Nat.mul_left_comm D,Nat.mul_left_comm D,<-Nat.mul_assoc]
  exact Nat.mul_le_mul_left _ (Nat.mul_le_mul_left _ (Nat.pow_le_pow_right (by decide) (by omega)))
 omega
theorem near_one (hD:0<D) (hs:Step Y (D * 2 ^ E) n) (hn:n<9007199254740992) (hb:E=0\/2 * 4503599627370496 * (D * 2 ^ E)<Y) (hE:E<=2048) :
 (E=0\/4503599627370496<=n)/\Rnd Y D (if 9218868437227405312<=E * 4503599627370496+n then 9218868437227405312 else E * 4503599627370496+n):=by
 have hT:0<D * 2 ^ E:=Nat.mul_pos hD (Nat.two_pow_pos _)
 have h1:E=0\/4503599627370496<=n:=hb.imp id (fun h=>hs.bot hT h)
 refine ⟨h1,near_law hD hn h1 hE hs.lo hs.hi (hb.imp id (fun h=>?_))⟩
 generalize D * 2 ^ E=T at *
 omega
theorem near_two (hD:0<D) (hs:Step Y (D * 2 ^ E) n) (hn:9007199254740992<=n) (ha:Y<36028797018963968 * (D * 2 ^ E)) (hs2:Step Y (D * 2 ^ (E+1)) m) (hE:E<=2046) :
 4503599627370496<=m/\m<=9007199254740992/\(m<9007199254740992->Rnd Y D (if 9218868437227405312<=(E+1) * 4503599627370496+m then 9218868437227405312 else (E+1) * 4503599627370496+m)) /\
  (m=9007199254740992->Rnd Y D (if 9218868437227405312<=(E+2) * 4503599627370496+4503599627370496 then 9218868437227405312 else (E+2) * 4503599627370496+4503599627370496)):=by
 have hT:0<D * 2 ^ E:=Nat.mul_pos hD (Nat.two_pow_pos _)
 have e1:D * 2 ^ (E+1)=2 * (D * 2 ^ E):=by rw [Nat.pow_succ,<-Nat.mul_assoc,Nat.mul_comm]
 have e2:D * 2 ^ (E+2)=4 * (D * 2 ^ E):=by rw [Nat.pow_succ,Nat.pow_succ,Nat.mul_assoc (2 ^ E) 2 2,<-Nat.mul_assoc,Nat.mul_comm]
 have hd:=hs.dn
 have hq:18014398509481983 * (D * 2 ^ E)<=Y:=Nat.le_trans (Nat.mul_le_mul_right _ (by omega)) hd
 have hT2:0<D * 2 ^ (E+1):=Nat.mul_pos hD (Nat.two_pow_pos _)
 have hm1:4503599627370496<=m:=by
  apply Classical.byContradiction
  intro hc
  have h1:(2 * m+1) * (D * 2 ^ (E+1))<=9007199254740991 * (D * 2 ^ (E+1)):=Nat.mul_le_mul_right _ (by omega)
  have h2:=hs2.up
  rw [e1] at h1 h2
  generalize D * 2 ^ E=T at *
  omega
 have hm2:m<=9007199254740992:=by
  refine hs2.top hT2 ?_
  rw [e1]
  generalize D * 2 ^ E=T at *
  omega
 refine ⟨hm1,hm2,fun h=>?_,fun h=>?_⟩
 ·refine near_law hD h (.inr hm1) (by omega) hs2.lo hs2.hi (.inr ?_)
  rw [e1]
  generalize D * 2 ^ E=T at *
  omega
 ·refine near_law hD (by omega) (.inr (Nat.le_refl _)) (by omega) (.inr (.inl ?_)) (.inl ?_) (.inr ?_)
  ·have h2:=hs2.dn
   rw [h,e1] at h2
   rw [e2]
   generalize D * 2 ^ E=T at *
   omega
  ·rw [e2]
   generalize D * 2 ^ E=T at *
   omega
  ·have h2:=hs2.dn
   rw [h,e1] at h2
   rw [e2]
   generalize D * 2 ^ E=T at *
   omega
end Go.Proofs.YtldhmfkojaekfaaGreatDoor
namespace Go.Proofs.YtldhmfkojaekfaaGreatDoor
open Go.RowKit Gx
set_option maxRecDepth 100000
def cmpOf (a b:Nat):Int:=if a<b then -1 else if b<a then 1 else 0
theorem cmp_lt {a b:Nat} (h:a<b):cmpOf a b=-1:=if_pos h
theorem cmp_gt {a b:Nat} (h:b<a):cmpOf a b=1:=by unfold cmpOf;rw [if_neg (by omega),if_pos h]
theorem cmp_eq {a b:Nat} (h:a=b):cmpOf a b=0:=by unfold cmpOf;rw [if_neg (by omega),if_neg (by omega)]
theorem canon_lt {a b:Nat} (h:(canon a).length<(canon b).length):a<b:=by
 rcases Nat.lt_or_ge a b with h1|h1
 ·exact h1
 ·exfalso
  have hb:b≠0:=by intro h0;subst h0;simp [canon_zero] at h
  have h2:=canon_len_gt b hb
  have h3:=bval_lt (canon a) (canon_words a)
  rw [bval_canon] at h3
  have h4:4294967296 ^ (canon a).length<=4294967296 ^ ((canon b).length - 1):=Nat.pow_le_pow_right (by decide) (by omega)
  omega
theorem bval_part (A B:List Int) (hA:Words A) (hB:Words B) (hl:A.length=B.length) (m:Nat) (hm:m<A.length) (he:∀ j,m<j->j<A.length->A.getD j 0=B.getD j 0) (hlt:A.getD m 0<B.getD m 0) :
 bval A<bval B:=by
 have hd:A.drop (m+1)=B.drop (m+1):=by
  apply List.ext_getElem
  ·simp [hl]
  ·intro i h1 h2
   simp at h1 h2
   have:=he (m+1+i) (by omega) (by omega)
   simpa [List.getD,List.getElem?_eq_getElem (show m+1+i<A.length by omega),List.getElem?_eq_getElem (show m+1+i<B.length by omega)] using this
 have ha:bval A=bval (A.take (m+1))+4294967296 ^ (m+1) * bval (A.drop (m+1)):=by
  conv=>lhs;rw [<-List.take_append_drop (m+1) A]
  rw [bval_append];simp [Nat.min_eq_left (show m+1<=A.length by omega)]
 have hb:bval B=bval (B.take (m+1))+4294967296 ^ (m+1) * bval (B.drop (m+1)):=by
  conv=>lhs;rw [<-List.take_append_drop (m+1) B]
  rw [bval_append];simp [Nat.min_eq_left (show m+1<=B.length by omega)]
 rw [ha,hb,hd,bval_take_succ,bval_take_succ]
 have h1:=bval_lt (A.take m) (fun x hx=>hA x (List.mem_of_mem_take hx))
 simp only [List.length_take,Nat.min_eq_left (show m<=A.length by omega)] at h1
 have wa:=words_getD hA m
 have wb:=words_getD hB m
 have h2:(A.getD m 0).toNat+1<=(B.getD m 0).toNat:=by omega
 have h3:=Nat.mul_le_mul_left (4294967296 ^ m) h2
 rw [Nat.mul_add,Nat.mul_one] at h3
 omega
def CmpPostFl (a b:Nat) (w:World) (e:Ending) (w':World):Prop:=e=.returned (.int .i64 (cmpOf a b))/\Below w.heap.size w w'
set_option maxHeartbeats 1000000 in
theorem bigCmp_any (ad bd:Option Addr) (ca cb:Nat) (xs ys:List Int) (w:World) (h:Rd .u32 w ad ca xs) (g:Rd .u32 w bd cb ys) (hl:xs.length<=1073741824) (hl2:ys.length<=1073741824) :
 Calls Tryz.prog 164 #[.slice ad xs.length ca,.slice bd ys.length cb] w (CmpPostFl (bval xs) (bval ys) w):=by
 have HA:=Lib.hid (trimmed_any ad ca xs w h (by omega))
 have HB:=Lib.hid (trimmed_any bd cb ys w g (by omega))
 have TA:=h.trim
 have TB:=g.trim
 have wx:=words_of_rd h
 have wy:=words_of_rd g
 clear h g
 have eA:bval (canon (bval xs))=bval xs:=bval_canon _
 have eB:bval (canon (bval ys))=bval ys:=bval_canon _
 have WA:=canon_words (bval xs)
 have WB:=canon_words (bval ys)
 have lA:(canon (bval xs)).length<=1073741824:=by have:=canon_len_le (bval xs) xs.length (bval_lt _ wx);omega
 have lB:(canon (bval ys)).length<=1073741824:=by have:=canon_len_le (bval ys) ys.length (bval_lt _ wy);omega
 clear wx wy
 obtain ⟨a,ha⟩:∃ a,a=bval xs:=⟨_,rfl⟩
 obtain ⟨b,hb⟩:∃ b,b=bval ys:=⟨_,rfl⟩
 unfold TrimmedPost at HA HB
 rw [<-ha] at HA TA eA WA lA ⊢
 rw [<-hb] at HB TB eB WB lB ⊢
 clear ha hb
 have hcl:(canon a).length<(canon b).length->a<b:=canon_lt
 have hcg:(canon b).length<(canon a).length->b<a:=canon_lt
 obtain ⟨A,hA⟩:∃ A,A=canon a:=⟨_,rfl⟩
 obtain ⟨B,hB⟩:∃ B,B=canon b:=⟨_,rfl⟩
 rw [<-hA] at HA TA eA WA lA hcl hcg
 rw [<-hB] at HB TB eB WB lB hcl hcg
 clear hA hB
 rcases Nat.lt_trichotomy A.length B.length with hc|hc|hc
 ·have HP:=Lib.hid (cmp_lt (hcl hc))
  have ht:decide ((A.length:Int)<(B.length:Int))=true:=by simpa using hc
  clear hcl hcg TA TB eA eB WA WB
  go_enter Tryz.func164,Tryz.ntmps164
  go_wp2_with fail
  refine HA.out.mono ?_
  rintro e w' ⟨rfl,rfl⟩
  go_wp2_with fail
  refine HB.out.mono ?_
  rintro e w' ⟨rfl,rfl⟩
  go_wp2
  go_ret
  exact ⟨by rw [HP.out];rfl,Below.refl _ _⟩
 ·have ht:decide ((A.length:Int)<(B.length:Int))=false:=by simp;omega
  have ht2:decide ((B.length:Int)<(A.length:Int))=false:=by simp;omega
  have ht3:decide (A.length<B.length)=false:=by simp;omega
  have ht4:decide (B.length<A.length)=false:=by simp;omega
  have HPL:Hid (∀ m,m<A.length->(∀ j,m<j->j<A.length->A.getD j 0=B.getD j 0)->A.getD m 0<B.getD m 0->a<b):=by
   intro m h1 h2 h3
   have:=bval_part A B WA WB hc m h1 h2 h3
   omega
  have HPG:Hid (∀ m,m<A.length->(∀ j,m<j->j<A.length->A.getD j 0=B.getD j 0)->B.getD m 0<A.getD m 0->b<a):=by
   intro m h1 h2 h3
   have:=bval_part B A WB WA hc.symm m (by omega) (fun j q1 q2=>(h2 j q1 (by omega)).symm) h3
   omega
  have HPE:Hid ((∀ j,j<A.length->A.getD j 0=B.getD j 0)->a=b):=by
   intro h2
   have:A=B:=by
    apply List.ext_getElem hc
    intro i h3 h4
    have:=h2 i h3
    simpa [List.getD,List.getElem?_eq_getElem h3,List.getElem?_eq_getElem h4] using this
   rw [<-eA,<-eB,this]
  have HC:=Lib.hid hc
  have TA:=Lib.hid TA
  have TB:=Lib.hid TB
  clear hcl hcg eA eB WA WB hc
  go_enter Tryz.func164,Tryz.ntmps164
  go_wp2_with fail
  refine HA.out.mono ?_
  rintro e w' ⟨rfl,rfl⟩
  go_wp2_with fail
  refine HB.out.mono ?_
  rintro e w' ⟨rfl,rfl⟩
  clear HA HB
  go_wp2
  clear ht ht2 ht3 ht4
  go_loopw [5] (fun i wr=>∃ m:Nat,m<=A.length/\i=.int .i64 ((m:Int) - 1)/\Hid (∀ j,m<=j->j<A.length->A.getD j 0=B.getD j 0)/\Hid (∃ n,wr=w.drewN n))
   (fun i _=>(intOf i+1).toNat)
  case atStart=>exact ⟨A.length,Nat.le_refl _,rfl,fun j h1 h2=>by omega,0,rfl⟩
  case round =>
   obtain ⟨m,hm,rfl,heq,hw⟩:=hrel
   by_cases hm0:m=0
   ·subst hm0
    have hab:=HPE.out (fun j hj=>heq.out j (Nat.zero_le _) hj)
    have HP:=Lib.hid (cmp_eq hab)
    clear hab
    go_wp2
    go_ret
    obtain ⟨n,e⟩:=hw.out
    exact ⟨by rw [HP.out];rfl,by rw [e];exact Gx.drewN_below _ _ _⟩
   ·obtain ⟨b1,o1,rfl,-,hc1⟩:=TA.out.addr (by omega)
    obtain ⟨b2,o2,rfl,-,hc2⟩:=TB.out.addr (by have:=HC.out;omega)
    have hd1:=hc1 (m - 1) (by omega)
    have hd2:=hc2 (m - 1) (by have:=HC.out;omega)
    clear hc1 hc2
    obtain ⟨x,ex⟩:∃ x,x=A.getD (m - 1) 0:=⟨_,rfl⟩
    obtain ⟨y,ey⟩:∃ y,y=B.getD (m - 1) 0:=⟨_,rfl⟩
    rw [<-ex] at hd1
    rw [<-ey] at hd2
    have EX:=Lib.hid ex
    have EY:=Lib.hid ey
    clear ex ey
    have hf1:wr.cell? ⟨b1,o1+(m - 1),none⟩=some (.int .u32 x):=by obtain ⟨n,e⟩:=hw.out;rw [e,World.cell?_drewN];exact hd1
    have hf2:wr.cell? ⟨b2,o2+(m - 1),none⟩=some (.int .u32 y):=by obtain ⟨n,e⟩:=hw.out;rw [e,World.cell?_drewN];exact hd2
    have hmB:m<=B.length:=by have:=HC.out;omega
    clear hd1 hd2
    have hi0:(0:Int)<=(m:Int) - 1:=by omega
    have hi1:(m:Int) - 1<(A.length:Int):=by omega
    have hi2:(m:Int) - 1<(B.length:Int):=by omega
    have hi3:((m:Int) - 1).toNat=m - 1:=by omega
    rcases Int.lt_trichotomy x y with hxy|hxy|hxy
    ·have hd:decide (x<y)=true:=by simpa using hxy
     have HP:=Lib.hid (cmp_lt (HPL.out (m - 1) (by omega) (fun j q1 q2=>heq.out j (by omega) q2) (by rw [<-EX.out,<-EY.out];exact hxy)))
     go_wp2
     go_quiet (fail)
     go_wp2
     go_ret
     obtain ⟨n,e⟩:=hw.out
     exact ⟨by rw [HP.out];rfl,by rw [e];repeat first|exact Gx.drewN_below _ _ _|refine Below.trans ?_ (Gx.drewN_below _ _ _)⟩
    ·subst hxy
     have hd:decide (x<x)=false:=by simp
     go_wp2
     go_quiet (fail)
     go_wp2
     go_quiet (fail)
     go_wp2
     go_roundw
     case rel =>
      refine ⟨m - 1,by omega,?_,fun j q1 q2=>?_,?_⟩
      ·congr 1<;>omega
      ·by_cases hj:j=m - 1
       ·rw [hj,<-EX.out,<-EY.out]
       ·exact heq.out j (by omega) q2
      ·obtain ⟨n,e⟩:=hw.out
       exact ⟨_,by rw [e,World.drewN_drewN]⟩
     case measure=>simp [intOf];omega
    ·have hd:decide (x<y)=false:=by simp;omega
     have hd':decide (y<x)=true:=by simpa using hxy
     have HP:=Lib.hid (cmp_gt (HPG.out (m - 1) (by omega) (fun j q1 q2=>heq.out j (by omega) q2) (by rw [<-EX.out,<-EY.out];exact hxy)))
     go_wp2
     go_quiet (fail)
     go_wp2
     go_quiet (fail)
     go_wp2
     go_ret
     obtain ⟨n,e⟩:=hw.out
     exact ⟨by rw [HP.out];rfl,by rw [e];repeat first|exact Gx.drewN_below _ _ _|refine Below.trans ?_ (Gx.drewN_below _ _ _)⟩
 ·have HP:=Lib.hid (cmp_gt (hcg hc))
  have ht:decide ((A.length:Int)<(B.length:Int))=false:=by simp;omega
  have ht2:decide ((B.length:Int)<(A.length:Int))=true:=by simpa using hc
  clear hcl hcg TA TB eA eB WA WB
  go_enter Tryz.func164,Tryz.ntmps164
  go_wp2_with fail
  refine HA.out.mono ?_
  rintro e w' ⟨rfl,rfl⟩
  go_wp2_with fail
  refine HB.out.mono ?_
  rintro e w' ⟨rfl,rfl⟩
  go_wp2
  go_ret
  exact ⟨by rw [HP.out];rfl,Below.refl _ _⟩
set_option maxRecDepth 100000
theorem borrow_range (x y c:Int):0<=borrowOf x y c/\borrowOf x y c<=1:=by
 unfold borrowOf
 split<;>omega
set_option maxRecDepth 100000
theorem or_word (hi lo:Int) (hh:0<=hi) (hh':hi<=4294967295) (hl:0<=lo) (hl':lo<=4294967295):bits BinOp.or IntKind.u64 (hi * 4294967296) lo=hi * 4294967296+lo:=by
 obtain ⟨a,rfl⟩:=Int.eq_ofNat_of_zero_le hh
 obtain ⟨b,rfl⟩:=Int.eq_ofNat_of_zero_le hl
 have e:(a:Int) * 4294967296=((a * 4294967296:Nat):Int):=by omega
 rw [e,bits_or_u64_nat _ _ (by omega) (by omega)]
 have h:=Nat.shiftLeft_add_eq_or_of_lt (b:=b) (i:=32) (by omega) a
 rw [Nat.shiftLeft_eq] at h
 have h2:(2:Nat) ^ 32=4294967296:=by decide
 rw [h2] at h
 rw [<-h];omega
def DivPost (a b:Int) (w:World) (e:Ending) (w':World):Prop:=e=.returned (.tuple #[.int .u32 a,.int .u32 b])/\∃ n,w'=w.drewN n
set_option maxHeartbeats 400000 in
theorem div32_any (hi lo y:Int) (w:World) (hh:0<=hi) (hl:0<=lo) (hl':lo<=4294967295) (hy':y<=4294967295) (hy:hi<y) :
 Calls Tryz.prog 195 #[.int .u32 hi,.int .u32 lo,.int .u32 y] w (DivPost ((hi * 4294967296+lo) / y) ((hi * 4294967296+lo) % y) w):=by
 have hb:((y:Int) != 0)=true:=by simp;omega
 have hb1:decide (y<=hi)=false:=by simp;omega
 have hor:=or_word hi lo hh (by omega) hl hl'
 obtain ⟨z,hz⟩:∃ z,z=hi * 4294967296+lo:=⟨_,rfl⟩
 have hz0:0<=z:=by omega
 have hz1:z<=18446744073709551615:=by omega
 have hq0:0<=z / y:=Int.ediv_nonneg hz0 (by omega)
 have hq1:z / y<=4294967295:=by
  have:z / y<4294967296:=Int.ediv_lt_of_lt_mul (by omega) (by
   have:(hi+1) * 4294967296<=y * 4294967296:=Int.mul_le_mul_of_nonneg_right (by omega) (by decide)
   rw [Int.mul_comm 4294967296 y];omega)
  omega
 have hr0:0<=z % y:=Int.emod_nonneg _ (by omega)
 have hr1:z % y<=4294967295:=by have:=Int.emod_lt_of_pos z (show 0<y by omega);omega
 rw [<-hz] at hor ⊢
 clear hz
 have hy1:1<=y:=by omega
 have hd1:z.tdiv y=z / y:=Int.tdiv_eq_ediv_of_nonneg hz0
 have hd2:z.tmod y=z % y:=Int.tmod_eq_emod_of_nonneg hz0
 have hw1:IntKind.u64.wrap (z / y)=z / y:=by rw [IntKind.wrap_u64];omega
 have hm1:z / y % 4294967296=z / y:=by omega
 have hm2:z % y % 4294967296=z % y:=by omega
 go_enter Tryz.func195,Tryz.ntmps195
 go_wp2
 go_quiet (fail)
 go_wp2
 go_ret2
 exact ⟨rfl,_,rfl⟩
set_option maxRecDepth 100000
theorem bval_drop (l:List Int) (m:Nat) (h:m<l.length):bval (l.drop m)=(l.getD m 0).toNat+4294967296 * bval (l.drop (m+1)):=by
 rw [List.drop_eq_getElem_cons h]
 simp [bval,List.getD,List.getElem?_eq_getElem h]
def ByWordPost (n d:Nat) (w:World) (e:Ending) (w':World):Prop :=
 ∃ ad cap,e=.returned (.tuple #[.slice ad (canon (n / d)).length cap,.int .u32 ((n % d:Nat):Int)])/\Rd .u32 w' ad cap (canon (n / d))/\Below w.heap.size w w'/\∀ a,ad=some a->w.heap.size<=a.block
theorem byWord_step (out xs:List Int) (m:Nat) (d r x:Int) (hd:1<=d) (hr:0<=r) (hx:0<=x) (hm:m<xs.length) (hl:out.length=xs.length) (ex:x=xs.getD m 0)
 (h:bval (out.drop (m+1)) * d.toNat+r.toNat=bval (xs.drop (m+1))) :
 bval ((out.set m ((r * 4294967296+x) / d)).drop m) * d.toNat+((r * 4294967296+x) % d).toNat=bval (xs.drop m):=by
 rw [bval_drop _ _ (by simp;omega),bval_drop xs m hm,<-ex,<-h]
 have e1:(out.set m ((r * 4294967296+x) / d)).drop (m+1)=out.drop (m+1):=by
  rw [List.drop_set_of_lt (by omega)]
 have e2:(out.set m ((r * 4294967296+x) / d)).getD m 0=(r * 4294967296+x) / d:=by
  simp [List.getD,List.getElem?_set,show m<out.length by omega]
 rw [e1,e2]
 generalize bval (out.drop (m+1))=p
 have hq:0<=(r * 4294967296+x) / d:=Int.ediv_nonneg (by omega) (by omega)
 have hm2:0<=(r * 4294967296+x) % d:=Int.emod_nonneg _ (by omega)
 have he:=Int.mul_ediv_add_emod (r * 4294967296+x) d
 generalize (r * 4294967296+x) / d=q at *
 generalize (r * 4294967296+x) % d=t at *
 obtain ⟨q,rfl⟩:=Int.eq_ofNat_of_zero_le hq
 obtain ⟨t,rfl⟩:=Int.eq_ofNat_of_zero_le hm2
 obtain ⟨r,rfl⟩:=Int.eq_ofNat_of_zero_le hr
 obtain ⟨x,rfl⟩:=Int.eq_ofNat_of_zero_le hx
 obtain ⟨d,rfl⟩:=Int.eq_ofNat_of_zero_le (show 0<=d by omega)
 simp only [Int.toNat_natCast]
 have he2:d * q+t=r * 4294967296+x:=by rw [<-Int.natCast_mul] at he;omega
 rw [Nat.add_mul,Nat.mul_add,Nat.mul_comm q d]
 have:4294967296 * p * d=4294967296 * (p * d):=Nat.mul_assoc _ _ _
 omega
set_option maxHeartbeats 1000000 in
theorem byWord_any (ad:Option Addr) (ca:Nat) (xs:List Int) (d:Int) (w:World) (h:Rd .u32 w ad ca xs) (hl:xs.length<=1048576) (hd:1<=d) (hd':d<=4294967295) :
 Calls Tryz.prog 180 #[.slice ad xs.length ca,.int .u32 d] w (ByWordPost (bval xs) d.toNat w):=by
 have hwx:=words_of_rd h
 have H:=Lib.hid h
 have HWX:=Lib.hid hwx
 clear h hwx
 go_enter Tryz.func180,Tryz.ntmps180
 obtain ⟨i0,hi,hz0,hz1,hz2⟩:=info_parts Tryz.info_u32
 have HI:=Lib.hid hi
 have HZ0:=Lib.hid hz0
 have HZ1:=Lib.hid hz1
 clear hi hz0 hz1
 go_wp2_with (first
  | (at_make;refine wpList_make_full _ rfl _ _ 169 rfl w.heap.size 145 i0 (.int .u32 0) 1 Tryz.underlying169 HI.out HZ0.out HZ1.out .i64 .i64 _ _ xs.length rfl rfl (by omega) (by omega) (by rw [hz2];omega) (by unfold maxLen;omega) (Nat.le_refl _) ?_))
 intro w1 hown hg
 have hb:Below w.heap.size w w1:=Gx.grown_below hg (Nat.le_refl _) (by simp)
 rw [madeCells_one] at hown
 clear hg hz2 HI HZ0 HZ1
 obtain ⟨n,hn⟩:∃ n,n=xs.length:=⟨_,rfl⟩
 obtain ⟨gb,hgb⟩:∃ gb,gb=w.heap.size:=⟨_,rfl⟩
 rw [<-hn] at hown hl ⊢
 rw [show Value.slice (some ⟨w.heap.size,0,none⟩) n n=Value.slice (some ⟨gb,0,none⟩) n n from by rw [hgb]] at hown ⊢
 have HN:=Lib.hid hn;clear hn
 have HGB:=Lib.hid hgb;clear hgb
 go_wp2
 go_loopw [7,8] (fun rv i wr=>∃ (m:Nat) (out:List Int) (r:Int),m<=n/\i=.int .i64 ((m:Int) - 1)/\rv=.int .u32 r/\0<=r/\r<d /\
  wr.ownsRow w.heap.size 145 1 (.slice (some ⟨gb,0,none⟩) n n) n (out.map (Value.int .u32))/\Hid (out.length=n)/\Words out/\Hid (bval (out.drop m) * d.toNat+r.toNat=bval (xs.drop m))/\Below w.heap.size w wr)
  (fun _ i _=>(intOf i+1).toNat)
 case atStart =>
  refine ⟨n,List.replicate n 0,0,Nat.le_refl _,rfl,rfl,by omega,by omega,hown,by simp [Hid],fun x hx=>?_,?_,hb⟩
  ·have:=(List.mem_replicate.1 hx).2;omega
  ·show _=_
   rw [List.drop_eq_nil_of_le (by simp),List.drop_eq_nil_of_le (by rw [HN.out];exact Nat.le_refl _)];simp [bval]
 case round =>
  clear hown hb
  obtain ⟨m,out,r,hm,rfl,rfl,hr0,hr1,hown1,hol,how,hval,hb1⟩:=hrel
  have HOW:=Lib.hid how
  clear how
  have hol':out.length=n:=hol.out
  by_cases hm0:m=0
  ·subst hm0
   have h1:=hval.out
   simp only [List.drop_zero] at h1
   have hdn:r.toNat<d.toNat:=by omega
   have hq:bval xs / d.toNat=bval out:=by
    rw [<-h1,Nat.mul_comm,Nat.mul_add_div (by omega),Nat.div_eq_of_lt hdn,Nat.add_zero]
   have hrm:bval xs % d.toNat=r.toNat:=by
    rw [<-h1,Nat.mul_comm,Nat.mul_add_mod,Nat.mod_eq_of_lt hdn]
   have HQ:=Lib.hid hq
   have HRM:=Lib.hid hrm
   obtain ⟨ad',cap',he,hrd,hfr⟩:=Gx.Rd.own' (k:=.u32) (xs:=out) hown1 (wf_words HOW.out)
   have HR:=Lib.hid hrd
   have HFR:=Lib.hid hfr
   clear hrd hfr hown1 h1 hq hrm hval hdn
   have hlo:out.length<=1048576:=by omega
   rw [he]
   clear he hol'
   go_wp2_with (first
    | (go_at_call 157;refine (trimmed_any ad' cap' out _ HR.out (by omega)).mono ?_;rintro e w' ⟨rfl,rfl⟩))
   go_ret2
   refine ⟨ad',cap',?_,?_,hb1,HFR.out⟩
   ·rw [HQ.out,HRM.out,show ((r.toNat:Nat):Int)=r from by omega];rfl
   ·rw [HQ.out];exact HR.out.trim
  ·have hb3:=hb1.size
   have hgb:w.heap.size<=gb:=by rw [HGB.out];exact Nat.le_refl _
   obtain ⟨b1,o1,rfl,-,hcx⟩:=(H.out.keep hb1).addr (by have:=HN.out;omega)
   have hx:=hcx (m - 1) (by have:=HN.out;omega)
   clear hcx
   obtain ⟨bx0,bx1⟩:=words_getD HWX.out (m - 1)
   obtain ⟨x,ex⟩:∃ x,x=xs.getD (m - 1) 0:=⟨_,rfl⟩
   rw [<-ex] at hx bx0 bx1
   have hcell:∃ y,wr.cell? ⟨gb,m - 1,none⟩=some (.int .u32 y):=by
    rw [hown1.cellAt (m - 1) (by omega)]
    exact ⟨out[m - 1],by simp [List.getElem?_eq_getElem (show m - 1<out.length by omega)]⟩
   obtain ⟨y,hcell⟩:=hcell
   have hfz:wr.frozen? ⟨gb,m - 1,none⟩=false:=hown1.frozenAt (m - 1)
   have e1:m - 1<xs.length:=by have:=HN.out;omega
   have e2:out.length=xs.length:=hol'.trans HN.out
   have e4:m - 1+1=m:=by omega
   have e3:bval (out.drop (m - 1+1)) * d.toNat+r.toNat=bval (xs.drop (m - 1+1)):=by rw [e4];exact hval.out
   have hT0:=byWord_step out xs (m - 1) d r x hd hr0 bx0 e1 e2 ex e3
   have hT:=Lib.hid hT0
   clear e1 e2 e3 e4 hT0
   clear ex
   have hz0:0<=r * 4294967296+x:=by omega
   have hq0:0<=(r * 4294967296+x) / d:=Int.ediv_nonneg hz0 (by omega)
   have hq1:(r * 4294967296+x) / d<=4294967295:=by
    have:(r * 4294967296+x) / d<4294967296:=Int.ediv_lt_of_lt_mul (by omega) (by
     have:(r+1) * 4294967296<=d * 4294967296:=Int.mul_le_mul_of_nonneg_right (by omega) (by decide)
     rw [Int.mul_comm 4294967296 d];omega)
    omega
   have ht0:0<=(r * 4294967296+x) % d:=Int.emod_nonneg _ (by omega)
   have ht1:(r * 4294967296+x) % d<d:=Int.emod_lt_of_pos _ (by omega)
   have HC:=Lib.hid (div32_any r x d wr hr0 bx0 bx1 hd' hr1)
   unfold DivPost at HC
   clear hz0
   obtain ⟨q,hqe⟩:∃ q,q=(r * 4294967296+x) / d:=⟨_,rfl⟩
   obtain ⟨t,hte⟩:∃ t,t=(r * 4294967296+x) % d:=⟨_,rfl⟩
   rw [<-hqe] at hq0 hq1
   rw [<-hte] at ht0 ht1
   rw [<-hqe,<-hte] at HC hT
   clear hqe hte
   have hst:=hown1.stored (m - 1) (.int .u32 q)
   have HBN:=Lib.hid (hb1.grown hst.2 hb3 (fun q e=>by cases e;exact hgb))
   have HON:Hid ((wr.setCell ⟨gb,m - 1,none⟩ (.int .u32 q)).ownsRow w.heap.size 145 1 (.slice (some ⟨gb,0,none⟩) n n) n ((out.set (m - 1) q).map (Value.int .u32))):=by
    show World.ownsRow _ _ _ _ _ _ _
    rw [List.map_set];exact hst.1
   have hw3:=Lib.hid (words_set HOW.out (m - 1) q (by omega) (by omega))
   have hl3:Hid ((out.set (m - 1) q).length=n):=by show _=_;rw [List.length_set];exact hol'
   have hi0:(0:Int)<=(m:Int) - 1:=by omega
   have hi1:(m:Int) - 1<(n:Int):=by omega
   have hi3:((m:Int) - 1).toNat=m - 1:=by omega
   clear hst hown1 hol' hb1
   go_wp2_with (first
    | (go_at_call 195;refine HC.out.mono ?_;rintro e w' ⟨rfl,nq,rfl⟩))
   go_roundw
   case rel =>
    refine ⟨m - 1,out.set (m - 1) q,t,by omega,?_,rfl,by omega,by omega,?_,hl3,hw3.out,hT,?_⟩
    ·congr 1<;>omega
    ·exact HON.out
    ·exact HBN.out.trans (Gx.drewN_below _ _ _)
   case measure=>simp [intOf];omega
theorem two32 (n:Nat) (h:n<=32):2 ^ n * 2 ^ (32 - n)=4294967296:=by
 rw [<-Nat.pow_add,show n+(32 - n)=32 by omega]
theorem left_word (n x low:Nat) (hn:n<=31) (hx:x<4294967296) (hl:low<2 ^ n) :
 bits BinOp.or IntKind.u32 ((x:Int) * 2 ^ n % 4294967296) (low:Int)=((x * 2 ^ n % 4294967296+low:Nat):Int) /\
 x / 2 ^ (32 - n)<2 ^ n/\x * 2 ^ n % 4294967296+low<4294967296/\x * 2 ^ n % 4294967296+low+4294967296 * (x / 2 ^ (32 - n))=x * 2 ^ n+low:=by
 have h2:=two32 n (by omega)
 have hP:0<2 ^ n:=Nat.two_pow_pos n
 have hR:0<2 ^ (32 - n):=Nat.two_pow_pos _
 have hPle:2 ^ n<=2147483648:=by
  have:=Nat.pow_le_pow_right (show 0<2 by decide) hn
  exact this
 have hshl:x % 2 ^ (32 - n) * 2 ^ n=x * 2 ^ n % 4294967296:=by
  rw [<-h2,Nat.mul_comm (2 ^ n) (2 ^ (32 - n)),Nat.mul_mod_mul_right]
 have hor:=Nat.shiftLeft_add_eq_or_of_lt (b:=low) (i:=n) hl (x % 2 ^ (32 - n))
 rw [Nat.shiftLeft_eq,hshl] at hor
 have hm:x % 2 ^ (32 - n)+1<=2 ^ (32 - n):=Nat.mod_lt _ hR
 have hs:x * 2 ^ n % 4294967296+low<4294967296:=by
  have h3:=Nat.mul_le_mul_right (2 ^ n) hm
  rw [Nat.add_mul,Nat.one_mul,Nat.mul_comm (2 ^ (32 - n)) (2 ^ n),h2,hshl] at h3
  omega
 have hd:x / 2 ^ (32 - n)<2 ^ n:=by
  rw [Nat.div_lt_iff_lt_mul hR,h2];exact hx
 refine ⟨?_,hd,hs,?_⟩
 ·have e:(x:Int) * 2 ^ n % 4294967296=((x * 2 ^ n % 4294967296:Nat):Int):=by
   rw [Int.natCast_emod,Int.natCast_mul,Int.natCast_pow];rfl
  have hmw:x * 2 ^ n % 4294967296<4294967296:=Nat.mod_lt _ (by decide)
  rw [e,Go.u32_or _ _ (Int.natCast_nonneg _) (by omega) (Int.natCast_nonneg _) (by omega)]
  rw [Int.toNat_natCast,Int.toNat_natCast,hor]
 ·have h4:=Nat.div_add_mod x (2 ^ (32 - n))
  have h5:x * 2 ^ n=4294967296 * (x / 2 ^ (32 - n))+x % 2 ^ (32 - n) * 2 ^ n:=by
   conv=>lhs;rw [<-h4]
   rw [Nat.add_mul,Nat.mul_comm (2 ^ (32 - n)) (x / 2 ^ (32 - n)),Nat.mul_assoc,Nat.mul_comm (2 ^ (32 - n)) (2 ^ n),h2,Nat.mul_comm (x / 2 ^ (32 - n))]
  rw [h5,hshl];omega
theorem bval_split (xs:List Int) (j:Nat) (hj:j<=xs.length):bval xs=bval (xs.take j)+4294967296 ^ j * bval (xs.drop j):=by
 conv=>lhs;rw [<-List.take_append_drop j xs]
 rw [bval_append,List.length_take,Nat.min_eq_left hj]
theorem bval_shr (xs:List Int) (hw:Words xs) (j:Nat) (hj:j<=xs.length):bval xs / 4294967296 ^ j=bval (xs.drop j):=by
 have hlt:=bval_lt (xs.take j) (fun x hx=>hw x (List.mem_of_mem_take hx))
 rw [List.length_take,Nat.min_eq_left hj] at hlt
 have hp:0<4294967296 ^ j:=Nat.pow_pos (by decide)
 rw [bval_split xs j hj,Nat.add_mul_div_left _ _ hp,Nat.div_eq_of_lt hlt,Nat.zero_add]
theorem bval_digits:∀ (out:List Int) (v:Nat),v<4294967296 ^ out.length->(∀ j,j<out.length->(out.getD j 0).toNat=v / 4294967296 ^ j % 4294967296)->bval out=v
 | [],v,h,_=>by simp at h;simp [bval,h]
 | x::l,v,h,hd=>by
   have h0:=hd 0 (by simp)
   simp only [List.getD_cons_zero,Nat.pow_zero,Nat.div_one] at h0
   have ih:=bval_digits l (v / 4294967296) (by rw [List.length_cons,Nat.pow_succ] at h;exact Nat.div_lt_of_lt_mul (by rw [Nat.mul_comm];exact h)) (fun j hj=>by
    have:=hd (j+1) (by simpa using hj)
    simp only [List.getD_cons_succ] at this
    rw [this,Nat.pow_succ,Nat.div_div_eq_div_mul,Nat.mul_comm])
   rw [bval,ih,h0]
   omega
theorem right_word (n x t:Nat) (hn:n<=31) (hx:x<4294967296) :
 (x+4294967296 * t) / 2 ^ n % 4294967296=x / 2 ^ n+t * 2 ^ (32 - n) % 4294967296/\x / 2 ^ n+t * 2 ^ (32 - n) % 4294967296<4294967296:=by
 have h2:=two32 n (by omega)
 have hP:0<2 ^ n:=Nat.two_pow_pos n
 have hR:0<2 ^ (32 - n):=Nat.two_pow_pos _
 have hq:x / 2 ^ n<2 ^ (32 - n):=by rw [Nat.div_lt_iff_lt_mul hP,Nat.mul_comm,h2];exact hx
 have e1:(x+4294967296 * t) / 2 ^ n=x / 2 ^ n+t * 2 ^ (32 - n):=by
  rw [<-h2,Nat.mul_assoc,Nat.add_mul_div_left _ _ hP,Nat.mul_comm t]
 have e2:t * 2 ^ (32 - n) % 4294967296=t % 2 ^ n * 2 ^ (32 - n):=by
  rw [<-h2,Nat.mul_mod_mul_right]
 have hm:t % 2 ^ n+1<=2 ^ n:=Nat.mod_lt _ hP
 have h3:x / 2 ^ n+t * 2 ^ (32 - n) % 4294967296<4294967296:=by
  rw [e2]
  have h4:=Nat.mul_le_mul_right (2 ^ (32 - n)) hm
  rw [Nat.add_mul,Nat.one_mul,h2] at h4
  omega
 refine ⟨?_,h3⟩
 rw [e1]
 have hxl:x / 2 ^ n<4294967296:=Nat.lt_of_le_of_lt (Nat.div_le_self _ _) hx
 conv=>rhs;rw [<-Nat.mod_eq_of_lt h3]
 rw [Nat.add_mod_mod]
theorem mod_of_next (n y r:Nat) (hn:n<=31):(y+4294967296 * r) * 2 ^ (32 - n) % 4294967296=y * 2 ^ (32 - n) % 4294967296:=by
 rw [Nat.add_mul,Nat.mul_assoc,Nat.add_mul_mod_self_left]
theorem right_wrap (n y:Nat):(y:Int) * 2 ^ (32 - n) % 18446744073709551616 % 4294967296=((y * 2 ^ (32 - n) % 4294967296:Nat):Int):=by
 have e:(y:Int) * 2 ^ (32 - n)=((y * 2 ^ (32 - n):Nat):Int):=by rw [Int.natCast_mul,Int.natCast_pow];rfl
 rw [e]
 generalize y * 2 ^ (32 - n)=t
 omega
theorem right_or (n x y:Nat) (hn:n<=31) (hx:x<4294967296) :
 bits BinOp.or IntKind.u32 ((x / 2 ^ n:Nat):Int) ((y * 2 ^ (32 - n) % 4294967296:Nat):Int)=((x / 2 ^ n+y * 2 ^ (32 - n) % 4294967296:Nat):Int):=by
 have h2:=two32 n (by omega)
 have hP:0<2 ^ n:=Nat.two_pow_pos n
 have hq:x / 2 ^ n<2 ^ (32 - n):=by rw [Nat.div_lt_iff_lt_mul hP,Nat.mul_comm,h2];exact hx
 have e2:y * 2 ^ (32 - n) % 4294967296=y % 2 ^ n * 2 ^ (32 - n):=by
  rw [<-h2,Nat.mul_mod_mul_right]
 have hxl:x / 2 ^ n<4294967296:=Nat.lt_of_le_of_lt (Nat.div_le_self _ _) hx
 have hyl:y * 2 ^ (32 - n) % 4294967296<4294967296:=Nat.mod_lt _ (by decide)
 have hor:=Nat.shiftLeft_add_eq_or_of_lt (b:=x / 2 ^ n) (i:=32 - n) hq (y % 2 ^ n)
 rw [Nat.shiftLeft_eq,<-e2] at hor
 rw [Go.u32_or _ _ (Int.natCast_nonneg _) (by omega) (Int.natCast_nonneg _) (by omega)]
 rw [Int.toNat_natCast,Int.toNat_natCast,Nat.or_comm,<-hor,Nat.add_comm]
theorem right_digit (xs:List Int) (hw:Words xs) (n k x:Nat) (hn:n<=31) (hk:k<xs.length) (ex:(x:Int)=xs.getD k 0) :
 bval xs / 2 ^ n / 4294967296 ^ k % 4294967296=x / 2 ^ n+bval (xs.drop (k+1)) * 2 ^ (32 - n) % 4294967296/\x / 2 ^ n+bval (xs.drop (k+1)) * 2 ^ (32 - n) % 4294967296<4294967296:=by
 obtain ⟨b0,b1⟩:=words_getD hw k
 have hx:x<4294967296:=by omega
 obtain ⟨e1,e2⟩:=right_word n x (bval (xs.drop (k+1))) hn hx
 refine ⟨?_,e2⟩
 rw [<-e1,Nat.div_div_eq_div_mul,Nat.mul_comm (2 ^ n),<-Nat.div_div_eq_div_mul,bval_shr xs hw k (by omega),bval_drop xs k hk,<-ex,Int.toNat_natCast]
theorem right_digit_last (xs:List Int) (hw:Words xs) (n k x:Nat) (hn:n<=31) (hk:k+1=xs.length) (ex:(x:Int)=xs.getD k 0) :
 bval xs / 2 ^ n / 4294967296 ^ k % 4294967296=x / 2 ^ n:=by
 rw [(right_digit xs hw n k x hn (by omega) ex).1,List.drop_eq_nil_of_le (by omega)]
 simp [bval]
theorem right_digit_next (xs:List Int) (hw:Words xs) (n k x y:Nat) (hn:n<=31) (hk:k+1<xs.length) (ex:(x:Int)=xs.getD k 0) (ey:(y:Int)=xs.getD (k+1) 0) :
 bval xs / 2 ^ n / 4294967296 ^ k % 4294967296=x / 2 ^ n+y * 2 ^ (32 - n) % 4294967296/\x / 2 ^ n+y * 2 ^ (32 - n) % 4294967296<4294967296:=by
 obtain ⟨e1,e2⟩:=right_digit xs hw n k x hn (by omega) ex
 rw [bval_drop xs (k+1) hk,<-ey,Int.toNat_natCast,mod_of_next n y _ hn] at e1 e2
 exact ⟨e1,e2⟩
theorem digits_set (out:List Int) (k m:Nat) (v:Int) (D:Nat->Nat) (hl:out.length=m) (hk:k<m) (h:∀ j,j<k->(out.getD j 0).toNat=D j) (hv:v.toNat=D k) :
 ∀ j,j<k+1->((out.set k v).getD j 0).toNat=D j:=by
 intro j hj
 by_cases hjk:j=k
 ·subst hjk
  simp [List.getD,List.getElem?_set,show j<out.length by omega,hv]
 ·rw [getD_set_ne _ _ _ _ (fun e=>hjk e.symm)]
  exact h j (by omega)
theorem right_end (xs out:List Int) (hw:Words xs) (n:Nat) (hl:out.length=xs.length) (h:∀ j,j<xs.length->(out.getD j 0).toNat=bval xs / 2 ^ n / 4294967296 ^ j % 4294967296):bval out=bval xs / 2 ^ n:=by
 refine bval_digits out _ ?_ (fun j hj=>h j (by omega))
 rw [hl]
 exact Nat.lt_of_le_of_lt (Nat.div_le_self _ _) (bval_lt xs hw)
def win (l:List Int) (j k:Nat):Nat:=bval ((l.drop j).take k)
theorem win_split (l:List Int) (j k:Nat) (h:j+k<=l.length):bval l=bval (l.take j)+4294967296 ^ j * win l j k+4294967296 ^ (j+k) * bval (l.drop (j+k)):=by
 have h1:=bval_split l j (by omega)
 have h2:=bval_split (l.drop j) k (by simp;omega)
 rw [h1,h2,List.drop_drop,Nat.pow_add,Nat.mul_add,<-Nat.mul_assoc,<-Nat.add_assoc]
 rfl
theorem win_lt (l:List Int) (hw:Words l) (j k:Nat) (h:j+k<=l.length):win l j k<4294967296 ^ k:=by
 have:=bval_lt ((l.drop j).take k) (fun x hx=>hw x (List.mem_of_mem_drop (List.mem_of_mem_take hx)))
 have e:((l.drop j).take k).length=k:=by simp;omega
 rwa [e] at this
structure SameOut (us out:List Int) (j k:Nat):Prop where
 len:out.length=us.length
 lo:out.take j=us.take j
 hi:out.drop (j+k)=us.drop (j+k)
theorem SameOut.refl (us:List Int) (j k:Nat):SameOut us us j k:=⟨rfl,rfl,rfl⟩
theorem SameOut.trans {us vs ws:List Int} {j k:Nat} (h:SameOut us vs j k) (g:SameOut vs ws j k):SameOut us ws j k:=⟨g.len.trans h.len,g.lo.trans h.lo,g.hi.trans h.hi⟩
theorem SameOut.set {us out:List Int} {j k:Nat} (h:SameOut us out j k) (i:Nat) (x:Int) (h1:j<=i) (h2:i<j+k):SameOut us (out.set i x) j k :=
 ⟨by rw [List.length_set];exact h.len,by rw [List.take_set_of_le h1];exact h.lo,by rw [List.drop_set_of_lt h2];exact h.hi⟩
theorem win_of (us out:List Int) (j k a b:Nat) (hs:SameOut us out j k) (hl:j+k<=us.length) (h:bval out+4294967296 ^ j * a=bval us+4294967296 ^ j * b):win out j k+a=win us j k+b:=by
 rw [win_split us j k hl,win_split out j k (by rw [hs.len];exact hl),hs.lo,hs.hi] at h
 have hp:0<4294967296 ^ j:=Nat.pow_pos (by decide)
 have h2:4294967296 ^ j * (win out j k+a)=4294967296 ^ j * (win us j k+b):=by
  rw [Nat.mul_add,Nat.mul_add];omega
 exact Nat.eq_of_mul_eq_mul_left hp h2
theorem word_dm (s:Int) (h:0<=s):0<=s % 4294967296/\0<=s / 4294967296/\s % 4294967296+4294967296 * (s / 4294967296)=s:=by omega
theorem word_brw (x d bo:Int):0<=(x - d - bo) % 4294967296/\0<=borrowOf x d bo/\((0<=x/\x<=4294967295/\0<=d/\d<=4294967295/\0<=bo/\bo<=1)->(x - d - bo) % 4294967296+d+bo=x+4294967296 * borrowOf x d bo):=by
 unfold borrowOf
 refine ⟨by omega,by split<;>omega,fun ⟨_,_,_,_,_,_⟩=>?_⟩
 split<;>omega
theorem word_lt (s:Int):s % 4294967296<=4294967295:=by omega
theorem take_step (out vs:List Int) (X j i:Nat) (g x y c bo:Int) (hg:0<=g) (hx:0<=x) (hx1:x<=4294967295) (hy:0<=y) (hc:0<=c) (hb:0<=bo) (hb1:bo<=1) (hi:j+i<out.length) (ex:x=out.getD (j+i) 0) (ey:y=vs.getD i 0)
 (h:bval out+4294967296 ^ j * (g.toNat * bval (vs.take i))=X+4294967296 ^ (j+i) * (c.toNat+bo.toNat)) :
 bval (out.set (j+i) ((x - (c+g * y) % 4294967296 - bo) % 4294967296))+4294967296 ^ j * (g.toNat * bval (vs.take (i+1))) =
  X+4294967296 ^ (j+(i+1)) * (((c+g * y) / 4294967296).toNat+(borrowOf x ((c+g * y) % 4294967296) bo).toNat):=by
 have hs:=bval_set out (j+i) ((x - (c+g * y) % 4294967296 - bo) % 4294967296) hi
 rw [<-ex] at hs
 rw [bval_take_succ,<-ey]
 obtain ⟨P,hP⟩:∃ P,P=4294967296 ^ (j+i):=⟨_,rfl⟩
 have e1:4294967296 ^ (j+(i+1))=P * 4294967296:=by rw [hP,<-Nat.add_assoc,Nat.pow_succ]
 have e2:4294967296 ^ j * (g.toNat * (bval (vs.take i)+4294967296 ^ i * y.toNat))=4294967296 ^ j * (g.toNat * bval (vs.take i))+P * (g.toNat * y.toNat):=by
  rw [hP,Nat.mul_add,Nat.mul_add,Nat.pow_add]
  congr 1
  rw [Nat.mul_assoc]
  congr 1
  rw [<-Nat.mul_assoc,Nat.mul_comm g.toNat,Nat.mul_assoc]
 rw [e1,e2]
 rw [<-hP] at h hs
 have egy:(g * y).toNat=g.toNat * y.toNat:=by
  obtain ⟨a,rfl⟩:=Int.eq_ofNat_of_zero_le hg
  obtain ⟨b,rfl⟩:=Int.eq_ofNat_of_zero_le hy
  simp only [Int.toNat_natCast]
  rw [<-Int.natCast_mul,Int.toNat_natCast]
 have hgy:0<=g * y:=Int.mul_nonneg hg hy
 rw [<-egy]
 generalize g * y=z at *
 obtain ⟨hd0,hq0,hdq⟩:=word_dm (c+z) (by omega)
 have hd1:=word_lt (c+z)
 generalize (c+z) % 4294967296=d at *
 generalize (c+z) / 4294967296=cr at *
 obtain ⟨hn0,hb0,hnb'⟩:=word_brw x d bo
 have hnb:=hnb' ⟨hx,hx1,hd0,hd1,hb,hb1⟩
 clear hnb'
 generalize (x - d - bo) % 4294967296=nw at *
 generalize borrowOf x d bo=b2 at *
 have e3:nw.toNat+z.toNat+c.toNat+bo.toNat=x.toNat+4294967296 * (cr.toNat+b2.toNat):=by omega
 have e4:P * nw.toNat+P * z.toNat+P * (c.toNat+bo.toNat)=P * x.toNat+P * 4294967296 * (cr.toNat+b2.toNat):=by
  rw [Nat.mul_assoc,<-Nat.mul_add,<-Nat.mul_add,<-Nat.mul_add]
  congr 1
  omega
 clear e3 hdq hnb
 generalize 4294967296 ^ j * (g.toNat * bval (vs.take i))=t1 at *
 generalize P * 4294967296 * (cr.toNat+b2.toNat)=t2 at *
 generalize P * (c.toNat+bo.toNat)=t3 at *
 generalize P * nw.toNat=t4 at *
 generalize P * z.toNat=t5 at *
 generalize P * x.toNat=t6 at *
 omega
theorem give_step (out vs:List Int) (X j i:Nat) (x y c:Int) (hx:0<=x) (hy:0<=y) (hc:0<=c) (hi:j+i<out.length) (ex:x=out.getD (j+i) 0) (ey:y=vs.getD i 0)
 (h:bval out+4294967296 ^ (j+i) * c.toNat=X+4294967296 ^ j * bval (vs.take i)) :
 bval (out.set (j+i) ((x+y+c) % 4294967296))+4294967296 ^ (j+(i+1)) * ((x+y+c) / 4294967296).toNat=X+4294967296 ^ j * bval (vs.take (i+1)):=by
 have hs:=bval_set out (j+i) ((x+y+c) % 4294967296) hi
 rw [<-ex] at hs
 rw [bval_take_succ,<-ey]
 obtain ⟨P,hP⟩:∃ P,P=4294967296 ^ (j+i):=⟨_,rfl⟩
 have e1:4294967296 ^ (j+(i+1))=P * 4294967296:=by rw [hP,<-Nat.add_assoc,Nat.pow_succ]
 have e2:4294967296 ^ j * (bval (vs.take i)+4294967296 ^ i * y.toNat)=4294967296 ^ j * bval (vs.take i)+P * y.toNat:=by
  rw [hP,Nat.mul_add,Nat.pow_add,Nat.mul_assoc]
 rw [e1,e2]
 rw [<-hP] at h hs
 obtain ⟨hd0,hq0,hdq⟩:=word_dm (x+y+c) (by omega)
 generalize (x+y+c) % 4294967296=d at *
 generalize (x+y+c) / 4294967296=cr at *
 have e4:P * d.toNat+P * 4294967296 * cr.toNat=P * x.toNat+P * y.toNat+P * c.toNat:=by
  rw [Nat.mul_assoc,<-Nat.mul_add,<-Nat.mul_add,<-Nat.mul_add]
  congr 1
  omega
 clear hdq
 generalize 4294967296 ^ j * bval (vs.take i)=t1 at *
 generalize P * 4294967296 * cr.toNat=t2 at *
 generalize P * c.toNat=t3 at *
 generalize P * d.toNat=t4 at *
 generalize P * y.toNat=t5 at *
 generalize P * x.toNat=t6 at *
 omega
structure Guess (two u2 top next W B R:Nat):Prop where
 b1:(top * 4294967296+next) * R<=B
 b2:B<(top * 4294967296+next+1) * R
 t1:2147483648<=top
 t2:top<4294967296
 n2:next<4294967296
 ul:u2<4294967296
 w1:(two * 4294967296+u2) * R<=W
 w2:W<(two * 4294967296+u2+1) * R
 wb:W<4294967296 * B
variable {two u2 top next W B R:Nat}
theorem Guess.r (h:Guess two u2 top next W B R):0<R:=by
 rcases Nat.eq_zero_or_pos R with h0|h0
 ·have:=h.b2;rw [h0] at this;simp at this
 ·exact h0
theorem Guess.bpos (h:Guess two u2 top next W B R):0<B:=by
 have:=h.wb
 rcases Nat.eq_zero_or_pos B with h0|h0
 ·rw [h0] at this;simp at this
 ·exact h0
theorem Guess.two_lt (h:Guess two u2 top next W B R):two<(top+1) * 4294967296:=by
 have h1:(two * 4294967296+u2) * R<(4294967296 * (top * 4294967296+next+1)) * R:=by
  rw [Nat.mul_assoc]
  exact Nat.lt_of_le_of_lt h.w1 (Nat.lt_trans h.wb (Nat.mul_lt_mul_of_pos_left h.b2 (by decide)))
 have h2:=Nat.lt_of_mul_lt_mul_right h1
 have:=h.n2
 have:=h.t2
 omega
theorem Guess.first (h:Guess two u2 top next W B R):W / B<=two / top:=by
 have hB:=h.bpos
 have ht:=h.t1
 rw [Nat.le_div_iff_mul_le (by omega)]
 have h1:W / B * B<=W:=Nat.div_mul_le_self W B
 have h2:W / B * top * 4294967296 * R<=W:=by
  refine Nat.le_trans ?_ h1
  have e:W / B * top * 4294967296 * R=W / B * ((top * 4294967296) * R):=by
   rw [Nat.mul_assoc,Nat.mul_assoc,Nat.mul_assoc]
  rw [e]
  refine Nat.mul_le_mul_left _ (Nat.le_trans (Nat.mul_le_mul_right _ (Nat.le_add_right _ next)) h.b1)
 have h3:=Nat.lt_of_mul_lt_mul_right (Nat.lt_of_le_of_lt h2 h.w2)
 have:=h.ul
 omega
theorem Guess.less (h:Guess two u2 top next W B R) {g rest:Nat} (hg:g * top+rest=two) (hc:4294967296<=g\/rest * 4294967296+u2<g * next):W / B<g:=by
 have hB:=h.bpos
 rw [Nat.div_lt_iff_lt_mul hB]
 rcases hc with hc|hc
 ·exact Nat.lt_of_lt_of_le h.wb (Nat.mul_le_mul_right _ hc)
 ·refine Nat.lt_of_lt_of_le h.w2 ?_
  have e:two * 4294967296+u2+1<=g * (top * 4294967296+next):=by
   rw [Nat.mul_add,<-Nat.mul_assoc,<-hg,Nat.add_mul]
   omega
  refine Nat.le_trans (Nat.mul_le_mul_right R e) ?_
  rw [Nat.mul_assoc]
  exact Nat.mul_le_mul_left _ h.b1
theorem Guess.most (h:Guess two u2 top next W B R) {g rest:Nat} (hg:g * top+rest=two) (h1:g<4294967296) (h2:g * next<=rest * 4294967296+u2):g<=W / B+1:=by
 have hB:=h.bpos
 have e:g * (top * 4294967296+next)<=two * 4294967296+u2:=by
  rw [Nat.mul_add,<-Nat.mul_assoc,<-hg,Nat.add_mul]
  omega
 have e1:g * B<=W+B:=by
  have a1:g * B<=g * ((top * 4294967296+next+1) * R):=Nat.mul_le_mul_left _ (Nat.le_of_lt h.b2)
  have a2:g * ((top * 4294967296+next+1) * R)=g * (top * 4294967296+next) * R+g * R:=by
   rw [<-Nat.mul_assoc,Nat.mul_add,Nat.mul_one,Nat.add_mul]
  have a3:g * (top * 4294967296+next) * R<=W:=Nat.le_trans (Nat.mul_le_mul_right R e) h.w1
  have a4:g * R<=B:=by
   refine Nat.le_trans (Nat.mul_le_mul_right R ?_) h.b1
   have:=h.t1
   omega
  omega
 have e2:(g - 1) * B<=W:=by
  rcases Nat.eq_zero_or_pos g with h0|h0
  ·rw [h0];simp
  ·obtain ⟨k,rfl⟩:∃ k,g=k+1:=⟨g - 1,by omega⟩
   rw [Nat.add_sub_cancel]
   rw [Nat.add_mul,Nat.one_mul] at e1
   omega
 have e3:=(Nat.le_div_iff_mul_le hB).2 e2
 omega
theorem Guess.small (h:Guess two u2 top next W B R) {g rest:Nat} (hg:g * top+rest=two) (hr:4294967296<=rest):g<4294967296:=by
 have h1:=h.two_lt
 have h2:=h.t1
 apply Classical.byContradiction
 intro hc
 have:4294967296 * top<=g * top:=Nat.mul_le_mul_right _ (by omega)
 rw [Nat.add_mul] at h1
 omega
theorem Guess.most2 (h:Guess two u2 top next W B R) {g rest:Nat} (hg:g * top+rest=two) (hr:4294967296<=rest):g<=W / B+1:=by
 have h1:=h.small hg hr
 refine h.most hg h1 ?_
 have h2:g * next<=4294967296 * 4294967296:=Nat.mul_le_mul (Nat.le_of_lt h1) (Nat.le_of_lt h.n2)
 have h3:4294967296 * 4294967296<=rest * 4294967296:=Nat.mul_le_mul_right _ hr
 omega
theorem Guess.gmax (h:Guess two u2 top next W B R) {g rest:Nat} (hg:g * top+rest=two):g<=4294967298:=by
 have h1:=h.two_lt
 have h2:=h.t1
 apply Classical.byContradiction
 intro hc
 have h3:4294967299 * top<=g * top:=Nat.mul_le_mul_right _ (by omega)
 have:=h.t2
 rw [Nat.add_mul] at h1
 omega
end Go.Proofs.YtldhmfkojaekfaaGreatDoor
