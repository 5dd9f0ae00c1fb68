/-
  Lemmas for the statement: plain laws, and what functions answer; the conditions stand in each.
-/
import Derived.Test.YtldhmfkojaekfaaGreatDoorShowBackAllPartE
set_option linter.unusedVariables false
set_option linter.unusedSimpArgs false
namespace Go.Proofs.YtldhmfkojaekfaaGreatDoor
open Go.RowKit Gx
set_option maxRecDepth 100000
theorem bval_drop (l:List Int) (m:Nat) (h:m<l.length):bval (l.drop m)=(l.getD m 0).toNat+4294967296 * bval (l.drop (m+1)):=by
 rw [List.drop_eq_getElem_cons h]
 simp [bval,List.getD,List.getElem?_eq_getElem h]
def ByWordPost (n d:Nat) (w:World) (e:Ending) (w':World):Prop :=
 ∃ ad cap,e=.returned (.tuple #[.slice ad (canon (n / d)).length cap,.int .u32 ((n % d:Nat):Int)])/\Rd .u32 w' ad cap (canon (n / d))/\Below w.heap.size w w'/\∀ a,ad=some a->w.heap.size<=a.block
theorem byWord_step (out xs:List Int) (m:Nat) (d r x:Int) (hd:1<=d) (hr:0<=r) (hx:0<=x) (hm:m<xs.length) (hl:out.length=xs.length) (ex:x=xs.getD m 0)
 (h:bval (out.drop (m+1)) * d.toNat+r.toNat=bval (xs.drop (m+1))) :
 bval ((out.set m ((r * 4294967296+x) / d)).drop m) * d.toNat+((r * 4294967296+x) % d).toNat=bval (xs.drop m):=by
 rw [bval_drop _ _ (by simp;omega),bval_drop xs m hm,<-ex,<-h]
 have e1:(out.set m ((r * 4294967296+x) / d)).drop (m+1)=out.drop (m+1):=by
  rw [List.drop_set_of_lt (by omega)]
 have e2:(out.set m ((r * 4294967296+x) / d)).getD m 0=(r * 4294967296+x) / d:=by
  simp [List.getD,List.getElem?_set,show m<out.length by omega]
 rw [e1,e2]
 generalize bval (out.drop (m+1))=p
 have hq:0<=(r * 4294967296+x) / d:=Int.ediv_nonneg (by omega) (by omega)
 have hm2:0<=(r * 4294967296+x) % d:=Int.emod_nonneg _ (by omega)
 have he:=Int.mul_ediv_add_emod (r * 4294967296+x) d
 generalize (r * 4294967296+x) / d=q at *
 generalize (r * 4294967296+x) % d=t at *
 obtain ⟨q,rfl⟩:=Int.eq_ofNat_of_zero_le hq
 obtain ⟨t,rfl⟩:=Int.eq_ofNat_of_zero_le hm2
 obtain ⟨r,rfl⟩:=Int.eq_ofNat_of_zero_le hr
 obtain ⟨x,rfl⟩:=Int.eq_ofNat_of_zero_le hx
 obtain ⟨d,rfl⟩:=Int.eq_ofNat_of_zero_le (show 0<=d by omega)
 simp only [Int.toNat_natCast]
 have he2:d * q+t=r * 4294967296+x:=by rw [<-Int.natCast_mul] at he;omega
 rw [Nat.add_mul,Nat.mul_add,Nat.mul_comm q d]
 have:4294967296 * p * d=4294967296 * (p * d):=Nat.mul_assoc _ _ _
 omega
set_option maxHeartbeats 1000000 in
theorem byWord_any (ad:Option Addr) (ca:Nat) (xs:List Int) (d:Int) (w:World) (h:Rd .u32 w ad ca xs) (hl:xs.length<=1048576) (hd:1<=d) (hd':d<=4294967295) :
 Calls Tryz.prog 180 #[.slice ad xs.length ca,.int .u32 d] w (ByWordPost (bval xs) d.toNat w):=by
 have hwx:=words_of_rd h
 have H:=Lib.hid h
 have HWX:=Lib.hid hwx
 clear h hwx
 go_enter Tryz.func180,Tryz.ntmps180
 obtain ⟨i0,hi,hz0,hz1,hz2⟩:=info_parts Tryz.info_u32
 have HI:=Lib.hid hi
 have HZ0:=Lib.hid hz0
 have HZ1:=Lib.hid hz1
 clear hi hz0 hz1
 go_wp2_with (first
  | (at_make;refine wpList_make_full _ rfl _ _ 169 rfl w.heap.size 145 i0 (.int .u32 0) 1 Tryz.underlying169 HI.out HZ0.out HZ1.out .i64 .i64 _ _ xs.length rfl rfl (by omega) (by omega) (by rw [hz2];omega) (by unfold maxLen;omega) (Nat.le_refl _) ?_))
 intro w1 hown hg
 have hb:Below w.heap.size w w1:=Gx.grown_below hg (Nat.le_refl _) (by simp)
 rw [madeCells_one] at hown
 clear hg hz2 HI HZ0 HZ1
 obtain ⟨n,hn⟩:∃ n,n=xs.length:=⟨_,rfl⟩
 obtain ⟨gb,hgb⟩:∃ gb,gb=w.heap.size:=⟨_,rfl⟩
 rw [<-hn] at hown hl ⊢
 rw [show Value.slice (some ⟨w.heap.size,0,none⟩) n n=Value.slice (some ⟨gb,0,none⟩) n n from by rw [hgb]] at hown ⊢
 have HN:=Lib.hid hn;clear hn
 have HGB:=Lib.hid hgb;clear hgb
 go_wp2
 go_loopw [7,8] (fun rv i wr=>∃ (m:Nat) (out:List Int) (r:Int),m<=n/\i=.int .i64 ((m:Int) - 1)/\rv=.int .u32 r/\0<=r/\r<d /\
  wr.ownsRow w.heap.size 145 1 (.slice (some ⟨gb,0,none⟩) n n) n (out.map (Value.int .u32))/\Hid (out.length=n)/\Words out/\Hid (bval (out.drop m) * d.toNat+r.toNat=bval (xs.drop m))/\Below w.heap.size w wr)
  (fun _ i _=>(intOf i+1).toNat)
 case atStart =>
  refine ⟨n,List.replicate n 0,0,Nat.le_refl _,rfl,rfl,by omega,by omega,hown,by simp [Hid],fun x hx=>?_,?_,hb⟩
  ·have:=(List.mem_replicate.1 hx).2;omega
  ·show _=_
   rw [List.drop_eq_nil_of_le (by simp),List.drop_eq_nil_of_le (by rw [HN.out];exact Nat.le_refl _)];simp [bval]
 case round =>
  clear hown hb
  obtain ⟨m,out,r,hm,rfl,rfl,hr0,hr1,hown1,hol,how,hval,hb1⟩:=hrel
  have HOW:=Lib.hid how
  clear how
  have hol':out.length=n:=hol.out
  by_cases hm0:m=0
  ·subst hm0
   have h1:=hval.out
   simp only [List.drop_zero] at h1
   have hdn:r.toNat<d.toNat:=by omega
   have hq:bval xs / d.toNat=bval out:=by
    rw [<-h1,Nat.mul_comm,Nat.mul_add_div (by omega),Nat.div_eq_of_lt hdn,Nat.add_zero]
   have hrm:bval xs % d.toNat=r.toNat:=by
    rw [<-h1,Nat.mul_comm,Nat.mul_add_mod,Nat.mod_eq_of_lt hdn]
   have HQ:=Lib.hid hq
   have HRM:=Lib.hid hrm
   obtain ⟨ad',cap',he,hrd,hfr⟩:=Gx.Rd.own' (k:=.u32) (xs:=out) hown1 (wf_words HOW.out)
   have HR:=Lib.hid hrd
   have HFR:=Lib.hid hfr
   clear hrd hfr hown1 h1 hq hrm hval hdn
   have hlo:out.length<=1048576:=by omega
   rw [he]
   clear he hol'
   go_wp2_with (first
    | (go_at_call 157;refine (trimmed_any ad' cap' out _ HR.out (by omega)).mono ?_;rintro e w' ⟨rfl,rfl⟩))
   go_ret2
   refine ⟨ad',cap',?_,?_,hb1,HFR.out⟩
   ·rw [HQ.out,HRM.out,show ((r.toNat:Nat):Int)=r from by omega];rfl
   ·rw [HQ.out];exact HR.out.trim
  ·have hb3:=hb1.size
   have hgb:w.heap.size<=gb:=by rw [HGB.out];exact Nat.le_refl _
   obtain ⟨b1,o1,rfl,-,hcx⟩:=(H.out.keep hb1).addr (by have:=HN.out;omega)
   have hx:=hcx (m - 1) (by have:=HN.out;omega)
   clear hcx
   obtain ⟨bx0,bx1⟩:=words_getD HWX.out (m - 1)
   obtain ⟨x,ex⟩:∃ x,x=xs.getD (m - 1) 0:=⟨_,rfl⟩
   rw [<-ex] at hx bx0 bx1
   have hcell:∃ y,wr.cell? ⟨gb,m - 1,none⟩=some (.int .u32 y):=by
    rw [hown1.cellAt (m - 1) (by omega)]
    exact ⟨out[m - 1],by simp [List.getElem?_eq_getElem (show m - 1<out.length by omega)]⟩
   obtain ⟨y,hcell⟩:=hcell
   have hfz:wr.frozen? ⟨gb,m - 1,none⟩=false:=hown1.frozenAt (m - 1)
   have e1:m - 1<xs.length:=by have:=HN.out;omega
   have e2:out.length=xs.length:=hol'.trans HN.out
   have e4:m - 1+1=m:=by omega
   have e3:bval (out.drop (m - 1+1)) * d.toNat+r.toNat=bval (xs.drop (m - 1+1)):=by rw [e4];exact hval.out
   have hT0:=byWord_step out xs (m - 1) d r x hd hr0 bx0 e1 e2 ex e3
   have hT:=Lib.hid hT0
   clear e1 e2 e3 e4 hT0
   clear ex
   have hz0:0<=r * 4294967296+x:=by omega
   have hq0:0<=(r * 4294967296+x) / d:=Int.ediv_nonneg hz0 (by omega)
   have hq1:(r * 4294967296+x) / d<=4294967295:=by
    have:(r * 4294967296+x) / d<4294967296:=Int.ediv_lt_of_lt_mul (by omega) (by
     have:(r+1) * 4294967296<=d * 4294967296:=Int.mul_le_mul_of_nonneg_right (by omega) (by decide)
     rw [Int.mul_comm 4294967296 d];omega)
    omega
   have ht0:0<=(r * 4294967296+x) % d:=Int.emod_nonneg _ (by omega)
   have ht1:(r * 4294967296+x) % d<d:=Int.emod_lt_of_pos _ (by omega)
   have HC:=Lib.hid (div32_any r x d wr hr0 bx0 bx1 hd' hr1)
   unfold DivPost at HC
   clear hz0
   obtain ⟨q,hqe⟩:∃ q,q=(r * 4294967296+x) / d:=⟨_,rfl⟩
   obtain ⟨t,hte⟩:∃ t,t=(r * 4294967296+x) % d:=⟨_,rfl⟩
   rw [<-hqe] at hq0 hq1
   rw [<-hte] at ht0 ht1
   rw [<-hqe,<-hte] at HC hT
   clear hqe hte
   have hst:=hown1.stored (m - 1) (.int .u32 q)
   have HBN:=Lib.hid (hb1.grown hst.2 hb3 (fun q e=>by cases e;exact hgb))
   have HON:Hid ((wr.setCell ⟨gb,m - 1,none⟩ (.int .u32 q)).ownsRow w.heap.size 145 1 (.slice (some ⟨gb,0,none⟩) n n) n ((out.set (m - 1) q).map (Value.int .u32))):=by
    show World.ownsRow _ _ _ _ _ _ _
    rw [List.map_set];exact hst.1
   have hw3:=Lib.hid (words_set HOW.out (m - 1) q (by omega) (by omega))
   have hl3:Hid ((out.set (m - 1) q).length=n):=by show _=_;rw [List.length_set];exact hol'
   have hi0:(0:Int)<=(m:Int) - 1:=by omega
   have hi1:(m:Int) - 1<(n:Int):=by omega
   have hi3:((m:Int) - 1).toNat=m - 1:=by omega
   clear hst hown1 hol' hb1
   go_wp2_with (first
    | (go_at_call 195;refine HC.out.mono ?_;rintro e w' ⟨rfl,nq,rfl⟩))
   go_roundw
   case rel =>
    refine ⟨m - 1,out.set (m - 1) q,t,by omega,?_,rfl,by omega,by omega,?_,hl3,hw3.out,hT,?_⟩
    ·congr 1<;>omega
    ·exact HON.out
    ·exact HBN.out.trans (Gx.drewN_below _ _ _)
   case measure=>simp [intOf];omega
theorem two32 (n:Nat) (h:n<=32):2 ^ n * 2 ^ (32 - n)=4294967296:=by
 rw [<-Nat.pow_add,show n+(32 - n)=32 by omega]
theorem left_word (n x low:Nat) (hn:n<=31) (hx:x<4294967296) (hl:low<2 ^ n) :
 bits BinOp.or IntKind.u32 ((x:Int) * 2 ^ n % 4294967296) (low:Int)=((x * 2 ^ n % 4294967296+low:Nat):Int) /\
 x / 2 ^ (32 - n)<2 ^ n/\x * 2 ^ n % 4294967296+low<4294967296/\x * 2 ^ n % 4294967296+low+4294967296 * (x / 2 ^ (32 - n))=x * 2 ^ n+low:=by
 have h2:=two32 n (by omega)
 have hP:0<2 ^ n:=Nat.two_pow_pos n
 have hR:0<2 ^ (32 - n):=Nat.two_pow_pos _
 have hPle:2 ^ n<=2147483648:=by
  have:=Nat.pow_le_pow_right (show 0<2 by decide) hn
  exact this
 have hshl:x % 2 ^ (32 - n) * 2 ^ n=x * 2 ^ n % 4294967296:=by
  rw [<-h2,Nat.mul_comm (2 ^ n) (2 ^ (32 - n)),Nat.mul_mod_mul_right]
 have hor:=Nat.shiftLeft_add_eq_or_of_lt (b:=low) (i:=n) hl (x % 2 ^ (32 - n))
 rw [Nat.shiftLeft_eq,hshl] at hor
 have hm:x % 2 ^ (32 - n)+1<=2 ^ (32 - n):=Nat.mod_lt _ hR
 have hs:x * 2 ^ n % 4294967296+low<4294967296:=by
  have h3:=Nat.mul_le_mul_right (2 ^ n) hm
  rw [Nat.add_mul,Nat.one_mul,Nat.mul_comm (2 ^ (32 - n)) (2 ^ n),h2,hshl] at h3
  omega
 have hd:x / 2 ^ (32 - n)<2 ^ n:=by
  rw [Nat.div_lt_iff_lt_mul hR,h2];exact hx
 refine ⟨?_,hd,hs,?_⟩
 ·have e:(x:Int) * 2 ^ n % 4294967296=((x * 2 ^ n % 4294967296:Nat):Int):=by
   rw [Int.natCast_emod,Int.natCast_mul,Int.natCast_pow];rfl
  have hmw:x * 2 ^ n % 4294967296<4294967296:=Nat.mod_lt _ (by decide)
  rw [e,Go.u32_or _ _ (Int.natCast_nonneg _) (by omega) (Int.natCast_nonneg _) (by omega)]
  rw [Int.toNat_natCast,Int.toNat_natCast,hor]
 ·have h4:=Nat.div_add_mod x (2 ^ (32 - n))
  have h5:x * 2 ^ n=4294967296 * (x / 2 ^ (32 - n))+x % 2 ^ (32 - n) * 2 ^ n:=by
   conv=>lhs;rw [<-h4]
   rw [Nat.add_mul,Nat.mul_comm (2 ^ (32 - n)) (x / 2 ^ (32 - n)),Nat.mul_assoc,Nat.mul_comm (2 ^ (32 - n)) (2 ^ n),h2,Nat.mul_comm (x / 2 ^ (32 - n))]
  rw [h5,hshl];omega
theorem bval_split (xs:List Int) (j:Nat) (hj:j<=xs.length):bval xs=bval (xs.take j)+4294967296 ^ j * bval (xs.drop j):=by
 conv=>lhs;rw [<-List.take_append_drop j xs]
 rw [bval_append,List.length_take,Nat.min_eq_left hj]
theorem bval_shr (xs:List Int) (hw:Words xs) (j:Nat) (hj:j<=xs.length):bval xs / 4294967296 ^ j=bval (xs.drop j):=by
 have hlt:=bval_lt (xs.take j) (fun x hx=>hw x (List.mem_of_mem_take hx))
 rw [List.length_take,Nat.min_eq_left hj] at hlt
 have hp:0<4294967296 ^ j:=Nat.pow_pos (by decide)
 rw [bval_split xs j hj,Nat.add_mul_div_left _ _ hp,Nat.div_eq_of_lt hlt,Nat.zero_add]
theorem bval_digits:∀ (out:List Int) (v:Nat),v<4294967296 ^ out.length->(∀ j,j<out.length->(out.getD j 0).toNat=v / 4294967296 ^ j % 4294967296)->bval out=v
 | [],v,h,_=>by simp at h;simp [bval,h]
 | x::l,v,h,hd=>by
   have h0:=hd 0 (by simp)
   simp only [List.getD_cons_zero,Nat.pow_zero,Nat.div_one] at h0
   have ih:=bval_digits l (v / 4294967296) (by rw [List.length_cons,Nat.pow_succ] at h;exact Nat.div_lt_of_lt_mul (by rw [Nat.mul_comm];exact h)) (fun j hj=>by
    have:=hd (j+1) (by simpa using hj)
    simp only [List.getD_cons_succ] at this
    rw [this,Nat.pow_succ,Nat.div_div_eq_div_mul,Nat.mul_comm])
   rw [bval,ih,h0]
   omega
theorem right_word (n x t:Nat) (hn:n<=31) (hx:x<4294967296) :
 (x+4294967296 * t) / 2 ^ n % 4294967296=x / 2 ^ n+t * 2 ^ (32 - n) % 4294967296/\x / 2 ^ n+t * 2 ^ (32 - n) % 4294967296<4294967296:=by
 have h2:=two32 n (by omega)
 have hP:0<2 ^ n:=Nat.two_pow_pos n
 have hR:0<2 ^ (32 - n):=Nat.two_pow_pos _
 have hq:x / 2 ^ n<2 ^ (32 - n):=by rw [Nat.div_lt_iff_lt_mul hP,Nat.mul_comm,h2];exact hx
 have e1:(x+4294967296 * t) / 2 ^ n=x / 2 ^ n+t * 2 ^ (32 - n):=by
  rw [<-h2,Nat.mul_assoc,Nat.add_mul_div_left _ _ hP,Nat.mul_comm t]
 have e2:t * 2 ^ (32 - n) % 4294967296=t % 2 ^ n * 2 ^ (32 - n):=by
  rw [<-h2,Nat.mul_mod_mul_right]
 have hm:t % 2 ^ n+1<=2 ^ n:=Nat.mod_lt _ hP
 have h3:x / 2 ^ n+t * 2 ^ (32 - n) % 4294967296<4294967296:=by
  rw [e2]
  have h4:=Nat.mul_le_mul_right (2 ^ (32 - n)) hm
  rw [Nat.add_mul,Nat.one_mul,h2] at h4
  omega
 refine ⟨?_,h3⟩
 rw [e1]
 have hxl:x / 2 ^ n<4294967296:=Nat.lt_of_le_of_lt (Nat.div_le_self _ _) hx
 conv=>rhs;rw [<-Nat.mod_eq_of_lt h3]
 rw [Nat.add_mod_mod]
theorem mod_of_next (n y r:Nat) (hn:n<=31):(y+4294967296 * r) * 2 ^ (32 - n) % 4294967296=y * 2 ^ (32 - n) % 4294967296:=by
 rw [Nat.add_mul,Nat.mul_assoc,Nat.add_mul_mod_self_left]
theorem right_wrap (n y:Nat):(y:Int) * 2 ^ (32 - n) % 18446744073709551616 % 4294967296=((y * 2 ^ (32 - n) % 4294967296:Nat):Int):=by
 have e:(y:Int) * 2 ^ (32 - n)=((y * 2 ^ (32 - n):Nat):Int):=by rw [Int.natCast_mul,Int.natCast_pow];rfl
 rw [e]
 generalize y * 2 ^ (32 - n)=t
 omega
theorem right_or (n x y:Nat) (hn:n<=31) (hx:x<4294967296) :
 bits BinOp.or IntKind.u32 ((x / 2 ^ n:Nat):Int) ((y * 2 ^ (32 - n) % 4294967296:Nat):Int)=((x / 2 ^ n+y * 2 ^ (32 - n) % 4294967296:Nat):Int):=by
 have h2:=two32 n (by omega)
 have hP:0<2 ^ n:=Nat.two_pow_pos n
 have hq:x / 2 ^ n<2 ^ (32 - n):=by rw [Nat.div_lt_iff_lt_mul hP,Nat.mul_comm,h2];exact hx
 have e2:y * 2 ^ (32 - n) % 4294967296=y % 2 ^ n * 2 ^ (32 - n):=by
  rw [<-h2,Nat.mul_mod_mul_right]
 have hxl:x / 2 ^ n<4294967296:=Nat.lt_of_le_of_lt (Nat.div_le_self _ _) hx
 have hyl:y * 2 ^ (32 - n) % 4294967296<4294967296:=Nat.mod_lt _ (by decide)
 have hor:=Nat.shiftLeft_add_eq_or_of_lt (b:=x / 2 ^ n) (i:=32 - n) hq (y % 2 ^ n)
 rw [Nat.shiftLeft_eq,<-e2] at hor
 rw [Go.u32_or _ _ (Int.natCast_nonneg _) (by omega) (Int.natCast_nonneg _) (by omega)]
 rw [Int.toNat_natCast,Int.toNat_natCast,Nat.or_comm,<-hor,Nat.add_comm]
theorem right_digit (xs:List Int) (hw:Words xs) (n k x:Nat) (hn:n<=31) (hk:k<xs.length) (ex:(x:Int)=xs.getD k 0) :
 bval xs / 2 ^ n / 4294967296 ^ k % 4294967296=x / 2 ^ n+bval (xs.drop (k+1)) * 2 ^ (32 - n) % 4294967296/\x / 2 ^ n+bval (xs.drop (k+1)) * 2 ^ (32 - n) % 4294967296<4294967296:=by
 obtain ⟨b0,b1⟩:=words_getD hw k
 have hx:x<4294967296:=by omega
 obtain ⟨e1,e2⟩:=right_word n x (bval (xs.drop (k+1))) hn hx
 refine ⟨?_,e2⟩
 rw [<-e1,Nat.div_div_eq_div_mul,Nat.mul_comm (2 ^ n),<-Nat.div_div_eq_div_mul,bval_shr xs hw k (by omega),bval_drop xs k hk,<-ex,Int.toNat_natCast]
theorem right_digit_last (xs:List Int) (hw:Words xs) (n k x:Nat) (hn:n<=31) (hk:k+1=xs.length) (ex:(x:Int)=xs.getD k 0) :
 bval xs / 2 ^ n / 4294967296 ^ k % 4294967296=x / 2 ^ n:=by
 rw [(right_digit xs hw n k x hn (by omega) ex).1,List.drop_eq_nil_of_le (by omega)]
 simp [bval]
theorem right_digit_next (xs:List Int) (hw:Words xs) (n k x y:Nat) (hn:n<=31) (hk:k+1<xs.length) (ex:(x:Int)=xs.getD k 0) (ey:(y:Int)=xs.getD (k+1) 0) :
 bval xs / 2 ^ n / 4294967296 ^ k % 4294967296=x / 2 ^ n+y * 2 ^ (32 - n) % 4294967296/\x / 2 ^ n+y * 2 ^ (32 - n) % 4294967296<4294967296:=by
 obtain ⟨e1,e2⟩:=right_digit xs hw n k x hn (by omega) ex
 rw [bval_drop xs (k+1) hk,<-ey,Int.toNat_natCast,mod_of_next n y _ hn] at e1 e2
 exact ⟨e1,e2⟩
theorem digits_set (out:List Int) (k m:Nat) (v:Int) (D:Nat->Nat) (hl:out.length=m) (hk:k<m) (h:∀ j,j<k->(out.getD j 0).toNat=D j) (hv:v.toNat=D k) :
 ∀ j,j<k+1->((out.set k v).getD j 0).toNat=D j:=by
 intro j hj
 by_cases hjk:j=k
 ·subst hjk
  simp [List.getD,List.getElem?_set,show j<out.length by omega,hv]
 ·rw [getD_set_ne _ _ _ _ (fun e=>hjk e.symm)]
  exact h j (by omega)
theorem right_end (xs out:List Int) (hw:Words xs) (n:Nat) (hl:out.length=xs.length) (h:∀ j,j<xs.length->(out.getD j 0).toNat=bval xs / 2 ^ n / 4294967296 ^ j % 4294967296):bval out=bval xs / 2 ^ n:=by
 refine bval_digits out _ ?_ (fun j hj=>h j (by omega))
 rw [hl]
 exact Nat.lt_of_le_of_lt (Nat.div_le_self _ _) (bval_lt xs hw)
def win (l:List Int) (j k:Nat):Nat:=bval ((l.drop j).take k)
theorem win_split (l:List Int) (j k:Nat) (h:j+k<=l.length):bval l=bval (l.take j)+4294967296 ^ j * win l j k+4294967296 ^ (j+k) * bval (l.drop (j+k)):=by
 have h1:=bval_split l j (by omega)
 have h2:=bval_split (l.drop j) k (by simp;omega)
 rw [h1,h2,List.drop_drop,Nat.pow_add,Nat.mul_add,<-Nat.mul_assoc,<-Nat.add_assoc]
 rfl
theorem win_lt (l:List Int) (hw:Words l) (j k:Nat) (h:j+k<=l.length):win l j k<4294967296 ^ k:=by
 have:=bval_lt ((l.drop j).take k) (fun x hx=>hw x (List.mem_of_mem_drop (List.mem_of_mem_take hx)))
 have e:((l.drop j).take k).length=k:=by simp;omega
 rwa [e] at this
structure SameOut (us out:List Int) (j k:Nat):Prop where
 len:out.length=us.length
 lo:out.take j=us.take j
 hi:out.drop (j+k)=us.drop (j+k)
theorem SameOut.refl (us:List Int) (j k:Nat):SameOut us us j k:=⟨rfl,rfl,rfl⟩
theorem SameOut.trans {us vs ws:List Int} {j k:Nat} (h:SameOut us vs j k) (g:SameOut vs ws j k):SameOut us ws j k:=⟨g.len.trans h.len,g.lo.trans h.lo,g.hi.trans h.hi⟩
theorem SameOut.set {us out:List Int} {j k:Nat} (h:SameOut us out j k) (i:Nat) (x:Int) (h1:j<=i) (h2:i<j+k):SameOut us (out.set i x) j k :=
 ⟨by rw [List.length_set];exact h.len,by rw [List.take_set_of_le h1];exact h.lo,by rw [List.drop_set_of_lt h2];exact h.hi⟩
theorem win_of (us out:List Int) (j k a b:Nat) (hs:SameOut us out j k) (hl:j+k<=us.length) (h:bval out+4294967296 ^ j * a=bval us+4294967296 ^ j * b):win out j k+a=win us j k+b:=by
 rw [win_split us j k hl,win_split out j k (by rw [hs.len];exact hl),hs.lo,hs.hi] at h
 have hp:0<4294967296 ^ j:=Nat.pow_pos (by decide)
 have h2:4294967296 ^ j * (win out j k+a)=4294967296 ^ j * (win us j k+b):=by
  rw [Nat.mul_add,Nat.mul_add];omega
 exact Nat.eq_of_mul_eq_mul_left hp h2
theorem word_dm (s:Int) (h:0<=s):0<=s % 4294967296/\0<=s / 4294967296/\s % 4294967296+4294967296 * (s / 4294967296)=s:=by omega
theorem word_brw (x d bo:Int):0<=(x - d - bo) % 4294967296/\0<=borrowOf x d bo/\((0<=x/\x<=4294967295/\0<=d/\d<=4294967295/\0<=bo/\bo<=1)->(x - d - bo) % 4294967296+d+bo=x+4294967296 * borrowOf x d bo):=by
 unfold borrowOf
 refine ⟨by omega,by split<;>omega,fun ⟨_,_,_,_,_,_⟩=>?_⟩
 split<;>omega
theorem word_lt (s:Int):s % 4294967296<=4294967295:=by omega
theorem take_step (out vs:List Int) (X j i:Nat) (g x y c bo:Int) (hg:0<=g) (hx:0<=x) (hx1:x<=4294967295) (hy:0<=y) (hc:0<=c) (hb:0<=bo) (hb1:bo<=1) (hi:j+i<out.length) (ex:x=out.getD (j+i) 0) (ey:y=vs.getD i 0)
 (h:bval out+4294967296 ^ j * (g.toNat * bval (vs.take i))=X+4294967296 ^ (j+i) * (c.toNat+bo.toNat)) :
 bval (out.set (j+i) ((x - (c+g * y) % 4294967296 - bo) % 4294967296))+4294967296 ^ j * (g.toNat * bval (vs.take (i+1))) =
  X+4294967296 ^ (j+(i+1)) * (((c+g * y) / 4294967296).toNat+(borrowOf x ((c+g * y) % 4294967296) bo).toNat):=by
 have hs:=bval_set out (j+i) ((x - (c+g * y) % 4294967296 - bo) % 4294967296) hi
 rw [<-ex] at hs
 rw [bval_take_succ,<-ey]
 obtain ⟨P,hP⟩:∃ P,P=4294967296 ^ (j+i):=⟨_,rfl⟩
 have e1:4294967296 ^ (j+(i+1))=P * 4294967296:=by rw [hP,<-Nat.add_assoc,Nat.pow_succ]
 have e2:4294967296 ^ j * (g.toNat * (bval (vs.take i)+4294967296 ^ i * y.toNat))=4294967296 ^ j * (g.toNat * bval (vs.take i))+P * (g.toNat * y.toNat):=by
  rw [hP,Nat.mul_add,Nat.mul_add,Nat.pow_add]
  congr 1
  rw [Nat.mul_assoc]
  congr 1
  rw [<-Nat.mul_assoc,Nat.mul_comm g.toNat,Nat.mul_assoc]
 rw [e1,e2]
 rw [<-hP] at h hs
 have egy:(g * y).toNat=g.toNat * y.toNat:=by
  obtain ⟨a,rfl⟩:=Int.eq_ofNat_of_zero_le hg
  obtain ⟨b,rfl⟩:=Int.eq_ofNat_of_zero_le hy
  simp only [Int.toNat_natCast]
  rw [<-Int.natCast_mul,Int.toNat_natCast]
 have hgy:0<=g * y:=Int.mul_nonneg hg hy
 rw [<-egy]
 generalize g * y=z at *
 obtain ⟨hd0,hq0,hdq⟩:=word_dm (c+z) (by omega)
 have hd1:=word_lt (c+z)
 generalize (c+z) % 4294967296=d at *
 generalize (c+z) / 4294967296=cr at *
 obtain ⟨hn0,hb0,hnb'⟩:=word_brw x d bo
 have hnb:=hnb' ⟨hx,hx1,hd0,hd1,hb,hb1⟩
 clear hnb'
 generalize (x - d - bo) % 4294967296=nw at *
 generalize borrowOf x d bo=b2 at *
 have e3:nw.toNat+z.toNat+c.toNat+bo.toNat=x.toNat+4294967296 * (cr.toNat+b2.toNat):=by omega
 have e4:P * nw.toNat+P * z.toNat+P * (c.toNat+bo.toNat)=P * x.toNat+P * 4294967296 * (cr.toNat+b2.toNat):=by
  rw [Nat.mul_assoc,<-Nat.mul_add,<-Nat.mul_add,<-Nat.mul_add]
  congr 1
  omega
 clear e3 hdq hnb
 generalize 4294967296 ^ j * (g.toNat * bval (vs.take i))=t1 at *
 generalize P * 4294967296 * (cr.toNat+b2.toNat)=t2 at *
 generalize P * (c.toNat+bo.toNat)=t3 at *
 generalize P * nw.toNat=t4 at *
 generalize P * z.toNat=t5 at *
 generalize P * x.toNat=t6 at *
 omega
theorem give_step (out vs:List Int) (X j i:Nat) (x y c:Int) (hx:0<=x) (hy:0<=y) (hc:0<=c) (hi:j+i<out.length) (ex:x=out.getD (j+i) 0) (ey:y=vs.getD i 0)
 (h:bval out+4294967296 ^ (j+i) * c.toNat=X+4294967296 ^ j * bval (vs.take i)) :
 bval (out.set (j+i) ((x+y+c) % 4294967296))+4294967296 ^ (j+(i+1)) * ((x+y+c) / 4294967296).toNat=X+4294967296 ^ j * bval (vs.take (i+1)):=by
 have hs:=bval_set out (j+i) ((x+y+c) % 4294967296) hi
 rw [<-ex] at hs
 rw [bval_take_succ,<-ey]
 obtain ⟨P,hP⟩:∃ P,P=4294967296 ^ (j+i):=⟨_,rfl⟩
 have e1:4294967296 ^ (j+(i+1))=P * 4294967296:=by rw [hP,<-Nat.add_assoc,Nat.pow_succ]
 have e2:4294967296 ^ j * (bval (vs.take i)+4294967296 ^ i * y.toNat)=4294967296 ^ j * bval (vs.take i)+P * y.toNat:=by
  rw [hP,Nat.mul_add,Nat.pow_add,Nat.mul_assoc]
 rw [e1,e2]
 rw [<-hP] at h hs
 obtain ⟨hd0,hq0,hdq⟩:=word_dm (x+y+c) (by omega)
 generalize (x+y+c) % 4294967296=d at *
 generalize (x+y+c) / 4294967296=cr at *
 have e4:P * d.toNat+P * 4294967296 * cr.toNat=P * x.toNat+P * y.toNat+P * c.toNat:=by
  rw [Nat.mul_assoc,<-Nat.mul_add,<-Nat.mul_add,<-Nat.mul_add]
  congr 1
  omega
 clear hdq
 generalize 4294967296 ^ j * bval (vs.take i)=t1 at *
 generalize P * 4294967296 * cr.toNat=t2 at *
 generalize P * c.toNat=t3 at *
 generalize P * d.toNat=t4 at *
 generalize P * y.toNat=t5 at *
 generalize P * x.toNat=t6 at *
 omega
structure Guess (two u2 top next W B R:Nat):Prop where
 b1:(top * 4294967296+next) * R<=B
 b2:B<(top * 4294967296+next+1) * R
 t1:2147483648<=top
 t2:top<4294967296
 n2:next<4294967296
 ul:u2<4294967296
 w1:(two * 4294967296+u2) * R<=W
 w2:W<(two * 4294967296+u2+1) * R
 wb:W<4294967296 * B
variable {two u2 top next W B R:Nat}
theorem Guess.r (h:Guess two u2 top next W B R):0<R:=by
 rcases Nat.eq_zero_or_pos R with h0|h0
 ·have:=h.b2;rw [h0] at this;simp at this
 ·exact h0
theorem Guess.bpos (h:Guess two u2 top next W B R):0<B:=by
 have:=h.wb
 rcases Nat.eq_zero_or_pos B with h0|h0
 ·rw [h0] at this;simp at this
 ·exact h0
theorem Guess.two_lt (h:Guess two u2 top next W B R):two<(top+1) * 4294967296:=by
 have h1:(two * 4294967296+u2) * R<(4294967296 * (top * 4294967296+next+1)) * R:=by
  rw [Nat.mul_assoc]
  exact Nat.lt_of_le_of_lt h.w1 (Nat.lt_trans h.wb (Nat.mul_lt_mul_of_pos_left h.b2 (by decide)))
 have h2:=Nat.lt_of_mul_lt_mul_right h1
 have:=h.n2
 have:=h.t2
 omega
theorem Guess.first (h:Guess two u2 top next W B R):W / B<=two / top:=by
 have hB:=h.bpos
 have ht:=h.t1
 rw [Nat.le_div_iff_mul_le (by omega)]
 have h1:W / B * B<=W:=Nat.div_mul_le_self W B
 have h2:W / B * top * 4294967296 * R<=W:=by
  refine Nat.le_trans ?_ h1
  have e:W / B * top * 4294967296 * R=W / B * ((top * 4294967296) * R):=by
   rw [Nat.mul_assoc,Nat.mul_assoc,Nat.mul_assoc]
  rw [e]
  refine Nat.mul_le_mul_left _ (Nat.le_trans (Nat.mul_le_mul_right _ (Nat.le_add_right _ next)) h.b1)
 have h3:=Nat.lt_of_mul_lt_mul_right (Nat.lt_of_le_of_lt h2 h.w2)
 have:=h.ul
 omega
theorem Guess.less (h:Guess two u2 top next W B R) {g rest:Nat} (hg:g * top+rest=two) (hc:4294967296<=g\/rest * 4294967296+u2<g * next):W / B<g:=by
 have hB:=h.bpos
 rw [Nat.div_lt_iff_lt_mul hB]
 rcases hc with hc|hc
 ·exact Nat.lt_of_lt_of_le h.wb (Nat.mul_le_mul_right _ hc)
 ·refine Nat.lt_of_lt_of_le h.w2 ?_
  have e:two * 4294967296+u2+1<=g * (top * 4294967296+next):=by
   rw [Nat.mul_add,<-Nat.mul_assoc,<-hg,Nat.add_mul]
   omega
  refine Nat.le_trans (Nat.mul_le_mul_right R e) ?_
  rw [Nat.mul_assoc]
  exact Nat.mul_le_mul_left _ h.b1
theorem Guess.most (h:Guess two u2 top next W B R) {g rest:Nat} (hg:g * top+rest=two) (h1:g<4294967296) (h2:g * next<=rest * 4294967296+u2):g<=W / B+1:=by
 have hB:=h.bpos
 have e:g * (top * 4294967296+next)<=two * 4294967296+u2:=by
  rw [Nat.mul_add,<-Nat.mul_assoc,<-hg,Nat.add_mul]
  omega
 have e1:g * B<=W+B:=by
  have a1:g * B<=g * ((top * 4294967296+next+1) * R):=Nat.mul_le_mul_left _ (Nat.le_of_lt h.b2)
  have a2:g * ((top * 4294967296+next+1) * R)=g * (top * 4294967296+next) * R+g * R:=by
   rw [<-Nat.mul_assoc,Nat.mul_add,Nat.mul_one,Nat.add_mul]
  have a3:g * (top * 4294967296+next) * R<=W:=Nat.le_trans (Nat.mul_le_mul_right R e) h.w1
  have a4:g * R<=B:=by
   refine Nat.le_trans (Nat.mul_le_mul_right R ?_) h.b1
   have:=h.t1
   omega
  omega
 have e2:(g - 1) * B<=W:=by
  rcases Nat.eq_zero_or_pos g with h0|h0
  ·rw [h0];simp
  ·obtain ⟨k,rfl⟩:∃ k,g=k+1:=⟨g - 1,by omega⟩
   rw [Nat.add_sub_cancel]
   rw [Nat.add_mul,Nat.one_mul] at e1
   omega
 have e3:=(Nat.le_div_iff_mul_le hB).2 e2
 omega
theorem Guess.small (h:Guess two u2 top next W B R) {g rest:Nat} (hg:g * top+rest=two) (hr:4294967296<=rest):g<4294967296:=by
 have h1:=h.two_lt
 have h2:=h.t1
 apply Classical.byContradiction
 intro hc
 have:4294967296 * top<=g * top:=Nat.mul_le_mul_right _ (by omega)
 rw [Nat.add_mul] at h1
 omega
theorem Guess.most2 (h:Guess two u2 top next W B R) {g rest:Nat} (hg:g * top+rest=two) (hr:4294967296<=rest):g<=W / B+1:=by
 have h1:=h.small hg hr
 refine h.most hg h1 ?_
 have h2:g * next<=4294967296 * 4294967296:=Nat.mul_le_mul (Nat.le_of_lt h1) (Nat.le_of_lt h.n2)
 have h3:4294967296 * 4294967296<=rest * 4294967296:=Nat.mul_le_mul_right _ hr
 omega
theorem Guess.gmax (h:Guess two u2 top next W B R) {g rest:Nat} (hg:g * top+rest=two):g<=4294967298:=by
 have h1:=h.two_lt
 have h2:=h.t1
 apply Classical.byContradiction
 intro hc
 have h3:4294967299 * top<=g * top:=Nat.mul_le_mul_right _ (by omega)
 have:=h.t2
 rw [Nat.add_mul] at h1
 omega
end Go.Proofs.YtldhmfkojaekfaaGreatDoor
namespace Go.Proofs.YtldhmfkojaekfaaGreatDoor
open Go.RowKit Gx
theorem bval_drop1 (l:List Int) (m:Nat) (h:m<l.length):bval (l.drop m)=(l.getD m 0).toNat+4294967296 * bval (l.drop (m+1)):=by
 rw [List.drop_eq_getElem_cons h]
 simp [bval,List.getD,List.getElem?_eq_getElem h]
structure LInv (A B nv la k:Nat) (us qs:List Int) (j:Nat):Prop where
 wu:Words us
 wq:Words qs
 lu:us.length=la+1
 lq:qs.length=k
 tot:bval us+B * (4294967296 ^ j * bval (qs.drop j))=A
 hi:bval (us.drop j)<B
structure LDiv (B nv:Nat) (vs:List Int):Prop where
 wv:Words vs
 lv:vs.length=nv
 two:2<=nv
 val:bval vs=B
 top:2147483648<=(vs.getD (nv - 1) 0).toNat
theorem LDiv.lt {B nv:Nat} {vs:List Int} (h:LDiv B nv vs):B<4294967296 ^ nv:=by
 rw [<-h.val,<-h.lv];exact bval_lt vs h.wv
theorem pow_two (n:Nat) (h:2<=n):4294967296 ^ (n - 1)=4294967296 ^ (n - 2) * 4294967296/\4294967296 ^ n=4294967296 ^ (n - 2) * 4294967296 * 4294967296:=by
 obtain ⟨k,rfl⟩:∃ k,n=k+2:=⟨n - 2,by omega⟩
 simp only [Nat.add_sub_cancel,show k+2 - 1=k+1 by omega,Nat.pow_succ]
 exact ⟨trivial,trivial⟩
theorem bval_take2 (l:List Int) (n:Nat) (h:2<=n) (hl:n<=l.length):bval (l.take n)=bval (l.take (n - 2))+4294967296 ^ (n - 2) * ((l.getD (n - 2) 0).toNat+4294967296 * (l.getD (n - 1) 0).toNat):=by
 have h1:=bval_take_succ l (n - 1)
 have h2:=bval_take_succ l (n - 2)
 rw [show n - 1+1=n by omega] at h1
 rw [show n - 2+1=n - 1 by omega] at h2
 rw [h1,h2,(pow_two n h).1,Nat.mul_add,Nat.add_assoc,Nat.mul_assoc]
theorem getD_drop (l:List Int) (j i:Nat):(l.drop j).getD i 0=l.getD (j+i) 0:=by simp [List.getD]
theorem round_win {A B nv la k j:Nat} {us qs vs:List Int} (hd:LDiv B nv vs) (h:LInv A B nv la k us qs (j+1)) (hj:j+nv<=la) :
 win us j (nv+1)=bval (us.drop j)/\win us j (nv+1)<4294967296 * B/\bval (us.drop (j+(nv+1)))=0:=by
 have h1:=bval_drop1 us j (by have:=h.lu;omega)
 have h2:=words_getD h.wu j
 have h3:=h.hi
 have h4:=hd.lt
 have h5:bval (us.drop j)<4294967296 * B:=by omega
 have h6:=bval_split (us.drop j) (nv+1) (by have:=h.lu;simp;omega)
 rw [List.drop_drop] at h6
 have h7:4294967296 * B<4294967296 ^ (nv+1):=by rw [Nat.pow_succ];omega
 have h8:bval (us.drop (j+(nv+1)))=0:=by
  rcases Nat.eq_zero_or_pos (bval (us.drop (j+(nv+1)))) with h0|h0
  ·exact h0
  ·have:4294967296 ^ (nv+1) * 1<=4294967296 ^ (nv+1) * bval (us.drop (j+(nv+1))):=Nat.mul_le_mul_left _ h0
   omega
 rw [h8,Nat.mul_zero,Nat.add_zero] at h6
 exact ⟨h6.symm,by rw [show win us j (nv+1)=bval (us.drop j) from h6.symm];exact h5,h8⟩
theorem round_guess {A B nv la k j:Nat} {us qs vs:List Int} (hd:LDiv B nv vs) (h:LInv A B nv la k us qs (j+1)) (hj:j+nv<=la) :
 Guess ((us.getD (j+nv) 0).toNat * 4294967296+(us.getD (j+nv - 1) 0).toNat) (us.getD (j+nv - 2) 0).toNat (vs.getD (nv - 1) 0).toNat (vs.getD (nv - 2) 0).toNat (win us j (nv+1)) B (4294967296 ^ (nv - 2)):=by
 have hn:=hd.two
 have t1:=words_getD hd.wv (nv - 1)
 have t2:=words_getD hd.wv (nv - 2)
 have t3:=words_getD h.wu (j+nv - 2)
 have hlu:=h.lu
 have hv:=bval_take2 vs nv hn (by rw [hd.lv];exact Nat.le_refl _)
 rw [List.take_of_length_le (by rw [hd.lv];exact Nat.le_refl _),hd.val] at hv
 have hvl:=bval_lt (vs.take (nv - 2)) (fun x hx=>hd.wv x (List.mem_of_mem_take hx))
 rw [List.length_take,Nat.min_eq_left (by rw [hd.lv];omega)] at hvl
 have hw:=bval_take_succ (us.drop j) nv
 rw [bval_take2 (us.drop j) nv hn (by simp;omega),getD_drop,getD_drop,getD_drop] at hw
 have hwl:=bval_lt ((us.drop j).take (nv - 2)) (fun x hx=>h.wu x (List.mem_of_mem_drop (List.mem_of_mem_take hx)))
 rw [List.length_take,Nat.min_eq_left (by simp;omega)] at hwl
 rw [(pow_two nv hn).2] at hw
 have e1:j+(nv - 2)=j+nv - 2:=by omega
 have e2:j+(nv - 1)=j+nv - 1:=by omega
 rw [e1,e2] at hw
 obtain ⟨R,hR⟩:∃ R,R=4294967296 ^ (nv - 2):=⟨_,rfl⟩
 rw [<-hR] at hv hvl hw hwl ⊢
 have hW:win us j (nv+1)=bval ((us.drop j).take (nv+1)):=rfl
 rw [<-hW] at hw
 have hwb:=(round_win hd h hj).2.1
 have htop:=hd.top
 generalize win us j (nv+1)=W at *
 obtain ⟨a,ha⟩:∃ a,a=(us.getD (j+nv) 0).toNat:=⟨_,rfl⟩
 obtain ⟨b,hb⟩:∃ a,a=(us.getD (j+nv - 1) 0).toNat:=⟨_,rfl⟩
 obtain ⟨c,hc⟩:∃ a,a=(us.getD (j+nv - 2) 0).toNat:=⟨_,rfl⟩
 obtain ⟨t,ht⟩:∃ a,a=(vs.getD (nv - 1) 0).toNat:=⟨_,rfl⟩
 obtain ⟨x,hx⟩:∃ a,a=(vs.getD (nv - 2) 0).toNat:=⟨_,rfl⟩
 obtain ⟨lo,hlo⟩:∃ a,a=bval ((us.drop j).take (nv - 2)):=⟨_,rfl⟩
 obtain ⟨lv,hlv⟩:∃ a,a=bval (vs.take (nv - 2)):=⟨_,rfl⟩
 have c1:c<4294967296:=by omega
 have t1':t<4294967296:=by omega
 have x1:x<4294967296:=by omega
 rw [<-ha,<-hb,<-hc,<-hlo] at hw
 rw [<-ht,<-hx,<-hlv] at hv
 rw [<-hlo] at hwl
 rw [<-hlv] at hvl
 rw [<-ht] at htop
 rw [<-ha,<-hb,<-hc,<-ht,<-hx]
 have ev:(t * 4294967296+x) * R=R * (x+4294967296 * t):=by rw [Nat.mul_comm,Nat.add_comm,Nat.mul_comm t]
 have ew:((a * 4294967296+b) * 4294967296+c) * R=R * (c+4294967296 * b)+R * 4294967296 * 4294967296 * a:=by
  rw [Nat.mul_comm _ R,Nat.mul_assoc,Nat.mul_assoc,<-Nat.mul_add]
  congr 1
  omega
 refine ⟨?_,?_,htop,t1',x1,c1,?_,?_,hwb⟩
 ·rw [ev];omega
 ·rw [Nat.add_mul,ev];omega
 ·rw [ew];omega
 ·rw [Nat.add_mul,ew];omega
theorem round_done {A B nv la k j qd:Nat} {us qs vs out:List Int} (hd:LDiv B nv vs) (h:LInv A B nv la k us qs (j+1)) (hj:j+nv<=la) (hjk:j<k) (hs:SameOut us out j (nv+1)) (ho:Words out)
 (hq:win out j (nv+1)+qd * B=win us j (nv+1)) (hr:win out j (nv+1)<B) (hqd:qd<4294967296) :
 LInv A B nv la k out (qs.set j (qd:Int)) j:=by
 obtain ⟨w1,w2,w3⟩:=round_win hd h hj
 have hlu:=h.lu
 have e1:bval (out.drop j)=win out j (nv+1):=by
  have h6:=bval_split (out.drop j) (nv+1) (by have:=hs.len;simp;omega)
  rw [List.drop_drop,hs.hi,w3,Nat.mul_zero,Nat.add_zero] at h6
  exact h6
 have s1:=bval_split us j (by omega)
 have s2:=bval_split out j (by have:=hs.len;omega)
 rw [hs.lo,e1] at s2
 rw [<-w1,<-hq] at s1
 refine ⟨ho,words_set h.wq j _ (by omega) (by omega),hs.len.trans hlu,by rw [List.length_set];exact h.lq,?_,by rw [e1];exact hr⟩
 have e2:bval ((qs.set j (qd:Int)).drop j)=qd+4294967296 * bval (qs.drop (j+1)):=by
  rw [bval_drop1 _ j (by rw [List.length_set,h.lq];exact hjk),List.drop_set_of_lt (by omega)]
  congr 1
  simp [List.getD,List.getElem?_set,h.lq,hjk]
 have ht:=h.tot
 rw [e2,s2]
 rw [s1,Nat.pow_succ] at ht
 rw [<-ht,Nat.mul_add (4294967296 ^ j),Nat.mul_add (4294967296 ^ j),Nat.mul_add B]
 have e3:B * (4294967296 ^ j * qd)=4294967296 ^ j * (qd * B):=by
  rw [Nat.mul_comm B,Nat.mul_assoc]
 have e4:4294967296 ^ j * (4294967296 * bval (qs.drop (j+1)))=4294967296 ^ j * 4294967296 * bval (qs.drop (j+1)):=by rw [Nat.mul_assoc]
 rw [e3,e4]
 omega
theorem quot_ok {W B O G:Nat} (hB:0<B) (h:O+G * B=W) (hg:W / B<=G):O<B:=by
 have h1:W<W / B * B+B:=by
  have:=Nat.mod_lt W hB
  have h2:=Nat.div_add_mod W B
  rw [Nat.mul_comm] at h2
  omega
 have h3:W / B * B<=G * B:=Nat.mul_le_mul_right _ hg
 omega
theorem quot_back {W B O O2 G c2 P:Nat} (hB:0<B) (hO:O<P) (hO2:O2<P) (h1:O+G * B=W+P) (h2:O2+P * c2=O+B) (hc:c2<=1) (hg2:G<=W / B+1):1<=G/\O2+(G - 1) * B=W/\O2<B:=by
 have h3:W / B * B<=W/\W<W / B * B+B:=by
  have:=Nat.mod_lt W hB
  have h2:=Nat.div_add_mod W B
  rw [Nat.mul_comm] at h2
  omega
 have hG:G=W / B+1:=by
  rcases Nat.lt_or_ge (W / B) G with h|h
  ·omega
  ·have:G * B<=W / B * B:=Nat.mul_le_mul_right _ h
   omega
 subst hG
 rw [Nat.add_mul,Nat.one_mul] at h1
 rw [Nat.add_sub_cancel]
 generalize W / B * B=M at *
 refine ⟨Nat.le_add_left _ _,?_⟩
 rcases Nat.eq_zero_or_pos c2 with h0|h0
 ·subst h0;simp at h2;omega
 ·have:c2=1:=by omega
  subst this
  simp at h2
  omega
theorem long_end {A B nv la k:Nat} {us qs:List Int} (h:LInv A B nv la k us qs 0):bval qs=A / B/\bval us=A % B:=by
 have h1:=h.tot
 have h2:=h.hi
 simp only [Nat.pow_zero,Nat.one_mul,List.drop_zero] at h1 h2
 rw [<-h1]
 refine ⟨?_,?_⟩
 ·rw [Nat.add_comm,Nat.mul_add_div (by omega),Nat.div_eq_of_lt h2,Nat.add_zero]
 ·rw [Nat.add_comm,Nat.mul_add_mod,Nat.mod_eq_of_lt h2]
theorem div_start (b:Nat) (hb:b≠0) (h2:2<=(canon b).length) (x:Nat) (hx:(x:Int)=(canon b).getD ((canon b).length - 1) 0) :
 Lib.bitLen x<=32/\1<=Lib.bitLen x/\LDiv (b * 2 ^ (32 - Lib.bitLen x)) (canon b).length (canon (b * 2 ^ (32 - Lib.bitLen x))):=by
 obtain ⟨hp,y,hy,hy2,hbl⟩:=blen_last b hb
 have hxy:x=y:=by
  have:=hx.trans hy.symm
  omega
 subst hxy
 have h32:=bitLen_le32 x hy2
 obtain ⟨b1,b2,b3⟩:=blen_bounds b hb
 obtain ⟨nv,hnv⟩:∃ n,n=(canon b).length:=⟨_,rfl⟩
 rw [<-hnv] at hp h2 hbl ⊢
 have hx0:1<=Lib.bitLen x:=by
  rcases Nat.eq_zero_or_pos (Lib.bitLen x) with h0|h0
  ·exfalso
   rw [h0,Nat.add_zero] at hbl
   have h3:=canon_len_le b (nv - 1) (by rw [pow32,<-hbl];exact b3)
   omega
  ·exact h0
 refine ⟨h32,hx0,?_⟩
 generalize Lib.bitLen x=L at *
 have e1:2 ^ (32 * (nv - 1)+L) * 2 ^ (32 - L)=4294967296 ^ nv:=by
  rw [<-Nat.pow_add,pow32]
  congr 1
  omega
 have e2:2 ^ (32 * (nv - 1)+L - 1) * 2 ^ (32 - L)=2147483648 * 4294967296 ^ (nv - 1):=by
  rw [<-Nat.pow_add,pow32,show (2147483648:Nat)=2 ^ 31 by decide,<-Nat.pow_add]
  congr 1
  omega
 rw [hbl] at b2 b3
 have c1:b * 2 ^ (32 - L)<4294967296 ^ nv:=by rw [<-e1];exact Nat.mul_lt_mul_of_pos_right b3 (Nat.two_pow_pos _)
 have c2:2147483648 * 4294967296 ^ (nv - 1)<=b * 2 ^ (32 - L):=by rw [<-e2];exact Nat.mul_le_mul_right _ b2
 generalize b * 2 ^ (32 - L)=B at *
 have hB:B≠0:=by
  have:0<4294967296 ^ (nv - 1):=Nat.pow_pos (by decide)
  omega
 have l1:=canon_len_le B nv c1
 have l2:=canon_len_gt B hB
 have hlen:(canon B).length=nv:=by
  rcases Nat.lt_or_ge (canon B).length nv with h|h
  ·exfalso
   have h3:=bval_lt (canon B) (canon_words B)
   rw [bval_canon] at h3
   have h4:4294967296 ^ (canon B).length<=4294967296 ^ (nv - 1):=Nat.pow_le_pow_right (by decide) (by omega)
   omega
  ·omega
 refine ⟨canon_words B,hlen,h2,bval_canon B,?_⟩
 have h5:=bval_take_succ (canon B) (nv - 1)
 rw [show nv - 1+1=nv by omega,List.take_of_length_le (by omega),bval_canon] at h5
 have h6:=bval_lt ((canon B).take (nv - 1)) (fun x hx=>canon_words B x (List.mem_of_mem_take hx))
 rw [List.length_take,Nat.min_eq_left (by omega)] at h6
 apply Classical.byContradiction
 intro hc
 have h7:4294967296 ^ (nv - 1) * ((canon B).getD (nv - 1) 0).toNat<=4294967296 ^ (nv - 1) * 2147483647:=Nat.mul_le_mul_left _ (by omega)
 omega
theorem long_start {A B nv:Nat} {vs:List Int} (hd:LDiv B nv vs) (hAB:B<=A) :
 nv<=(canon A).length/\LInv A B nv (canon A).length ((canon A).length+1 - nv) (canon A++[0]) (List.replicate ((canon A).length+1 - nv) 0) ((canon A).length+1 - nv):=by
 have hn:=hd.two
 have htop:=hd.top
 have h5:=bval_take_succ vs (nv - 1)
 rw [show nv - 1+1=nv by omega,List.take_of_length_le (by rw [hd.lv];exact Nat.le_refl _),hd.val] at h5
 have hB1:4294967296 ^ (nv - 1)<=B:=by
  have:4294967296 ^ (nv - 1) * 1<=4294967296 ^ (nv - 1) * (vs.getD (nv - 1) 0).toNat:=Nat.mul_le_mul_left _ (by omega)
  omega
 have hle:nv<=(canon A).length:=by
  apply Classical.byContradiction
  intro hc
  have h3:=bval_lt (canon A) (canon_words A)
  rw [bval_canon] at h3
  have h4:4294967296 ^ (canon A).length<=4294967296 ^ (nv - 1):=Nat.pow_le_pow_right (by decide) (by omega)
  omega
 refine ⟨hle,?_,?_,by simp,by simp,?_,?_⟩
 ·intro x hx
  rcases List.mem_append.1 hx with hx|hx
  ·exact canon_words A x hx
  ·simp at hx;omega
 ·intro x hx
  have:=(List.mem_replicate.1 hx).2;omega
 ·rw [List.drop_eq_nil_of_le (by simp),bval_append,bval_canon]
  simp [bval]
 ·rw [List.drop_append_of_le_length (by omega),bval_append]
  have h6:=bval_lt ((canon A).drop ((canon A).length+1 - nv)) (fun x hx=>canon_words A x (List.mem_of_mem_drop hx))
  rw [List.length_drop,show (canon A).length - ((canon A).length+1 - nv)=nv - 1 by omega] at h6
  simp [bval]
  omega
set_option maxRecDepth 100000
theorem kzb (c:Int) (h0:0<=c) (h1:c<=1):(c=0/\decide (c=1)=false/\(c==1)=false)\/(c=1/\decide (c=1)=true/\(c==1)=true):=by
 by_cases h:c=1
 ·subst h;exact .inr ⟨rfl,rfl,rfl⟩
 ·have:c=0:=by omega
  subst this;exact .inl ⟨rfl,rfl,rfl⟩
def TakesPost (B0 gu m cap:Nat) (us vs:List Int) (g j k:Nat) (w:World) (e:Ending) (w':World):Prop :=
 ∃ (out:List Int) (c:Nat),c<=1/\e=.returned (.bool (c==1))/\w'.ownsRow B0 145 1 (.slice (some ⟨gu,0,none⟩) m cap) m (out.map (Value.int .u32))/\Words out/\SameOut us out j k /\
  win out j k+g * bval vs=win us j k+4294967296 ^ k * c/\w.grownBy w' (some gu)
set_option maxHeartbeats 1000000 in
theorem takes_any (B0 gu m cap cw:Nat) (us vs:List Int) (g j:Nat) (vd:Option Addr) (vc:Nat) (w:World) (hown:w.ownsRow B0 145 1 (.slice (some ⟨gu,0,none⟩) m cap) m (us.map (Value.int .u32))) (hw:Words us) (hv:Rd .u32 w vd vc vs)
 (hne:∀ a,vd=some a->0<vs.length->some a.block≠some gu) (hg:g<4294967296) (hj:j+(vs.length+1)<=m) (hm:m<=2097152) :
 Calls Tryz.prog 197 #[.slice (some ⟨gu,j,none⟩) (vs.length+1:Nat) cw,.slice vd vs.length vc,.int .u64 g] w (TakesPost B0 gu m cap us vs g j (vs.length+1) w):=by
 have hwv:=words_of_rd hv
 have hlu:us.length=m:=by have:=hown.1;simpa using this
 have HV:=Lib.hid hv
 have HNE:=Lib.hid hne
 have HW:=Lib.hid hw
 have HWV:=Lib.hid hwv
 have HLU:=Lib.hid hlu
 clear hv hne hw hwv hlu
 obtain ⟨nv,hnv⟩:∃ nv,nv=vs.length:=⟨_,rfl⟩
 rw [<-hnv] at hj ⊢
 have HNV:=Lib.hid hnv
 clear hnv
 have hg0:(0:Int)<=(g:Int):=by omega
 have hg1:(g:Int)<=4294967295:=by omega
 go_enter Tryz.func197,Tryz.ntmps197
 go_wp2
 go_loopw [7,8,12] (fun c b i wr=>∃ (k:Nat) (cr bo:Int) (out:List Int),k<=nv+1/\i=.int .i64 k/\c=.int .u64 cr/\0<=cr/\cr<=4294967295/\b=.int .u32 bo/\0<=bo/\bo<=1 /\
  wr.ownsRow B0 145 1 (.slice (some ⟨gu,0,none⟩) m cap) m (out.map (Value.int .u32))/\Hid (Words out)/\Hid (SameOut us out j (nv+1)) /\
  Hid (bval out+4294967296 ^ j * (g * bval (vs.take k))=bval us+4294967296 ^ (j+k) * (cr.toNat+bo.toNat))/\Hid (k=nv+1->cr=0)/\Hid (w.grownBy wr (some gu)))
  (fun _ _ i _=>nv+1 - (intOf i).toNat)
 case atStart=>exact ⟨0,0,0,us,Nat.zero_le _,rfl,rfl,by omega,by omega,rfl,by omega,by omega,hown,HW.out,SameOut.refl _ _ _,by show _=_;simp [bval],(fun h=>by omega),World.grownBy.refl _ _⟩
 case round =>
  clear hown
  obtain ⟨k,cr,bo,out,hk,rfl,rfl,hc0,hc1,rfl,hb0,hb1,hown,HOW,HSO,hval,hlast,HG⟩:=hrel
  by_cases hlt:k<nv+1
  ·have hol:out.length=m:=by have:=hown.1;simpa using this
   have hin:j+k<m:=by omega
   have bo':=words_getD HOW.out (j+k)
   have hcell:wr.cell? ⟨gu,j+k,none⟩=some (.int .u32 (out.getD (j+k) 0)):=by
    rw [hown.cellAt (j+k) (by omega)]
    simp [List.getD,List.getElem?_eq_getElem (show j+k<out.length by omega)]
   have hfz:wr.frozen? ⟨gu,j+k,none⟩=false:=hown.frozenAt (j+k)
   obtain ⟨x,ex⟩:∃ o,o=out.getD (j+k) 0:=⟨_,rfl⟩
   rw [<-ex] at hcell bo'
   obtain ⟨bx0,bx1⟩:=bo'
   obtain ⟨by0,by1⟩:=words_getD HWV.out k
   obtain ⟨y,ey⟩:∃ y,y=vs.getD k 0:=⟨_,rfl⟩
   rw [<-ey] at by0 by1
   have hT:=take_step out vs (bval us) j k (g:Int) x y cr bo hg0 bx0 bx1 by0 hc0 hb0 hb1 (by omega) ex ey hval.out
   obtain ⟨mb0,mb1⟩:=mul_bound hg0 hg1 by0 by1
   have hmy:y=0->(g:Int) * y=0:=fun h=>by rw [h];simp
   obtain ⟨z,hz⟩:∃ z,z=(g:Int) * y:=⟨_,rfl⟩
   have hmul:(g:Int) * y=z:=hz.symm
   rw [hmul] at hT
   rw [<-hz] at mb0 mb1 hmy
   have EY:=Lib.hid ey
   have EX:=Lib.hid ex
   clear hz ex ey
   have hd0:0<=(cr+z) % 4294967296:=by omega
   have hd1:(cr+z) % 4294967296<=4294967295:=by omega
   have hq0:0<=(cr+z) / 4294967296:=by omega
   have hq1:(cr+z) / 4294967296<=4294967295:=by omega
   have hst:=hown.stored (j+k) (.int .u32 ((x - (cr+z) % 4294967296 - bo) % 4294967296))
   have hn0:0<=(x - (cr+z) % 4294967296 - bo) % 4294967296:=by omega
   have hn1:(x - (cr+z) % 4294967296 - bo) % 4294967296<=4294967295:=by omega
   have HON:Hid ((wr.setCell ⟨gu,j+k,none⟩ (.int .u32 ((x - (cr+z) % 4294967296 - bo) % 4294967296))).ownsRow B0 145 1 (.slice (some ⟨gu,0,none⟩) m cap) m ((out.set (j+k) ((x - (cr+z) % 4294967296 - bo) % 4294967296)).map (Value.int .u32))):=by
    show World.ownsRow _ _ _ _ _ _ _
    rw [List.map_set];exact hst.1
   have HGN:=Lib.hid (HG.out.trans hst.2)
   have hw3:=Lib.hid (words_set HOW.out (j+k) _ hn0 hn1)
   have hs3:=Lib.hid (HSO.out.set (j+k) ((x - (cr+z) % 4294967296 - bo) % 4294967296) (by omega) (by omega))
   obtain ⟨br0,br1⟩:=borrow_range x ((cr+z) % 4294967296) bo
   have HT:=Lib.hid hT
   have HRV:=Lib.hid (HV.out.grown HG.out HNE.out)
   clear hst hT hn0 hn1 hol hval hlast HOW HSO HG hown
   by_cases hky:k<nv
   ·obtain ⟨b2,o2,rfl,-,hcy⟩:=HRV.out.addr (by have:=HNV.out;omega)
    have hy:=hcy k (by have:=HNV.out;omega)
    rw [<-EY.out] at hy
    clear hcy hmy
    go_wp2_with fail
    refine (sub32_any x ((cr+z) % 4294967296) bo _ bx0 bx1 hd0 hd1 hb0 hb1).mono ?_
    rintro e w' ⟨rfl,rfl⟩
    go_wp2
    go_roundw
    case rel=>exact ⟨k+1,(cr+z) / 4294967296,borrowOf x ((cr+z) % 4294967296) bo,out.set (j+k) ((x - (cr+z) % 4294967296 - bo) % 4294967296),by omega,by go_num,rfl,hq0,hq1,rfl,br0,br1,HON.out,hw3,hs3,HT,(fun h=>by omega),HGN⟩
    case measure=>simp [intOf];omega
   ·obtain rfl:k=nv:=by omega
    have hy0:y=0:=by rw [EY.out];simp [List.getD,List.getElem?_eq_none (show vs.length<=k by have:=HNV.out;omega)]
    obtain rfl:=hmy hy0
    have hm1:(cr+0) % 4294967296=cr:=by omega
    have hm2:(cr+0) / 4294967296=0:=by omega
    rw [hm1] at HON HGN hw3 hs3 br0 br1 HT hd0 hd1
    rw [hm2] at HT
    clear hm1 hm2 hmul mb0 mb1 hy0 EY hq0 hq1 hmy
    go_wp2_with fail
    refine (sub32_any x cr bo _ bx0 bx1 hd0 hd1 hb0 hb1).mono ?_
    rintro e w' ⟨rfl,rfl⟩
    go_wp2
    go_roundw
    case rel=>exact ⟨k+1,0,borrowOf x cr bo,out.set (j+k) ((x - cr - bo) % 4294967296),by omega,by go_num,(by congr 1;omega),by omega,by omega,rfl,br0,br1,HON.out,hw3,hs3,HT,(fun h=>rfl),HGN⟩
    case measure=>simp [intOf]
  ·obtain rfl:k=nv+1:=by omega
   have hcz:=hlast.out rfl
   subst hcz
   have hfin:win out j (nv+1)+g * bval vs=win us j (nv+1)+4294967296 ^ (nv+1) * bo.toNat:=by
    have h1:=hval.out
    rw [List.take_of_length_le (by have:=HNV.out;omega)] at h1
    simp only [Int.toNat_zero,Nat.zero_add] at h1
    rw [Nat.pow_add,Nat.mul_assoc] at h1
    exact win_of us out j (nv+1) _ _ HSO.out (by rw [HLU.out];exact hj) h1
   have HF:=Lib.hid hfin
   have hown':=Lib.hid hown
   clear hfin hval hlast hown
   rcases kzb bo hb0 hb1 with ⟨rfl,h1,h2⟩|⟨rfl,h1,h2⟩
   ·go_wp2
    go_ret
    exact ⟨out,0,by omega,rfl,hown'.out,HOW.out,HSO.out,HF.out,HG.out⟩
   ·go_wp2
    go_ret
    exact ⟨out,1,by omega,rfl,hown'.out,HOW.out,HSO.out,HF.out,HG.out⟩
def GivesPost (B0 gu m cap:Nat) (us vs:List Int) (j k:Nat) (w:World) (e:Ending) (w':World):Prop :=
 ∃ (out:List Int) (c:Nat),c<=1/\e=.returned (.tuple #[])/\w'.ownsRow B0 145 1 (.slice (some ⟨gu,0,none⟩) m cap) m (out.map (Value.int .u32))/\Words out/\SameOut us out j k /\
  win out j k+4294967296 ^ k * c=win us j k+bval vs/\w.grownBy w' (some gu)
set_option maxHeartbeats 1000000 in
theorem gives_any (B0 gu m cap cw:Nat) (us vs:List Int) (j:Nat) (vd:Option Addr) (vc:Nat) (w:World) (hown:w.ownsRow B0 145 1 (.slice (some ⟨gu,0,none⟩) m cap) m (us.map (Value.int .u32))) (hw:Words us) (hv:Rd .u32 w vd vc vs)
 (hne:∀ a,vd=some a->0<vs.length->some a.block≠some gu) (hj:j+(vs.length+1)<=m) (hm:m<=2097152) :
 Calls Tryz.prog 198 #[.slice (some ⟨gu,j,none⟩) (vs.length+1:Nat) cw,.slice vd vs.length vc] w (GivesPost B0 gu m cap us vs j (vs.length+1) w):=by
 have hwv:=words_of_rd hv
 have hlu:us.length=m:=by have:=hown.1;simpa using this
 have HV:=Lib.hid hv
 have HNE:=Lib.hid hne
 have HW:=Lib.hid hw
 have HWV:=Lib.hid hwv
 have HLU:=Lib.hid hlu
 clear hv hne hw hwv hlu
 obtain ⟨nv,hnv⟩:∃ nv,nv=vs.length:=⟨_,rfl⟩
 rw [<-hnv] at hj ⊢
 have HNV:=Lib.hid hnv
 clear hnv
 go_enter Tryz.func198,Tryz.ntmps198
 go_wp2
 go_loopw [4,9] (fun b i wr=>∃ (k:Nat) (bo:Int) (out:List Int),k<=nv+1/\i=.int .i64 k/\b=.int .u32 bo/\0<=bo/\bo<=1 /\
  wr.ownsRow B0 145 1 (.slice (some ⟨gu,0,none⟩) m cap) m (out.map (Value.int .u32))/\Hid (Words out)/\Hid (SameOut us out j (nv+1)) /\
  Hid (bval out+4294967296 ^ (j+k) * bo.toNat=bval us+4294967296 ^ j * bval (vs.take k))/\Hid (w.grownBy wr (some gu)))
  (fun _ i _=>nv+1 - (intOf i).toNat)
 case atStart=>exact ⟨0,0,us,Nat.zero_le _,rfl,rfl,by omega,by omega,hown,HW.out,SameOut.refl _ _ _,by show _=_;simp [bval],World.grownBy.refl _ _⟩
 case round =>
  clear hown
  obtain ⟨k,bo,out,hk,rfl,rfl,hb0,hb1,hown,HOW,HSO,hval,HG⟩:=hrel
  by_cases hlt:k<nv+1
  ·have hol:out.length=m:=by have:=hown.1;simpa using this
   have hin:j+k<m:=by omega
   have bo':=words_getD HOW.out (j+k)
   have hcell:wr.cell? ⟨gu,j+k,none⟩=some (.int .u32 (out.getD (j+k) 0)):=by
    rw [hown.cellAt (j+k) (by omega)]
    simp [List.getD,List.getElem?_eq_getElem (show j+k<out.length by omega)]
   have hfz:wr.frozen? ⟨gu,j+k,none⟩=false:=hown.frozenAt (j+k)
   obtain ⟨x,ex⟩:∃ o,o=out.getD (j+k) 0:=⟨_,rfl⟩
   rw [<-ex] at hcell bo'
   obtain ⟨bx0,bx1⟩:=bo'
   obtain ⟨by0,by1⟩:=words_getD HWV.out k
   obtain ⟨y,ey⟩:∃ y,y=vs.getD k 0:=⟨_,rfl⟩
   rw [<-ey] at by0 by1
   have hT:=give_step out vs (bval us) j k x y bo bx0 by0 hb0 (by omega) ex ey hval.out
   have EY:=Lib.hid ey
   clear ex ey
   have hq0:0<=(x+y+bo) / 4294967296:=by omega
   have hq1:(x+y+bo) / 4294967296<=1:=by omega
   have hst:=hown.stored (j+k) (.int .u32 ((x+y+bo) % 4294967296))
   have HON:Hid ((wr.setCell ⟨gu,j+k,none⟩ (.int .u32 ((x+y+bo) % 4294967296))).ownsRow B0 145 1 (.slice (some ⟨gu,0,none⟩) m cap) m ((out.set (j+k) ((x+y+bo) % 4294967296)).map (Value.int .u32))):=by
    show World.ownsRow _ _ _ _ _ _ _
    rw [List.map_set];exact hst.1
   have HGN:=Lib.hid (HG.out.trans hst.2)
   have hw3:=Lib.hid (words_set HOW.out (j+k) ((x+y+bo) % 4294967296) (by omega) (by omega))
   have hs3:=Lib.hid (HSO.out.set (j+k) ((x+y+bo) % 4294967296) (by omega) (by omega))
   have HT:=Lib.hid hT
   have HRV:=Lib.hid (HV.out.grown HG.out HNE.out)
   clear hst hT hol hval HOW HSO HG hown
   by_cases hky:k<nv
   ·obtain ⟨b2,o2,rfl,-,hcy⟩:=HRV.out.addr (by have:=HNV.out;omega)
    have hy:=hcy k (by have:=HNV.out;omega)
    rw [<-EY.out] at hy
    clear hcy
    go_wp2_with fail
    refine (add32_any x y bo _ bx0 bx1 by0 by1 hb0 hb1).mono ?_
    rintro e w' ⟨rfl,rfl⟩
    go_wp2
    go_roundw
    case rel=>exact ⟨k+1,(x+y+bo) / 4294967296,out.set (j+k) ((x+y+bo) % 4294967296),by omega,by go_num,rfl,hq0,hq1,HON.out,hw3,hs3,HT,HGN⟩
    case measure=>simp [intOf];omega
   ·obtain rfl:k=nv:=by omega
    have hy0:y=0:=by rw [EY.out];simp [List.getD,List.getElem?_eq_none (show vs.length<=k by have:=HNV.out;omega)]
    subst hy0
    clear EY
    go_wp2_with fail
    refine (add32_any x 0 bo _ bx0 bx1 by0 by1 hb0 hb1).mono ?_
    rintro e w' ⟨rfl,rfl⟩
    simp only [Int.add_zero] at HON HGN hw3 hs3 HT hq0 hq1
    go_wp2
    go_roundw
    case rel=>exact ⟨k+1,(x+bo) / 4294967296,out.set (j+k) ((x+bo) % 4294967296),by omega,by go_num,(by first|rfl|simp),hq0,hq1,HON.out,hw3,hs3,HT,HGN⟩
    case measure=>simp [intOf]
  ·obtain rfl:k=nv+1:=by omega
   have hfin:win out j (nv+1)+4294967296 ^ (nv+1) * bo.toNat=win us j (nv+1)+bval vs:=by
    have h1:=hval.out
    rw [List.take_of_length_le (by have:=HNV.out;omega)] at h1
    rw [Nat.pow_add,Nat.mul_assoc] at h1
    exact win_of us out j (nv+1) _ _ HSO.out (by rw [HLU.out];exact hj) h1
   have HF:=Lib.hid hfin
   have hown':=Lib.hid hown
   clear hfin hval hown
   go_wp2
   go_end0
   exact ⟨out,bo.toNat,by omega,rfl,hown'.out,HOW.out,HSO.out,HF.out,HG.out⟩
set_option maxRecDepth 100000
set_option maxHeartbeats 1000000 in
theorem bigAdd_ge (ad bd:Option Addr) (ca cb:Nat) (xs ys:List Int) (w:World) (h:Rd .u32 w ad ca xs) (g:Rd .u32 w bd cb ys) (hl:xs.length<=1073741824) (hyx:ys.length<=xs.length) :
 Calls Tryz.prog 163 #[.slice ad xs.length ca,.slice bd ys.length cb] w (WordsPost (bval xs+bval ys) w):=by
 have hwx:=words_of_rd h
 have hwy:=words_of_rd g
 have H:=Lib.hid h
 have G:=Lib.hid g
 have HWX:=Lib.hid hwx
 have HWY:=Lib.hid hwy
 clear h g hwx hwy
 have hlt:decide ((xs.length:Int)<(ys.length:Int))=false:=by simp;omega
 go_enter Tryz.func163,Tryz.ntmps163
 obtain ⟨i0,hi,hz0,hz1,hz2⟩:=info_parts Tryz.info_u32
 have HI:=Lib.hid hi
 have HZ0:=Lib.hid hz0
 have HZ1:=Lib.hid hz1
 clear hi hz0 hz1
 go_wp2_with (first
  | (at_make;refine wpList_make_own _ rfl _ _ 169 rfl w.heap.size 145 i0 (.int .u32 0) 1 Tryz.underlying169 HI.out HZ0.out HZ1.out .i64 .i64 _ (xs.length+1) rfl rfl (by omega) (by rw [hz2];omega) (by unfold maxLen;omega) (Nat.le_refl _) ?_))
 intro w1 hown hg
 have hb:Below w.heap.size w w1:=Gx.grown_below hg (Nat.le_refl _) (by simp)
 clear hg
 obtain ⟨v0,hv0⟩:∃ v0,v0=Value.slice (some ⟨w.heap.size,0,none⟩) 0 (xs.length+1):=⟨_,rfl⟩
 rw [<-hv0] at hown ⊢
 clear hv0
 go_wp2
 go_loopw [5,6,23] (fun v c i wr=>∃ (k:Nat) (out:List Int) (cr:Int),k<=xs.length/\i=.int .i64 k/\c=.int .u32 cr/\0<=cr/\cr<=1 /\
  wr.ownsRow w.heap.size 145 1 v k (out.map (Value.int .u32))/\out.length=k/\Words out/\Hid (bval out+4294967296 ^ k * cr.toNat=bval (xs.take k)+bval (ys.take k))/\Below w.heap.size w wr)
  (fun _ _ i _=>xs.length - (intOf i).toNat)
 case atStart=>exact ⟨0,[],0,Nat.zero_le _,rfl,rfl,by omega,by omega,hown,rfl,fun x hx=>by simp at hx,rfl,hb⟩
 case round =>
  obtain ⟨k,out,cr,hk,rfl,rfl,hc0,hc1,hown1,hol,how,hval,hb1⟩:=hrel
  have HOL:=Lib.hid hol
  have HOW:=Lib.hid how
  clear hol how hown hb
  have hsz:=hb1.size
  by_cases hkx:k<xs.length
  ·obtain ⟨b1,o1,rfl,-,hcx⟩:=(H.out.keep hb1).addr (by omega)
   have hx:=hcx k hkx
   clear hcx
   have bx:=words_getD HWX.out k
   obtain ⟨x,ex⟩:∃ x,x=xs.getD k 0:=⟨_,rfl⟩
   rw [<-ex] at hx bx
   have EX:=Lib.hid ex;clear ex
   have by_:=words_getD HWY.out k
   obtain ⟨y,ey⟩:∃ y,y=ys.getD k 0:=⟨_,rfl⟩
   rw [<-ey] at by_
   have EY:=Lib.hid ey;clear ey
   obtain ⟨bx0,bx1⟩:=bx
   obtain ⟨by0,by1⟩:=by_
   have hs0:0<=(x+y+cr) % 4294967296:=by omega
   have hs1:(x+y+cr) % 4294967296<=4294967295:=by omega
   have hq0:0<=(x+y+cr) / 4294967296:=by omega
   have hq1:(x+y+cr) / 4294967296<=1:=by omega
   have hT:Hid (bval (out++[(x+y+cr) % 4294967296])+4294967296 ^ (k+1) * ((x+y+cr) / 4294967296).toNat=bval (xs.take (k+1))+bval (ys.take (k+1))):=by
    show _=_
    rw [bval_append,bval_take_succ,bval_take_succ,<-EX.out,<-EY.out,HOL.out,Nat.pow_succ]
    have hv:=hval.out
    have e1:x.toNat+y.toNat+cr.toNat=((x+y+cr) % 4294967296).toNat+4294967296 * ((x+y+cr) / 4294967296).toNat:=by omega
    simp only [bval,Nat.mul_zero,Nat.add_zero]
    generalize 4294967296 ^ k=q at *
    have e2:q * x.toNat+q * y.toNat+q * cr.toNat=q * ((x+y+cr) % 4294967296).toNat+q * 4294967296 * ((x+y+cr) / 4294967296).toNat:=by
     rw [Nat.mul_assoc,<-Nat.mul_add,<-Nat.mul_add,<-Nat.mul_add,e1]
    omega
   by_cases hky:k<ys.length
   ·obtain ⟨b2,o2,rfl,-,hcy⟩:=(G.out.keep hb1).addr (by omega)
    have hy:=hcy k hky
    clear hcy
    rw [<-EY.out] at hy
    go_wp2_with (first
     | (go_at_call 182;refine (add32_any x y cr _ bx0 bx1 by0 by1 hc0 hc1).mono ?_;rintro e w' ⟨rfl,rfl⟩)
     | (at_builtin;refine Gx.wpList_push wr rfl _ _ 169 rfl w.heap.size 145 (.int .u32 0) 1 4 Tryz.underlying169 Tryz.info_u32 rfl (by decide) _ _ _ [.int .u32 ((x+y+cr) % 4294967296)] _ rfl rfl (by exact hown1) rfl rfl ?a2 ?a3 ?a4 ?a5 ?_))
    case a2=>intro u hu;simp at hu;subst hu;rfl
    case a3=>omega
    case a4=>omega
    case a5=>omega
    intro v' w' hown2 hg2 _ _
    have hb2:Below w.heap.size w w':=hb1.grown hg2 hsz (fun k e=>(hown1.lt k e).1)
    have hown3:w'.ownsRow w.heap.size 145 1 v' (k+1) ((out++[(x+y+cr) % 4294967296]).map (Value.int .u32)):=by
     rw [List.map_append];exact hown2
    have hW2:Words (out++[(x+y+cr) % 4294967296]):=by
     intro z hz
     rcases List.mem_append.1 hz with hz|hz
     ·exact HOW.out z hz
     ·simp at hz;omega
    clear hown1 hown2 hg2
    go_wp2
    go_roundw
    case rel=>exact ⟨k+1,out++[(x+y+cr) % 4294967296],(x+y+cr) / 4294967296,by omega,by go_num,rfl,hq0,hq1,hown3,by simp [HOL.out],hW2,hT,hb2⟩
    case measure=>simp [intOf];omega
   ·have hy0:y=0:=by rw [EY.out];simp [List.getD,List.getElem?_eq_none (show ys.length<=k by omega)]
    subst hy0
    simp only [Int.add_zero] at hs0 hs1 hq0 hq1 hT
    go_wp2_with (first
     | (go_at_call 182;refine (add32_any x 0 cr _ bx0 bx1 by0 by1 hc0 hc1).mono ?_;rintro e w' ⟨rfl,rfl⟩)
     | (at_builtin;refine Gx.wpList_push wr rfl _ _ 169 rfl w.heap.size 145 (.int .u32 0) 1 4 Tryz.underlying169 Tryz.info_u32 rfl (by decide) _ _ _ [.int .u32 ((x+cr) % 4294967296)] _ rfl rfl (by exact hown1) rfl rfl ?b2 ?b3 ?b4 ?b5 ?_))
    case b2=>intro u hu;simp at hu;subst hu;rfl
    case b3=>omega
    case b4=>omega
    case b5=>omega
    intro v' w' hown2 hg2 _ _
    have hb2:Below w.heap.size w w':=hb1.grown hg2 hsz (fun k e=>(hown1.lt k e).1)
    have hown3:w'.ownsRow w.heap.size 145 1 v' (k+1) ((out++[(x+cr) % 4294967296]).map (Value.int .u32)):=by
     rw [List.map_append];exact hown2
    have hW2:Words (out++[(x+cr) % 4294967296]):=by
     intro z hz
     rcases List.mem_append.1 hz with hz|hz
     ·exact HOW.out z hz
     ·simp at hz;omega
    clear hown1 hown2 hg2
    go_wp2
    go_roundw
    case rel=>exact ⟨k+1,out++[(x+cr) % 4294967296],(x+cr) / 4294967296,by omega,by go_num,rfl,hq0,hq1,hown3,by simp [HOL.out],hW2,hT,hb2⟩
    case measure=>simp [intOf];omega
  ·obtain rfl:k=xs.length:=by omega
   go_wp2_with (first
    | (at_builtin;refine Gx.wpList_push wr rfl _ _ 169 rfl w.heap.size 145 (.int .u32 0) 1 4 Tryz.underlying169 Tryz.info_u32 rfl (by decide) _ _ _ [.int .u32 cr] _ rfl rfl (by exact hown1) rfl rfl ?d2 ?d3 ?d4 ?d5 ?_))
   case d2=>intro u hu;simp at hu;subst hu;rfl
   case d3=>omega
   case d4=>omega
   case d5=>omega
   intro v' w' hown2 hg2 _ _
   have hb2:Below w.heap.size w w':=hb1.grown hg2 hsz (fun k e=>(hown1.lt k e).1)
   have hW2:Words (out++[cr]):=by
    intro z hz
    rcases List.mem_append.1 hz with hz|hz
    ·exact HOW.out z hz
    ·simp at hz;omega
   obtain ⟨ad',cap',rfl,hr⟩:=Gx.Rd.own (k:=.u32) (xs:=out++[cr]) (by simpa using hown2) (wf_words hW2)
   have hlen:(out++[cr]).length=xs.length+1:=by simp [HOL.out]
   have hfin:bval (out++[cr])=bval xs+bval ys:=by
    rw [bval_append,HOL.out]
    have:=hval.out
    rw [List.take_of_length_le (Nat.le_refl _),List.take_of_length_le (by omega)] at this
    simp only [bval,Nat.mul_zero,Nat.add_zero]
    omega
   have HF:=Lib.hid hfin
   have HL:=Lib.hid hlen
   have HR:=Lib.hid hr
   clear hown1 hown2 hg2 hW2 hfin hlen hr
   generalize out++[cr]=zs at *
   go_wp2_with (first
    | (go_at_call 157;refine (trimmed_any ad' cap' zs _ HR.out (by rw [HL.out];omega)).mono ?_;rintro e w' ⟨rfl,rfl⟩))
   go_ret
   refine ⟨ad',cap',?_,?_,hb2⟩
   ·rw [<-HF.out];rfl
   ·rw [<-HF.out];exact HR.out.trim
set_option maxHeartbeats 1000000 in
theorem bigAdd_lt (ad bd:Option Addr) (ca cb:Nat) (xs ys:List Int) (w:World) (h:Rd .u32 w ad ca xs) (g:Rd .u32 w bd cb ys) (hl:ys.length<=1073741824) (hyx:xs.length<ys.length) :
 Calls Tryz.prog 163 #[.slice ad xs.length ca,.slice bd ys.length cb] w (WordsPost (bval xs+bval ys) w):=by
 have hwx:=words_of_rd g
 have hwy:=words_of_rd h
 have H:=Lib.hid g
 have G:=Lib.hid h
 have HWX:=Lib.hid hwx
 have HWY:=Lib.hid hwy
 clear h g hwx hwy
 have hlt:decide ((xs.length:Int)<(ys.length:Int))=true:=by simp;omega
 go_enter Tryz.func163,Tryz.ntmps163
 obtain ⟨i0,hi,hz0,hz1,hz2⟩:=info_parts Tryz.info_u32
 have HI:=Lib.hid hi
 have HZ0:=Lib.hid hz0
 have HZ1:=Lib.hid hz1
 clear hi hz0 hz1
 go_wp2_with (first
  | (at_make;refine wpList_make_own _ rfl _ _ 169 rfl w.heap.size 145 i0 (.int .u32 0) 1 Tryz.underlying169 HI.out HZ0.out HZ1.out .i64 .i64 _ (ys.length+1) rfl rfl (by omega) (by rw [hz2];omega) (by unfold maxLen;omega) (Nat.le_refl _) ?_))
 intro w1 hown hg
 have hb:Below w.heap.size w w1:=Gx.grown_below hg (Nat.le_refl _) (by simp)
 clear hg
 obtain ⟨v0,hv0⟩:∃ v0,v0=Value.slice (some ⟨w.heap.size,0,none⟩) 0 (ys.length+1):=⟨_,rfl⟩
 rw [<-hv0] at hown ⊢
 clear hv0
 go_wp2
 go_loopw [5,6,23] (fun v c i wr=>∃ (k:Nat) (out:List Int) (cr:Int),k<=ys.length/\i=.int .i64 k/\c=.int .u32 cr/\0<=cr/\cr<=1 /\
  wr.ownsRow w.heap.size 145 1 v k (out.map (Value.int .u32))/\out.length=k/\Words out/\Hid (bval out+4294967296 ^ k * cr.toNat=bval (ys.take k)+bval (xs.take k))/\Below w.heap.size w wr)
  (fun _ _ i _=>ys.length - (intOf i).toNat)
 case atStart=>exact ⟨0,[],0,Nat.zero_le _,rfl,rfl,by omega,by omega,hown,rfl,fun x hx=>by simp at hx,rfl,hb⟩
 case round =>
  obtain ⟨k,out,cr,hk,rfl,rfl,hc0,hc1,hown1,hol,how,hval,hb1⟩:=hrel
  have HOL:=Lib.hid hol
  have HOW:=Lib.hid how
  clear hol how hown hb
  have hsz:=hb1.size
  by_cases hkx:k<ys.length
  ·obtain ⟨b1,o1,rfl,-,hcx⟩:=(H.out.keep hb1).addr (by omega)
   have hx:=hcx k hkx
   clear hcx
   have bx:=words_getD HWX.out k
   obtain ⟨x,ex⟩:∃ x,x=ys.getD k 0:=⟨_,rfl⟩
   rw [<-ex] at hx bx
   have EX:=Lib.hid ex;clear ex
   have by_:=words_getD HWY.out k
   obtain ⟨y,ey⟩:∃ y,y=xs.getD k 0:=⟨_,rfl⟩
   rw [<-ey] at by_
   have EY:=Lib.hid ey;clear ey
   obtain ⟨bx0,bx1⟩:=bx
   obtain ⟨by0,by1⟩:=by_
   have hs0:0<=(x+y+cr) % 4294967296:=by omega
   have hs1:(x+y+cr) % 4294967296<=4294967295:=by omega
   have hq0:0<=(x+y+cr) / 4294967296:=by omega
   have hq1:(x+y+cr) / 4294967296<=1:=by omega
   have hT:Hid (bval (out++[(x+y+cr) % 4294967296])+4294967296 ^ (k+1) * ((x+y+cr) / 4294967296).toNat=bval (ys.take (k+1))+bval (xs.take (k+1))):=by
    show _=_
    rw [bval_append,bval_take_succ,bval_take_succ,<-EX.out,<-EY.out,HOL.out,Nat.pow_succ]
    have hv:=hval.out
    have e1:x.toNat+y.toNat+cr.toNat=((x+y+cr) % 4294967296).toNat+4294967296 * ((x+y+cr) / 4294967296).toNat:=by omega
    simp only [bval,Nat.mul_zero,Nat.add_zero]
    generalize 4294967296 ^ k=q at *
    have e2:q * x.toNat+q * y.toNat+q * cr.toNat=q * ((x+y+cr) % 4294967296).toNat+q * 4294967296 * ((x+y+cr) / 4294967296).toNat:=by
     rw [Nat.mul_assoc,<-Nat.mul_add,<-Nat.mul_add,<-Nat.mul_add,e1]
    omega
   by_cases hky:k<xs.length
   ·obtain ⟨b2,o2,rfl,-,hcy⟩:=(G.out.keep hb1).addr (by omega)
    have hy:=hcy k hky
    clear hcy
    rw [<-EY.out] at hy
    go_wp2_with (first
     | (go_at_call 182;refine (add32_any x y cr _ bx0 bx1 by0 by1 hc0 hc1).mono ?_;rintro e w' ⟨rfl,rfl⟩)
     | (at_builtin;refine Gx.wpList_push wr rfl _ _ 169 rfl w.heap.size 145 (.int .u32 0) 1 4 Tryz.underlying169 Tryz.info_u32 rfl (by decide) _ _ _ [.int .u32 ((x+y+cr) % 4294967296)] _ rfl rfl (by exact hown1) rfl rfl ?a2 ?a3 ?a4 ?a5 ?_))
    case a2=>intro u hu;simp at hu;subst hu;rfl
    case a3=>omega
    case a4=>omega
    case a5=>omega
    intro v' w' hown2 hg2 _ _
    have hb2:Below w.heap.size w w':=hb1.grown hg2 hsz (fun k e=>(hown1.lt k e).1)
    have hown3:w'.ownsRow w.heap.size 145 1 v' (k+1) ((out++[(x+y+cr) % 4294967296]).map (Value.int .u32)):=by
     rw [List.map_append];exact hown2
    have hW2:Words (out++[(x+y+cr) % 4294967296]):=by
     intro z hz
     rcases List.mem_append.1 hz with hz|hz
     ·exact HOW.out z hz
     ·simp at hz;omega
    clear hown1 hown2 hg2
    go_wp2
    go_roundw
    case rel=>exact ⟨k+1,out++[(x+y+cr) % 4294967296],(x+y+cr) / 4294967296,by omega,by go_num,rfl,hq0,hq1,hown3,by simp [HOL.out],hW2,hT,hb2⟩
    case measure=>simp [intOf];omega
   ·have hy0:y=0:=by rw [EY.out];simp [List.getD,List.getElem?_eq_none (show xs.length<=k by omega)]
    subst hy0
    simp only [Int.add_zero] at hs0 hs1 hq0 hq1 hT
    go_wp2_with (first
     | (go_at_call 182;refine (add32_any x 0 cr _ bx0 bx1 by0 by1 hc0 hc1).mono ?_;rintro e w' ⟨rfl,rfl⟩)
     | (at_builtin;refine Gx.wpList_push wr rfl _ _ 169 rfl w.heap.size 145 (.int .u32 0) 1 4 Tryz.underlying169 Tryz.info_u32 rfl (by decide) _ _ _ [.int .u32 ((x+cr) % 4294967296)] _ rfl rfl (by exact hown1) rfl rfl ?b2 ?b3 ?b4 ?b5 ?_))
    case b2=>intro u hu;simp at hu;subst hu;rfl
    case b3=>omega
    case b4=>omega
    case b5=>omega
    intro v' w' hown2 hg2 _ _
    have hb2:Below w.heap.size w w':=hb1.grown hg2 hsz (fun k e=>(hown1.lt k e).1)
    have hown3:w'.ownsRow w.heap.size 145 1 v' (k+1) ((out++[(x+cr) % 4294967296]).map (Value.int .u32)):=by
     rw [List.map_append];exact hown2
    have hW2:Words (out++[(x+cr) % 4294967296]):=by
     intro z hz
     rcases List.mem_append.1 hz with hz|hz
     ·exact HOW.out z hz
     ·simp at hz;omega
    clear hown1 hown2 hg2
    go_wp2
    go_roundw
    case rel=>exact ⟨k+1,out++[(x+cr) % 4294967296],(x+cr) / 4294967296,by omega,by go_num,rfl,hq0,hq1,hown3,by simp [HOL.out],hW2,hT,hb2⟩
    case measure=>simp [intOf];omega
  ·obtain rfl:k=ys.length:=by omega
   go_wp2_with (first
    | (at_builtin;refine Gx.wpList_push wr rfl _ _ 169 rfl w.heap.size 145 (.int .u32 0) 1 4 Tryz.underlying169 Tryz.info_u32 rfl (by decide) _ _ _ [.int .u32 cr] _ rfl rfl (by exact hown1) rfl rfl ?d2 ?d3 ?d4 ?d5 ?_))
   case d2=>intro u hu;simp at hu;subst hu;rfl
   case d3=>omega
   case d4=>omega
   case d5=>omega
   intro v' w' hown2 hg2 _ _
   have hb2:Below w.heap.size w w':=hb1.grown hg2 hsz (fun k e=>(hown1.lt k e).1)
   have hW2:Words (out++[cr]):=by
    intro z hz
    rcases List.mem_append.1 hz with hz|hz
    ·exact HOW.out z hz
    ·simp at hz;omega
   obtain ⟨ad',cap',rfl,hr⟩:=Gx.Rd.own (k:=.u32) (xs:=out++[cr]) (by simpa using hown2) (wf_words hW2)
   have hlen:(out++[cr]).length=ys.length+1:=by simp [HOL.out]
   have hfin:bval (out++[cr])=bval xs+bval ys:=by
    rw [bval_append,HOL.out]
    have:=hval.out
    rw [List.take_of_length_le (Nat.le_refl _),List.take_of_length_le (by omega)] at this
    simp only [bval,Nat.mul_zero,Nat.add_zero]
    omega
   have HF:=Lib.hid hfin
   have HL:=Lib.hid hlen
   have HR:=Lib.hid hr
   clear hown1 hown2 hg2 hW2 hfin hlen hr
   generalize out++[cr]=zs at *
   go_wp2_with (first
    | (go_at_call 157;refine (trimmed_any ad' cap' zs _ HR.out (by rw [HL.out];omega)).mono ?_;rintro e w' ⟨rfl,rfl⟩))
   go_ret
   refine ⟨ad',cap',?_,?_,hb2⟩
   ·rw [<-HF.out];rfl
   ·rw [<-HF.out];exact HR.out.trim
theorem bigAdd_any (ad bd:Option Addr) (ca cb:Nat) (xs ys:List Int) (w:World) (h:Rd .u32 w ad ca xs) (g:Rd .u32 w bd cb ys) (hl:xs.length<=1073741824) (hl2:ys.length<=1073741824) :
 Calls Tryz.prog 163 #[.slice ad xs.length ca,.slice bd ys.length cb] w (WordsPost (bval xs+bval ys) w):=by
 rcases Nat.lt_or_ge xs.length ys.length with hc|hc
 ·exact bigAdd_lt ad bd ca cb xs ys w h g hl2 hc
 ·exact bigAdd_ge ad bd ca cb xs ys w h g hl hc
end Go.Proofs.YtldhmfkojaekfaaGreatDoor
