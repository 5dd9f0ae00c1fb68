/-
  Lemmas for the statement: plain laws, and what functions answer; the conditions stand in each.
-/
import Derived.Lib.Strings
import GoSem.Op.String
import Derived.BigRegion
import Derived.Test.YtldhmfkojaekfaaGreatDoorMeanTwiceAllPartH
set_option linter.unusedVariables false
set_option linter.unusedSimpArgs false
namespace Go.Proofs.YtldhmfkojaekfaaGreatDoor
open Go.RowKit Gx
set_option maxRecDepth 100000
def Y75 (N:Nat):Nat:=N * 2 ^ 1075
theorem y75_of (N K:Nat) (h:K=1075):Y75 N=N * 2 ^ K:=by rw [h];rfl
theorem y75_zero:Y75 0=0:=by
 obtain ⟨K,hK⟩:∃ K:Nat,K=1075:=⟨_,rfl⟩
 rw [y75_of 0 K hK,Nat.zero_mul]
theorem rnd_zero75 (D:Nat) (hD:0<D):Rnd (Y75 0) D 0:=by rw [y75_zero];exact rnd_zero D hD
theorem sh_rel (P0 Q0 E:Nat) (e:Int) (h:(E:Int)=e+1074):2 * shNum P0 e * (Q0 * 2 ^ E)=Y75 P0 * shDen Q0 e:=by
 unfold shNum shDen Y75
 obtain ⟨K,hK⟩:∃ K:Nat,K=1075:=⟨_,rfl⟩
 rw [<-hK]
 have e1:2 * (P0 * 2 ^ (-e).toNat) * (Q0 * 2 ^ E)=(P0 * Q0) * 2 ^ (1+(-e).toNat+E):=by
  rw [Nat.pow_add,Nat.pow_add,Nat.pow_one]
  generalize 2 ^ (-e).toNat=u
  generalize 2 ^ E=v
  rw [Nat.mul_comm 2 (P0 * u),Nat.mul_assoc P0 u 2,Nat.mul_assoc P0 (u * 2),Nat.mul_assoc P0 Q0]
  congr 1
  rw [Nat.mul_comm u 2,Nat.mul_left_comm (2 * u) Q0 v]
 have e2:P0 * 2 ^ K * (Q0 * 2 ^ e.toNat)=(P0 * Q0) * 2 ^ (K+e.toNat):=by
  rw [Nat.pow_add]
  generalize 2 ^ K=u
  generalize 2 ^ e.toNat=v
  rw [Nat.mul_assoc P0 u,Nat.mul_assoc P0 Q0,Nat.mul_left_comm u Q0 v]
 rw [e1,e2]
 congr 2
 omega
theorem fits_of_blen (n K:Nat) (h0:n≠0) (h:blen n<=32 * K):Fits n K:=by
 unfold Fits
 rw [pow32]
 exact Nat.lt_of_lt_of_le (blen_bounds n h0).2.2 (Nat.pow_le_pow_right (by decide) h)
theorem blen_of_fits (n K:Nat) (h:Fits n K):blen n<=32 * K:=by
 unfold Fits at h
 rw [pow32] at h
 rcases Nat.eq_zero_or_pos n with h0|h0
 ·rw [h0];simp [blen]
 ·obtain ⟨b1,b2,b3⟩:=blen_bounds n (by omega)
  apply Classical.byContradiction
  intro hc
  have:=Nat.pow_le_pow_right (show 0<2 by decide) (show 32 * K<=blen n - 1 by omega)
  omega
theorem near_first' {num den E:Nat} (hn:num≠0) (hd:den≠0) (h1:blen num+1021<=E+blen den) (h2:E=0\/blen num+1021=E+blen den) :
 Y75 num<36028797018963968 * (den * 2 ^ E)/\(E=0\/2 * 4503599627370496 * (den * 2 ^ E)<Y75 num):=by
 have h:=near_first hn hd h1 h2
 have n55:(2:Nat) ^ 55=36028797018963968:=by decide
 have n53:(2:Nat) ^ 53=2 * 4503599627370496:=by decide
 rw [n55,n53] at h
 exact h
theorem blen_le (n k:Nat) (h:n<2 ^ k):blen n<=k:=by
 rcases Nat.eq_zero_or_pos n with h0|h0
 ·rw [h0];simp [blen]
 ·obtain ⟨b1,b2,b3⟩:=blen_bounds n (by omega)
  apply Classical.byContradiction
  intro hc
  have:=Nat.pow_le_pow_right (show 0<2 by decide) (show k<=blen n - 1 by omega)
  omega
def NearPost (N D:Nat) (w:World) (e:Ending) (w':World):Prop :=
 ∃ b:Nat,e=.returned (.tuple #[.int .u64 b,.int .i64 0])/\Rnd (Y75 N) D b/\Below w.heap.size w w'
theorem scale_step {P0 Q0 E:Nat} {e:Int} (hQ:Q0≠0) (h:(E:Int)=e+1074) (ha:Y75 P0<36028797018963968 * (Q0 * 2 ^ E)) :
 shNum P0 e / shDen Q0 e<72057594037927936/\Step (Y75 P0) (Q0 * 2 ^ E) (rheN (shNum P0 e) (shDen Q0 e)):=by
 have hr:=sh_rel P0 Q0 E e h
 have hQ1:0<shDen Q0 e:=Nat.mul_pos (by omega) (Nat.pow_pos (by decide))
 have hT:0<Q0 * 2 ^ E:=Nat.mul_pos (by omega) (Nat.pow_pos (by decide))
 generalize Y75 P0=Y at *
 generalize shNum P0 e=P at *
 generalize shDen Q0 e=Q at *
 generalize Q0 * 2 ^ E=T at *
 have hst:=(rhe_of P Q hQ1).turn hQ1 hT hr
 refine ⟨?_,⟨hst.1,hst.2⟩⟩
 rw [Nat.div_lt_iff_lt_mul hQ1]
 have h1:2 * P * T<(36028797018963968 * Q) * T:=by
  rw [hr,Nat.mul_assoc,Nat.mul_comm Q T,<-Nat.mul_assoc]
  exact Nat.mul_lt_mul_of_pos_right ha hQ1
 have h2:=Nat.lt_of_mul_lt_mul_right h1
 omega
theorem fin_bits (e:Int) (E n:Nat) (he:e+1075=E+1) (h1:4503599627370496<=n) (h2:n<=9007199254740992) (hE:E<=2047) :
 IntKind.u64.wrap ((e+1075) * 4503599627370496+IntKind.u64.wrap ((n:Int) - 4503599627370496))=((E * 4503599627370496+n:Nat):Int):=by
 rw [he,IntKind.wrap_u64,IntKind.wrap_u64]
 omega
theorem tup_bits {a b:Int} (h:a=b):Ending.returned (Value.tuple #[Value.int .u64 a,Value.int .i64 0])=Ending.returned (Value.tuple #[Value.int .u64 b,Value.int .i64 0]):=by rw [h]
variable (ad:Option Addr) (ca:Nat) (xs:List Int) (exp:Int) (w:World)
set_option maxHeartbeats 1000000 in
theorem near_zero (h:Rd .u32 w ad ca xs) (hl:xs.length<=1000) (h1:-1000<=exp) (h2:exp<=1000) (hx:bval xs=0) :
 Calls Tryz.prog 127 #[.slice ad xs.length ca,.int .i64 exp] w (NearPost (bval xs * tenUp exp) (tenDn exp) w):=by
 have hL:=bigLen_any ad ca xs w h (by omega)
 unfold LenPost at hL
 rw [(blen_zero _).2 hx] at hL
 have HL:=Lib.hid hL
 have hr:=rnd_zero75 (tenDn exp) (tenDn_pos exp)
 rw [hx,Nat.zero_mul]
 have HR:=Lib.hid hr
 have t2:decide (exp< -1000)=false:=decide_eq_false (by omega)
 have t3:decide (1000<exp)=false:=decide_eq_false (by omega)
 clear h hL hx hr
 go_enter Tryz.func127,Tryz.ntmps127
 go_wp2_with fail
 refine HL.out.mono ?_
 rintro e w' ⟨rfl,rfl⟩
 go_wp2_with fail
 refine HL.out.mono ?_
 rintro e w' ⟨rfl,rfl⟩
 go_wp2
 go_ret2
 exact ⟨0,rfl,HR.out,Below.refl _ _⟩
set_option maxHeartbeats 4000000 in
theorem near_main (h:Rd .u32 w ad ca xs) (hl:xs.length<=1000) (h1:-1000<=exp) (h2:exp<=1000) (hx:bval xs≠0) (hb:blen (bval xs)<=1280) :
 Calls Tryz.prog 127 #[.slice ad xs.length ca,.int .i64 exp] w (NearPost (bval xs * tenUp exp) (tenDn exp) w):=by
 have hL:=bigLen_any ad ca xs w h (by omega)
 unfold LenPost at hL
 obtain ⟨m,hm⟩:∃ m,m=bval xs:=⟨_,rfl⟩
 have HT:=fun w0 (hb:Below w.heap.size w w0)=>trim_one ad ca xs w0 m (h.keep hb) hm.symm (by omega)
 rw [<-hm] at hL hx hb ⊢
 have fm:Fits m 40:=fits_of_blen m 40 hx (by omega)
 have fu:Fits (tenUp exp) 126:=ten_fits _ (by omega)
 have fd:Fits (tenDn exp) 126:=ten_fits _ (by omega)
 have hup:=tenUp_pos exp
 have hdn:=tenDn_pos exp
 have lm:=fm.len
 have HRT:=fun w0 ao ac (hr:Rd .u32 w0 ao ac (canon m))=>ratio_any ao ac m exp w0 hr (by omega) h1 h2
 have fnum:=fm.mul fu
 obtain ⟨num,hnum⟩:∃ n,n=m * tenUp exp:=⟨_,rfl⟩
 obtain ⟨den,hden⟩:∃ n,n=tenDn exp:=⟨_,rfl⟩
 rw [<-hnum] at fnum
 rw [<-hden] at fd hdn
 rw [<-hnum,<-hden] at HRT ⊢
 have hn0:num≠0:=by rw [hnum];exact Nat.mul_ne_zero hx (by omega)
 have hd0:den≠0:=by omega
 have lnum:=fnum.len
 have lden:=fd.len
 have bn:blen num<=5312:=by have:=blen_of_fits _ _ fnum;omega
 have bd:blen den<=4032:=by have:=blen_of_fits _ _ fd;omega
 have HLN:=fun w0 ao ac (hr:Rd .u32 w0 ao ac (canon num))=>bigLen_any ao ac (canon num) w0 hr (by omega)
 have HLD:=fun w0 ao ac (hr:Rd .u32 w0 ao ac (canon den))=>bigLen_any ao ac (canon den) w0 hr (by omega)
 unfold LenPost at HLN HLD
 rw [bval_canon] at HLN HLD
 have hS:=fun (e:Int) (he1:-1100<=e) (he2:e<=1100) (hlt:shNum num e / shDen den e<72057594037927936) w0 no nc dd dc (hn:Rd .u32 w0 no nc (canon num)) (hd:Rd .u32 w0 dd dc (canon den)) =>
  scaled_any no dd nc dc num den e w0 hn hd (by omega) (by omega) hd0 he1 he2 hlt
 unfold U64Post at hS
 obtain ⟨ln,hln⟩:∃ n,n=blen num:=⟨_,rfl⟩
 obtain ⟨ld,hld⟩:∃ n,n=blen den:=⟨_,rfl⟩
 obtain ⟨E,hE⟩:∃ E:Nat,(E:Int)=max ((ln:Int) - (ld:Int) - 53) (-1074)+1074:=⟨(max ((ln:Int) - (ld:Int) - 53) (-1074)+1074).toNat,by omega⟩
 have hmax:max ((ln:Int) - (ld:Int) - 53) (-1074)=(E:Int) - 1074:=by omega
 obtain ⟨na,nb⟩:=near_first' (num:=num) (den:=den) (E:=E) hn0 hd0 (by omega) (by omega)
 have hD:0<den:=by omega
 rw [<-hln] at HLN bn
 rw [<-hld] at HLD bd
 have HSC:=Lib.hid hS
 obtain ⟨bl,hbl⟩:∃ n,n=blen m:=⟨_,rfl⟩
 rw [<-hbl] at hL hb
 have hbl0:bl≠0:=by rw [hbl];exact fun h=>hx ((blen_zero _).1 h)
 have t1:decide ((1280:Int)<(bl:Int))=false:=decide_eq_false (by omega)
 have t2:decide (exp< -1000)=false:=decide_eq_false (by omega)
 have t3:decide (1000<exp)=false:=decide_eq_false (by omega)
 obtain ⟨z1,z2,z3⟩:=kcn hbl0
 have HL:=Lib.hid hL
 have NA:=Lib.hid na
 have NB:=Lib.hid nb
 have HD:=Lib.hid hD
 have HD0:=Lib.hid hd0
 have HMAX:=Lib.hid hmax
 unfold WordsPost at HT
 unfold TwoPost at HRT
 replace HT:=Lib.hid HT
 replace HRT:=Lib.hid HRT
 replace HLN:=Lib.hid HLN
 replace HLD:=Lib.hid HLD
 clear h hL hm fm fu fd fnum hup hdn hnum hden hn0 hd0 lnum lden lm hS hE na nb hD hln hld hbl hbl0 hx hmax hb
 go_enter Tryz.func127,Tryz.ntmps127
 go_wp2_with fail
 refine HL.out.mono ?_
 rintro e w' ⟨rfl,rfl⟩
 go_wp2_with fail
 refine HL.out.mono ?_
 rintro e w' ⟨rfl,rfl⟩
 go_wp2_with fail
 clear t1 t2 t3 z1 z2 z3
 refine (HT.out w (Below.refl _ _)).mono ?_
 rintro e w1 ⟨mo,mc,rfl,hr,hb⟩
 have HM1:=Lib.hid hr
 have B1:=Lib.hid hb
 clear hr hb
 go_wp2_with fail
 refine (HRT.out w1 _ _ HM1.out).mono ?_
 rintro e w2 ⟨no,nc,dd,dc,rfl,hn,hd,hb⟩
 have HN2:=Lib.hid hn
 have HD2:=Lib.hid hd
 have B2:=Lib.hid (B1.out.trans (hb.mono B1.out.size))
 clear hn hd hb HM1 B1
 go_wp2_with fail
 refine (HLN.out w2 _ _ HN2.out).mono ?_
 rintro e w' ⟨rfl,rfl⟩
 go_wp2_with fail
 refine (HLD.out w2 _ _ HD2.out).mono ?_
 rintro e w' ⟨rfl,rfl⟩
 have hmax:=HMAX.out
 by_cases hbig:2046<=E
 ·have hr:=near_hiE HD.out hbig (NB.out.resolve_left (by omega))
  have HR:=Lib.hid hr
  have t1:decide ((971:Int)<(E:Int) - 1074)=true:=decide_eq_true (by omega)
  clear hr
  go_wp2
  go_ret2
  exact ⟨9218868437227405312,rfl,HR.out,B2.out⟩
 obtain ⟨s1,s2⟩:=scale_step (P0:=num) (Q0:=den) (E:=E) (e:=(E:Int) - 1074) HD0.out (by omega) NA.out
 have hS1:=HSC.out ((E:Int) - 1074) (by omega) (by omega) s1
 obtain ⟨n,hn⟩:∃ n,n=rheN (shNum num ((E:Int) - 1074)) (shDen den ((E:Int) - 1074)):=⟨_,rfl⟩
 rw [<-hn] at hS1 s2
 have hn4:n<=18014398509481984:=s2.top (Nat.mul_pos HD.out (Nat.pow_pos (by decide))) (by have:=NA.out;omega)
 have HS1:=Lib.hid hS1
 have ST:=Lib.hid s2
 have t1:decide ((971:Int)<(E:Int) - 1074)=false:=decide_eq_false (by omega)
 have hE5:E<=2045:=by omega
 clear s1 hS1 hn s2 hbig
 go_wp2_with fail
 refine (HS1.out w2 _ _ _ _ HN2.out HD2.out).mono ?_
 rintro e w3 ⟨rfl,hb⟩
 have B3:=Lib.hid (B2.out.trans (hb.mono B2.out.size))
 have HN3:=Lib.hid (HN2.out.keep hb)
 have HD3:=Lib.hid (HD2.out.keep hb)
 clear hb HN2 HD2 B2 hmax
 by_cases hn2:n<9007199254740992
 ·obtain ⟨r1,r2⟩:=near_one HD.out ST.out hn2 NB.out (by omega)
  have hlt:E * 4503599627370496+n<9218868437227405312:=by omega
  rw [if_neg (by omega)] at r2
  have HR:=Lib.hid r2
  have u2:decide ((9007199254740992:Int)<=(n:Int))=false:=decide_eq_false (by omega)
  have v2:((n:Int)==9007199254740992)=false:=by rw [beq_eq_false_iff_ne];omega
  have v3:decide ((n:Int)=9007199254740992)=false:=decide_eq_false (by omega)
  clear r2
  by_cases hH:n<4503599627370496
  ·obtain rfl:E=0:=by omega
   have HH:=Lib.hid hH
   have HN22:=Lib.hid hn2
   have x2:decide ((n:Int)<4503599627370496)=true:=decide_eq_true (by omega)
   clear r1 hH hn2 hn4 hlt
   go_wp2
   go_ret2
   exact ⟨n,rfl,(by have h:=HR.out;rw [Nat.zero_mul,Nat.zero_add] at h;exact h),B3.out⟩
  ·have x1:decide (n<4503599627370496)=false:=decide_eq_false hH
   have x2:decide ((n:Int)<4503599627370496)=false:=decide_eq_false (by omega)
   have HH:=Lib.hid hH
   have HN22:=Lib.hid hn2
   have HLT:=Lib.hid hlt
   clear r1 hH hn2 hn4 hlt
   go_wp2
   go_ret2
   exact ⟨_,tup_bits (fin_bits ((E:Int) - 1074) E n (by omega) (Nat.le_of_not_lt HH.out) (Nat.le_of_lt HN22.out) (by omega)),HR.out,B3.out⟩
 ·have HN22:Hid (9007199254740992<=n):=Nat.le_of_not_lt hn2
  have e2:den * 2 ^ (E+1)=2 * (den * 2 ^ E):=by rw [Nat.pow_succ,<-Nat.mul_assoc,Nat.mul_comm]
  obtain ⟨s1,s2⟩:=scale_step (P0:=num) (Q0:=den) (E:=E+1) (e:=(E:Int) - 1074+1) HD0.out (by omega) (by rw [e2];have:=NA.out;omega)
  have hS1:=HSC.out ((E:Int) - 1074+1) (by omega) (by omega) s1
  obtain ⟨m,hm⟩:∃ n,n=rheN (shNum num ((E:Int) - 1074+1)) (shDen den ((E:Int) - 1074+1)):=⟨_,rfl⟩
  rw [<-hm] at hS1 s2
  obtain ⟨m1,m2,m3,m4⟩:=near_two HD.out ST.out HN22.out NA.out s2 (by omega)
  have HS2:=Lib.hid hS1
  have M1:=Lib.hid m1
  have M3:=Lib.hid m3
  have M4:=Lib.hid m4
  have M2:=Lib.hid m2
  have u2:decide ((9007199254740992:Int)<=(n:Int))=true:=decide_eq_true (by omega)
  have hm5:m<=9007199254740992:=m2
  clear s1 hS1 hm s2 m1 m2 m3 m4 e2 hn2 hn4
  go_wp2_with fail
  refine (HS2.out w3 _ _ _ _ HN3.out HD3.out).mono ?_
  rintro e w4 ⟨rfl,hb⟩
  have B4:=Lib.hid (B3.out.trans (hb.mono B3.out.size))
  clear hb HN3 HD3 B3
  by_cases hm6:m=9007199254740992
  ·have hr:=M4.out hm6
   have v2:((m:Int)==9007199254740992)=true:=by rw [beq_iff_eq];omega
   have v3:decide ((m:Int)=9007199254740992)=true:=decide_eq_true (by omega)
   by_cases hbig:2044<=E
   ·rw [if_pos (by omega)] at hr
    have HR:=Lib.hid hr
    have x1:decide ((971:Int)<(E:Int) - 1074+1+1)=true:=decide_eq_true (by omega)
    clear hr hm6 hm5
    go_wp2
    go_ret2
    exact ⟨9218868437227405312,rfl,HR.out,B4.out⟩
   ·rw [if_neg (by omega)] at hr
    have HR:=Lib.hid hr
    have x1:decide ((971:Int)<(E:Int) - 1074+1+1)=false:=decide_eq_false (by omega)
    clear hr hm6 hm5
    go_wp2
    go_ret2
    exact ⟨(E+2) * 4503599627370496+4503599627370496,tup_bits (by omega),HR.out,B4.out⟩
  ·have hm7:m<9007199254740992:=by omega
   have hr:=M3.out hm7
   have v2:((m:Int)==9007199254740992)=false:=by rw [beq_eq_false_iff_ne];omega
   have v3:decide ((m:Int)=9007199254740992)=false:=decide_eq_false (by omega)
   by_cases hbig:2045<=E
   ·rw [if_pos (by have:=M1.out;omega)] at hr
    have HR:=Lib.hid hr
    have x1:decide ((971:Int)<(E:Int) - 1074+1)=true:=decide_eq_true (by omega)
    clear hr hm6 hm5 hm7
    go_wp2
    go_ret2
    exact ⟨9218868437227405312,rfl,HR.out,B4.out⟩
   ·rw [if_neg (by omega)] at hr
    have HR:=Lib.hid hr
    have x1:decide ((971:Int)<(E:Int) - 1074+1)=false:=decide_eq_false (by omega)
    have x2:decide ((m:Int)<4503599627370496)=false:=decide_eq_false (by have:=M1.out;omega)
    clear hr hm6 hm5 hm7
    go_wp2
    go_ret2
    exact ⟨_,tup_bits (fin_bits ((E:Int) - 1074+1) (E+1) m (by omega) M1.out M2.out (by omega)),HR.out,B4.out⟩
theorem near_any (h:Rd .u32 w ad ca xs) (hl:xs.length<=1000) (h1:-1000<=exp) (h2:exp<=1000) (hb:blen (bval xs)<=1280) :
 Calls Tryz.prog 127 #[.slice ad xs.length ca,.int .i64 exp] w (NearPost (bval xs * tenUp exp) (tenDn exp) w):=by
 by_cases hx:bval xs=0
 ·exact near_zero ad ca xs exp w h hl h1 h2 hx
 ·exact near_main ad ca xs exp w h hl h1 h2 hx hb
end Go.Proofs.YtldhmfkojaekfaaGreatDoor
namespace Go.Proofs.YtldhmfkojaekfaaGreatDoor
open Go.RowKit Gx
set_option maxRecDepth 100000
theorem and_mask (x n:Nat) (hx:x<18446744073709551616) (m:Nat) (hm:m+1=2 ^ n) (hm2:m<18446744073709551616):bits BinOp.and IntKind.u64 (x:Int) (m:Int)=((x % 2 ^ n:Nat):Int):=by
 rw [bits_and_u64_nat x m hx hm2,show m=2 ^ n - 1 by omega,Nat.and_two_pow_sub_one_eq_mod]
theorem or_hidden (f:Nat) (h:f<4503599627370496):bits BinOp.or IntKind.u64 (f:Int) 4503599627370496=((f+4503599627370496:Nat):Int):=by
 have h52:(2:Nat) ^ 52=4503599627370496:=by decide
 have h2:=bits_or_u64_nat f 4503599627370496 (by omega) (by omega)
 have h3:=Nat.shiftLeft_add_eq_or_of_lt (b:=f) (i:=52) (by rw [h52];exact h) 1
 rw [Nat.shiftLeft_eq,Nat.one_mul,h52,Nat.or_comm] at h3
 rw [<-h3,Nat.add_comm] at h2
 exact h2
def PartsPostFl (b:Nat) (w:World) (e:Ending) (w':World):Prop :=
 ∃ (m:Nat) (x k:Int),e=.returned (.tuple #[.int .u64 m,.int .i64 x,.int .i64 k]) /\
  ((b / 4503599627370496 % 2048=2047/\m=0/\((b % 4503599627370496=0/\k=1)\/(b % 4503599627370496≠0/\k=2))) \/
   (b / 4503599627370496 % 2048≠2047/\k=0/\m<9007199254740992/\∃ E:Nat,x=(E:Int) - 1074/\E<=2045/\(E=0\/4503599627370496<=m)/\b % 9223372036854775808=E * 4503599627370496+m))/\w=w'
theorem tup3 {a b c d:Int} (h:a=b):Ending.returned (Value.tuple #[Value.int .u64 a,Value.int .i64 c,Value.int .i64 d])=Ending.returned (Value.tuple #[Value.int .u64 b,Value.int .i64 c,Value.int .i64 d]):=by rw [h]
theorem fin_parts (B ee f:Nat) (h:B=ee * 4503599627370496+f) (h0:ee≠0):B=(ee - 1) * 4503599627370496+(f+4503599627370496):=by
 obtain ⟨k,rfl⟩:∃ k,ee=k+1:=⟨ee - 1,by omega⟩
 rw [h,Nat.add_sub_cancel,Nat.add_mul,Nat.one_mul,Nat.add_comm f,Nat.add_assoc]
theorem shr52 (b:Nat):(b:Int) / 4503599627370496=((b / 4503599627370496:Nat):Int):=by omega
set_option maxHeartbeats 1000000 in
theorem parts_anyFl (b:Nat) (w:World) (hb:b<18446744073709551616) :
 Calls Tryz.prog 114 #[.int .u64 b] w (PartsPostFl b w):=by
 have e1:=shr52 b
 have e2:=and_mask (b / 4503599627370496) 11 (by omega) 2047 (by decide) (by omega)
 have e3:=and_mask b 52 hb 4503599627370495 (by decide) (by omega)
 have p11:(2:Nat) ^ 11=2048:=by decide
 have p52:(2:Nat) ^ 52=4503599627370496:=by decide
 rw [p11,<-e1] at e2
 rw [p52] at e3
 obtain ⟨ee,hee⟩:∃ x,x=b / 4503599627370496 % 2048:=⟨_,rfl⟩
 obtain ⟨f,hf⟩:∃ x,x=b % 4503599627370496:=⟨_,rfl⟩
 rw [<-hee] at e2
 rw [<-hf] at e3
 have hor:=or_hidden f (by omega)
 have hfin:Hid (b % 9223372036854775808=ee * 4503599627370496+f):=by show _=_;omega
 have HEE:=Lib.hid hee
 have HF:=Lib.hid hf
 have hee2:ee<2048:=by omega
 have hf2:f<4503599627370496:=by omega
 have e2':bits BinOp.and IntKind.u64 ((b:Int) / 4503599627370496) 2047=(ee:Int):=e2
 have e3':bits BinOp.and IntKind.u64 (b:Int) 4503599627370495=(f:Int):=e3
 have HF2:=Lib.hid hf2
 clear e1 e2 e3 p11 p52 hee hf hb hf2
 by_cases h1:ee=2047
 ·subst h1
  by_cases h2:f=0
  ·subst h2
   go_enter Tryz.func114,Tryz.ntmps114
   go_wp2
   go_ret3
   exact ⟨0,0,1,rfl,.inl ⟨HEE.out.symm,rfl,.inl ⟨HF.out.symm,rfl⟩⟩,rfl⟩
  ·obtain ⟨n1,n2,n3⟩:=kcn h2
   have HH:=Lib.hid h2
   clear h2
   go_enter Tryz.func114,Tryz.ntmps114
   go_wp2
   go_ret3
   exact ⟨0,0,2,rfl,.inl ⟨HEE.out.symm,rfl,.inr ⟨by rw [<-HF.out];exact HH.out,rfl⟩⟩,rfl⟩
 ·have t1:((ee:Int)==2047)=false:=by rw [beq_eq_false_iff_ne];omega
  have t2:decide ((ee:Int)=2047)=false:=decide_eq_false (by omega)
  have HH:=Lib.hid h1
  clear h1
  by_cases h2:ee=0
  ·subst h2
   go_enter Tryz.func114,Tryz.ntmps114
   go_wp2
   go_ret3
   refine ⟨f,-1074,0,rfl,.inr ⟨by rw [<-HEE.out];decide,rfl,by have:=HF2.out;omega,0,by omega,by omega,.inl rfl,hfin.out⟩,rfl⟩
  ·obtain ⟨n1,n2,n3⟩:=kcn h2
   have H2:=Lib.hid h2
   clear h2
   go_enter Tryz.func114,Tryz.ntmps114
   go_wp2
   go_ret3
   refine ⟨f+4503599627370496,(ee:Int) - 1075,0,tup3 (a:=(f:Int)+4503599627370496) (by omega),.inr ⟨by rw [<-HEE.out];exact HH.out,rfl,by have:=HF2.out;omega,ee - 1,by have:=H2.out;omega,by have:=HH.out;omega,.inr (by omega),fin_parts _ _ _ hfin.out H2.out⟩,rfl⟩
def TrueP (w:World) (e:Ending) (w':World):Prop:=e=.returned (.bool true)/\w=w'
set_option maxRecDepth 100000
def TruePost2 (w:World) (e:Ending) (w':World):Prop:=e=.returned (.bool true)/\Below w.heap.size w w'
theorem ten_shift (e:Int) (k:Nat):tenUp e * tenDn (e - (k:Int))=10 ^ k * tenUp (e - (k:Int)) * tenDn e:=by
 unfold tenUp tenDn
 rw [<-Nat.pow_add,<-Nat.pow_add,<-Nat.pow_add]
 congr 1
 omega
theorem y75_mul (N C M D:Nat) (h:N * C=M * D):Y75 N * C=Y75 M * D:=by
 unfold Y75
 obtain ⟨K,hK⟩:∃ K:Nat,K=1075:=⟨_,rfl⟩
 rw [<-hK]
 generalize 2 ^ K=u
 rw [Nat.mul_right_comm,h,Nat.mul_right_comm]
theorem cmp_two' (ad bd:Option Addr) (ca cb:Nat) (xs ys:List Int) (w:World) (N M:Nat) (h:Rd .u32 w ad ca xs) (g:Rd .u32 w bd cb ys) (hx:bval xs=N) (hy:bval ys=M) (lx:xs.length<=1000000) (ly:ys.length<=1000000) :
 Calls Tryz.prog 164 #[.slice ad xs.length ca,.slice bd ys.length cb] w (CmpPostFl N M w):=by
 subst hx;subst hy;exact bigCmp_any ad bd ca cb xs ys w h g (by omega) (by omega)
theorem near_two' (ad:Option Addr) (ca:Nat) (xs:List Int) (w:World) (N:Nat) (exp:Int) (h:Rd .u32 w ad ca xs) (hx:bval xs=N) (hl:xs.length<=1000) (h1:-1000<=exp) (h2:exp<=1000) (hb:blen N<=1280) :
 Calls Tryz.prog 127 #[.slice ad xs.length ca,.int .i64 exp] w (NearPost (N * tenUp exp) (tenDn exp) w):=by
 subst hx;exact near_any ad ca xs exp w h hl h1 h2 hb
end Go.Proofs.YtldhmfkojaekfaaGreatDoor
namespace Go.Proofs.YtldhmfkojaekfaaGreatDoor
set_option maxRecDepth 100000
def dist (a b:Nat):Nat:=(a - b)+(b - a)
end Go.Proofs.YtldhmfkojaekfaaGreatDoor
namespace Go.Proofs.YtldhmfkojaekfaaGreatDoor
open Go.RowKit Gx
set_option maxRecDepth 100000
def X74 (n:Nat):Nat:=n * 2 ^ 1074
theorem x74_of (N K:Nat) (h:K=1074):X74 N=N * 2 ^ K:=by rw [h];rfl
def PairPost (K:Nat) (P:Nat->Nat->Prop) (w:World) (e:Ending) (w':World):Prop :=
 ∃ no nc xs dd dc ys,e=.returned (.tuple #[.slice no (xs:List Int).length nc,.slice dd (ys:List Int).length dc])/\Rd .u32 w' no nc xs/\Rd .u32 w' dd dc ys/\xs.length<=K/\ys.length<=K/\P (bval xs) (bval ys)/\Below w.heap.size w w'
theorem pair_rd (w:World) (a b:Int) (ha:(Lit.int .u32 a).wf=true) (hb:(Lit.int .u32 b).wf=true):Rd .u32 (w.alloc (.cells #[.int .u32 a,.int .u32 b] 145)) (some ⟨w.heap.size,0,none⟩) 2 [a,b]:=by
 refine ⟨by simp,by decide,fun x hx=>?_,(fun h=>by cases h),fun ad had _=>?_⟩
 ·simp at hx
  rcases hx with rfl|rfl
  ·exact ha
  ·exact hb
 ·obtain rfl:=Option.some.inj had
  refine ⟨rfl,by simp,fun j hj=>?_⟩
  rcases (show j=0\/j=1 by simp at hj;omega) with rfl|rfl
  ·exact World.cell?_alloc_mark w _ _ (0,0) 0
  ·exact World.cell?_alloc_mark w _ _ (0,0) 1
theorem wf32 (n:Nat) (h:n<4294967296):(Lit.int .u32 (n:Int)).wf=true:=by
 simp [Lit.wf,IntKind.min,IntKind.max,IntKind.signed,IntKind.bits];omega
theorem fits_two (m:Nat) (h:m<9007199254740992):Fits m 2:=by
 have h1:(4294967296:Nat) ^ 2=18446744073709551616:=by decide
 unfold Fits;rw [h1];omega
theorem halves (m:Nat) (h:m<18446744073709551616):bval [((m % 4294967296:Nat):Int),((m / 4294967296:Nat):Int)]=m:=by
 simp [bval];omega
def IsFrac (b A B:Nat):Prop:=X74 A=fval (b % 9223372036854775808) * B/\0<B
theorem frac_up (b m E:Nat) (h:b % 9223372036854775808=E * 4503599627370496+m) (hm:m<9007199254740992) (h2:E=0\/4503599627370496<=m) (n:Nat) (hE:E=n+1074):IsFrac b (m * 2 ^ n) 1:=by
 obtain ⟨K,hK⟩:∃ K:Nat,K=1074:=⟨_,rfl⟩
 refine ⟨?_,Nat.one_pos⟩
 rw [h,fval_of m E hm h2,x74_of _ K hK,hE,<-hK,Nat.pow_add,Nat.mul_assoc,Nat.mul_one]
theorem frac_dn (b m E:Nat) (h:b % 9223372036854775808=E * 4503599627370496+m) (hm:m<9007199254740992) (h2:E=0\/4503599627370496<=m) (n:Nat) (hE:E+n=1074):IsFrac b m (2 ^ n):=by
 obtain ⟨K,hK⟩:∃ K:Nat,K=1074:=⟨_,rfl⟩
 refine ⟨?_,Nat.two_pow_pos n⟩
 rw [h,fval_of m E hm h2,x74_of _ K hK,Nat.mul_assoc,<-Nat.pow_add,hE,hK]
theorem shift_left' (ad:Option Addr) (ca:Nat) (xs:List Int) (n N:Nat) (w:World) (h:Rd .u32 w ad ca xs) (hx:bval xs=N) (hl:xs.length<=262144) (hn:n<=4000) :
 Calls Tryz.prog 134 #[.slice ad xs.length ca,.int .i64 n] w (SubPost (N * 2 ^ n) w):=by
 subst hx;exact bigShift_left ad ca xs n w h hl hn
def ApartIs (N D A B X Y:Nat):Prop:=X=dist (N * B) (A * D)/\Y=D * B
set_option maxRecDepth 100000
def Bel (N D:Nat) (p:Int):Prop:=N * tenDn p<D * tenUp p
instance (N D:Nat) (p:Int):Decidable (Bel N D p):=inferInstanceAs (Decidable (_<_))
theorem ten_mono {p q:Int} (h:p<=q):tenUp p<=tenUp q/\tenDn q<=tenDn p:=by
 unfold tenUp tenDn
 exact ⟨Nat.pow_le_pow_right (by omega) (by omega),Nat.pow_le_pow_right (by omega) (by omega)⟩
theorem Bel.mono {N D:Nat} {p q:Int} (h:Bel N D p) (hpq:p<=q):Bel N D q:=by
 obtain ⟨h1,h2⟩:=ten_mono hpq
 exact Nat.lt_of_le_of_lt (Nat.mul_le_mul_left N h2) (Nat.lt_of_lt_of_le h (Nat.mul_le_mul_left D h1))
theorem cmp_dec (a b:Nat):decide (cmpOf a b<0)=decide (a<b):=by
 unfold cmpOf
 by_cases h:a<b
 ·rw [if_pos h];simp [h]
 ·rw [if_neg h]
  split<;>simp [h]
def BoolPost (b:Bool) (w:World) (e:Ending) (w':World):Prop:=e=.returned (.bool b)/\Below w.heap.size w w'
set_option maxHeartbeats 2000000 in
theorem below_any (ad bd:Option Addr) (ca cb:Nat) (xs ys:List Int) (N D:Nat) (p:Int) (w:World) (h:Rd .u32 w ad ca xs) (g:Rd .u32 w bd cb ys) (hx:bval xs=N) (hy:bval ys=D) (lx:xs.length<=60) (ly:ys.length<=60) (h1:-500<=p) (h2:p<=500) :
 Calls Tryz.prog 160 #[.slice ad xs.length ca,.slice bd ys.length cb,.int .i64 p] w (BoolPost (decide (Bel N D p)) w):=by
 have fN:Fits N 60:=by rw [<-hx];exact (Fits.words (words_of_rd h)).mono lx
 have fD:Fits D 60:=by rw [<-hy];exact (Fits.words (words_of_rd g)).mono ly
 have fu:Fits (tenUp p) 63:=ten_fitsK _ 63 (by omega)
 have fd:Fits (tenDn p) 63:=ten_fitsK _ 63 (by omega)
 have lu:=fu.len
 have ld:=fd.len
 have l1:=(fN.mul fd).len
 have l2:=(fD.mul fu).len
 have HR:=fun w0 ad (hr:Rd .u32 w0 ad 1 [1])=>ratio_any ad 1 1 p w0 hr (by decide) (by omega) (by omega)
 have HM1:=fun w0 (hb:Below w.heap.size w w0) po pc (hr:Rd .u32 w0 po pc (canon (tenDn p)))=>mul_two ad po ca pc xs (canon (tenDn p)) w0 N (tenDn p) (h.keep hb) hr hx (bval_canon _) (by omega) (by omega)
 have HM2:=fun w0 (hb:Below w.heap.size w w0) po pc (hr:Rd .u32 w0 po pc (canon (tenUp p)))=>mul_two bd po cb pc ys (canon (tenUp p)) w0 D (tenUp p) (g.keep hb) hr hy (bval_canon _) (by omega) (by omega)
 have HC:=fun w0 po pc qo qc (hr:Rd .u32 w0 po pc (canon (N * tenDn p))) (hq:Rd .u32 w0 qo qc (canon (D * tenUp p)))=>cmp_two' po qo pc qc (canon (N * tenDn p)) (canon (D * tenUp p)) w0 (N * tenDn p) (D * tenUp p) hr hq (bval_canon _) (bval_canon _) (by omega) (by omega)
 have e1:1 * tenUp p=tenUp p:=Nat.one_mul _
 rw [e1] at HR
 have hres:decide (cmpOf (N * tenDn p) (D * tenUp p)<0)=decide (Bel N D p):=cmp_dec _ _
 unfold TwoPost at HR
 unfold WordsPost at HM1 HM2
 unfold CmpPostFl at HC
 generalize tenUp p=U at *
 generalize tenDn p=V at *
 generalize decide (Bel N D p)=res at *
 obtain ⟨n0,hn0⟩:∃ n,n=xs.length:=⟨_,rfl⟩
 obtain ⟨n1,hn1⟩:∃ n,n=ys.length:=⟨_,rfl⟩
 rw [<-hn0] at HM1 ⊢
 rw [<-hn1] at HM2 ⊢
 replace HR:=Lib.hid HR
 replace HM1:=Lib.hid HM1
 replace HM2:=Lib.hid HM2
 replace HC:=Lib.hid HC
 have HRES:=Lib.hid hres
 clear h g hx hy lx ly fN fD fu fd lu ld l1 l2 hn0 hn1 hres e1 h1 h2
 go_enter Tryz.func160,Tryz.ntmps160
 go_wp2_with fail
 have ho:=one_rd w
 have hc1:canon 1=[1]:=rfl
 rw [hc1] at ho
 have b0:=(Below.refl w.heap.size w).alloc (Nat.le_refl _) (.cells #[.int .u32 1] 145)
 refine (HR.out _ _ ho).mono ?_
 rintro e0 w1 ⟨no,nc,dd,dc,rfl,hr,hr2,hb⟩
 have U1:=Lib.hid hr
 have V1:=Lib.hid hr2
 have B1:=Lib.hid (b0.trans (hb.mono b0.size))
 clear hr hr2 hb b0 ho hc1
 go_wp2_with fail
 refine (HM1.out w1 B1.out _ _ V1.out).mono ?_
 rintro e0 w2 ⟨mo,mc,rfl,hr,hb⟩
 have M2:=Lib.hid hr
 have U2:=Lib.hid (U1.out.keep hb)
 have B2:=Lib.hid (B1.out.trans (hb.mono B1.out.size))
 clear hr hb B1 U1 V1
 go_wp2_with fail
 refine (HM2.out w2 B2.out _ _ U2.out).mono ?_
 rintro e0 w3 ⟨po,pc,rfl,hr,hb⟩
 have P3:=Lib.hid hr
 have M3:=Lib.hid (M2.out.keep hb)
 have B3:=Lib.hid (B2.out.trans (hb.mono B2.out.size))
 clear hr hb B2 U2 M2
 go_wp2_with fail
 refine (HC.out w3 _ _ _ _ M3.out P3.out).mono ?_
 rintro e0 w4 ⟨rfl,hb⟩
 have B4:=Lib.hid (B3.out.trans (hb.mono B3.out.size))
 clear hb B3 M3 P3
 have hres:=HRES.out
 generalize cmpOf (N * V) (D * U)=cc at *
 subst hres
 clear HRES
 go_wp2
 go_ret
 exact ⟨rfl,B4.out⟩
theorem tdiv_bound (a:Int) (h1:-3300<=a) (h2:a<=3300):-400<=a.tdiv 10/\a.tdiv 10<=400:=by
 rcases Int.le_total 0 a with h|h
 ·rw [Int.tdiv_eq_ediv_of_nonneg h];omega
 ·obtain ⟨b,rfl⟩:∃ b,a=-b:=⟨-a,by omega⟩
  rw [Int.neg_tdiv,Int.tdiv_eq_ediv_of_nonneg (by omega)];omega
def MagPost (N D:Nat) (w:World) (e:Ending) (w':World):Prop :=
 ∃ p:Int,e=.returned (.int .i64 p)/\-400<=p/\p<=400/\Bel N D p/\¬ Bel N D (p - 1)/\Below w.heap.size w w'
set_option maxHeartbeats 2000000 in
theorem magnitude_any (ad bd:Option Addr) (ca cb:Nat) (xs ys:List Int) (N D:Nat) (w:World) (h:Rd .u32 w ad ca xs) (g:Rd .u32 w bd cb ys) (hx:bval xs=N) (hy:bval ys=D) (lx:xs.length<=60) (ly:ys.length<=60)
 (bN:blen N<=1100) (bD:blen D<=1100) (hi:Bel N D 400) (lo:¬ Bel N D (-400)) :
 Calls Tryz.prog 135 #[.slice ad xs.length ca,.slice bd ys.length cb] w (MagPost N D w):=by
 have HL1:=bigLen_any ad ca xs w h (by omega)
 have HL2:=bigLen_any bd cb ys w g (by omega)
 rw [hx] at HL1
 rw [hy] at HL2
 have HB:=fun w0 (hb:Below w.heap.size w w0) p (h1:-500<=p) (h2:p<=500)=>below_any ad bd ca cb xs ys N D p w0 (h.keep hb) (g.keep hb) hx hy lx ly h1 h2
 unfold LenPost at HL1 HL2
 unfold BoolPost at HB
 obtain ⟨n0,hn0⟩:∃ n,n=xs.length:=⟨_,rfl⟩
 obtain ⟨n1,hn1⟩:∃ n,n=ys.length:=⟨_,rfl⟩
 rw [<-hn0] at HL1 HB ⊢
 rw [<-hn1] at HL2 HB ⊢
 replace HL1:=Lib.hid HL1
 replace HL2:=Lib.hid HL2
 replace HB:=Lib.hid HB
 have HI:=Lib.hid hi
 have LO:=Lib.hid lo
 generalize blen N=bn at *
 generalize blen D=bd' at *
 clear h g hx hy lx ly hn0 hn1 hi lo
 go_enter Tryz.func135,Tryz.ntmps135
 go_wp2_with fail
 refine HL1.out.mono ?_
 rintro e0 w1 ⟨rfl,rfl⟩
 go_wp2_with fail
 refine HL2.out.mono ?_
 rintro e0 w1 ⟨rfl,rfl⟩
 go_wp2_with fail
 go_loopw [5] (fun pv wr=>∃ p:Int,pv=.int .i64 p/\-400<=p/\p<=400/\Below w.heap.size w wr) (fun pv _=>(400 - intOf pv).toNat)
 case atStart =>
  have:=tdiv_bound (((bn:Int) - (bd':Int)) * 3) (by omega) (by omega)
  exact ⟨_,rfl,this.1,this.2,Below.refl _ _⟩
 case round =>
  obtain ⟨p,rfl,h1,h2,hb⟩:=hrel
  have hB:=Lib.hid (HB.out wr hb p (by omega) (by omega))
  by_cases hp:Bel N D p
  ·rw [decide_eq_true hp] at hB
   have HP:=Lib.hid hp
   clear hp
   go_wp2_with fail
   refine hB.out.mono ?_
   rintro e0 w2 ⟨rfl,hb2⟩
   have B2:=Lib.hid (hb.trans (hb2.mono hb.size))
   obtain ⟨wo,rfl⟩:∃ wo:World,wo=wr:=⟨_,rfl⟩
   clear hb hb2 hB
   go_wp2_with fail
   go_loopw [5] (fun pv wr=>∃ p:Int,pv=.int .i64 p/\-400<=p/\p<=400/\Hid (Bel N D p)/\Below w.heap.size w wr) (fun pv _=>(intOf pv+400).toNat)
   case atStart=>exact ⟨p,rfl,h1,h2,HP,B2.out⟩
   case round =>
    clear HP B2 h1 h2
    obtain ⟨q,rfl,h1,h2,hq,hb⟩:=hrel
    have hB:=Lib.hid (HB.out wr hb (q - 1) (by omega) (by omega))
    by_cases hp:Bel N D (q - 1)
    ·have h3:-400<q - 1:=by
      apply Classical.byContradiction
      intro h
      exact LO.out (hp.mono (by omega))
     rw [decide_eq_true hp] at hB
     have HP:=Lib.hid hp
     clear hp
     go_wp2_with fail
     refine hB.out.mono ?_
     rintro e0 w2 ⟨rfl,hb2⟩
     have B2:=Lib.hid (hb.trans (hb2.mono hb.size))
     clear hb hb2 hB
     go_wp2_with fail
     go_roundw
     case rel=>exact ⟨q - 1,rfl,by omega,by omega,HP,B2.out⟩
     case measure=>simp [intOf];omega
    ·rw [decide_eq_false hp] at hB
     have HP:=Lib.hid hp
     clear hp
     go_wp2_with fail
     refine hB.out.mono ?_
     rintro e0 w2 ⟨rfl,hb2⟩
     have B2:=Lib.hid (hb.trans (hb2.mono hb.size))
     clear hb hb2 hB
     go_wp2
     go_ret
     exact ⟨q,rfl,h1,h2,hq.out,HP.out,B2.out⟩
  ·have h3:p<400:=by
    apply Classical.byContradiction
    intro h
    exact hp (HI.out.mono (by omega))
   rw [decide_eq_false hp] at hB
   clear hp
   go_wp2_with fail
   refine hB.out.mono ?_
   rintro e0 w2 ⟨rfl,hb2⟩
   have B2:=Lib.hid (hb.trans (hb2.mono hb.size))
   clear hb hb2 hB
   go_wp2_with fail
   go_roundw
   case rel=>exact ⟨p+1,rfl,by omega,by omega,B2.out⟩
   case measure=>simp [intOf];omega
end Go.Proofs.YtldhmfkojaekfaaGreatDoor
namespace Go.Proofs.YtldhmfkojaekfaaGreatDoor
def dcF:Nat->Nat->List Nat
 | 0,_=>[]
 | f+1,n=>if n=0 then [] else n % 10::dcF f (n / 10)
def dig (n:Nat):List Nat:=dcF n n
theorem dcF_fuel:∀ (f g n:Nat),n<=f->n<=g->dcF f n=dcF g n
 | 0,0,_,_,_=>rfl
 | 0,g+1,n,h,_=>by have:n=0:=by omega
                   subst this;simp [dcF]
 | f+1,0,n,_,h=>by have:n=0:=by omega
                   subst this;simp [dcF]
 | f+1,g+1,n,h1,h2=>by
   unfold dcF
   by_cases h:n=0
   ·simp [h]
   ·rw [if_neg h,if_neg h,dcF_fuel f g (n / 10) (by omega) (by omega)]
theorem dig_zero:dig 0=[]:=rfl
theorem dig_pos (n:Nat) (h:n≠0):dig n=n % 10::dig (n / 10):=by
 unfold dig
 obtain ⟨m,rfl⟩:∃ m,n=m+1:=⟨n - 1,by omega⟩
 conv=>lhs;unfold dcF
 rw [if_neg (by omega),dcF_fuel m ((m+1) / 10) _ (by omega) (Nat.le_refl _)]
theorem dig_lt:∀ (n:Nat),∀ d∈dig n,d<10:=by
 intro n
 induction n using Nat.strongRecOn with
 | ind n ih =>
   by_cases h:n=0
   ·subst h;intro d hd;simp [dig_zero] at hd
   ·rw [dig_pos n h]
    intro d hd
    rcases List.mem_cons.1 hd with rfl|hd
    ·omega
    ·exact ih _ (by omega) d hd
theorem dig_len_le (n k:Nat) (h:n<10 ^ k):(dig n).length<=k:=by
 induction k generalizing n with
 | zero=>simp at h;subst h;simp [dig_zero]
 | succ k ih =>
   by_cases h0:n=0
   ·subst h0;simp [dig_zero]
   ·rw [dig_pos n h0,List.length_cons]
    have:=ih (n / 10) (by rw [Nat.pow_succ] at h;omega)
    omega
theorem dig_len_lt (n:Nat):n<10 ^ (dig n).length:=by
 induction n using Nat.strongRecOn with
 | ind n ih =>
   by_cases h:n=0
   ·subst h;simp [dig_zero]
   ·rw [dig_pos n h,List.length_cons,Nat.pow_succ]
    have:=ih (n / 10) (by omega)
    omega
def byteOf (d:Nat):UInt8:=UInt8.ofNat (48+d)
theorem byteOf_nat (d:Nat) (h:d<10):(byteOf d).toNat=48+d:=by
 unfold byteOf
 rw [UInt8.toNat_ofNat']
 omega
def decText (n:Nat):List UInt8:=if n=0 then [48] else (dig n).reverse.map byteOf
def decVal (s:List UInt8):Nat:=s.foldl (fun a b=>a * 10+(b.toNat - 48)) 0
def isDigit (b:UInt8):Bool:=decide (48<=b.toNat) && decide (b.toNat<=57)
def decOk (s:List UInt8):Prop:=s≠[]/\(∀ b∈s,isDigit b=true)/\(s.head?=some 48->s.length=1)
theorem decVal_snoc (s:List UInt8) (b:UInt8):decVal (s++[b])=decVal s * 10+(b.toNat - 48):=by
 simp [decVal,List.foldl_append]
theorem decVal_digs:∀ (n:Nat),decVal ((dig n).reverse.map byteOf)=n:=by
 intro n
 induction n using Nat.strongRecOn with
 | ind n ih =>
   by_cases h:n=0
   ·subst h;rfl
   ·rw [dig_pos n h,List.reverse_cons,List.map_append,List.map_cons,List.map_nil,decVal_snoc,ih _ (by omega),byteOf_nat _ (by omega)]
    omega
theorem decVal_text (n:Nat):decVal (decText n)=n:=by
 unfold decText
 by_cases h:n=0
 ·subst h;rfl
 ·rw [if_neg h];exact decVal_digs n
theorem byteOf_digit (d:Nat) (h:d<10):isDigit (byteOf d)=true:=by
 unfold isDigit
 rw [byteOf_nat d h]
 simp;omega
theorem digs_head:∀ (n:Nat),n≠0->∃ d l,(dig n).reverse=d::l/\d≠0/\d<10:=by
 intro n
 induction n using Nat.strongRecOn with
 | ind n ih =>
   intro h
   rw [dig_pos n h]
   by_cases h2:n / 10=0
   ·rw [h2,dig_zero]
    exact ⟨n % 10,[],rfl,by omega,by omega⟩
   ·obtain ⟨d,l,e,hd⟩:=ih (n / 10) (by omega) h2
    exact ⟨d,l++[n % 10],by rw [List.reverse_cons,e];rfl,hd⟩
theorem decOk_text (n:Nat):decOk (decText n):=by
 unfold decText
 by_cases h:n=0
 ·subst h;exact ⟨by simp,by intro b hb;simp at hb;subst hb;decide,by simp⟩
 ·rw [if_neg h]
  obtain ⟨d,l,e,hd0,hd1⟩:=digs_head n h
  refine ⟨by rw [e];simp,fun b hb=>?_,fun hh=>?_⟩
  ·obtain ⟨x,hx,rfl⟩:=List.mem_map.1 hb
   exact byteOf_digit x (dig_lt n x (List.mem_reverse.1 hx))
  ·exfalso
   rw [e] at hh
   simp at hh
   have:=byteOf_nat d hd1
   rw [hh] at this
   have h48:(48:UInt8).toNat=48:=by decide
   omega
theorem decText_len (n k:Nat) (h:n<10 ^ k) (hk:1<=k):(decText n).length<=k:=by
 unfold decText
 by_cases h0:n=0
 ·simp [h0];exact hk
 ·rw [if_neg h0];simp;exact dig_len_le n k h
theorem digs_decVal:∀ (k:Nat) (s:List UInt8),s.length=k->s≠[]->(∀ b∈s,isDigit b=true)->s.head?≠some 48->decVal s≠0/\(dig (decVal s)).reverse.map byteOf=s:=by
 intro k
 induction k with
 | zero=>intro s hs hne;exact absurd (List.eq_nil_of_length_eq_zero hs) hne
 | succ k ih =>
   intro s hs hne hd hh
   have e:=List.dropLast_concat_getLast hne
   obtain ⟨p,b,rfl⟩:∃ p b,s=p++[b]:=⟨_,_,e.symm⟩
   have hb:=hd b (by simp)
   simp [isDigit] at hb
   have hback:byteOf (b.toNat - 48)=b:=by
    apply UInt8.toNat_inj.1
    rw [byteOf_nat _ (by omega)];omega
   by_cases hp:p=[]
   ·subst hp
    have hb0:b.toNat≠48:=by
     intro h0
     apply hh
     have:b=48:=UInt8.toNat_inj.1 h0
     rw [this];rfl
    have hv:decVal ([]++[b])=b.toNat - 48:=by simp [decVal]
    rw [hv]
    refine ⟨by omega,?_⟩
    rw [dig_pos _ (by omega),show (b.toNat - 48) / 10=0 by omega,dig_zero,show (b.toNat - 48) % 10=b.toNat - 48 by omega]
    simp [hback]
   ·obtain ⟨h1,h2⟩:=ih p (by simp at hs;exact hs) hp (fun x hx=>hd x (by simp [hx])) (by
     intro h0;apply hh
     cases p with
     | nil=>exact absurd rfl hp
     | cons x p=>simpa using h0)
    rw [decVal_snoc]
    refine ⟨by omega,?_⟩
    rw [dig_pos _ (by omega),show (decVal p * 10+(b.toNat - 48)) / 10=decVal p by omega,show (decVal p * 10+(b.toNat - 48)) % 10=b.toNat - 48 by omega,List.reverse_cons,List.map_append,h2]
    simp [hback]
theorem text_decVal (s:List UInt8) (h:decOk s):decText (decVal s)=s:=by
 obtain ⟨h1,h2,h3⟩:=h
 by_cases hh:s.head?=some 48
 ·have hl:=h3 hh
  obtain ⟨x,rfl⟩:=List.length_eq_one_iff.1 hl
  simp at hh
  subst hh
  rfl
 ·obtain ⟨h4,h5⟩:=digs_decVal s.length s rfl h1 h2 hh
  unfold decText
  rw [if_neg h4,h5]
theorem text_small (n:Nat) (h:n<10):decText n=[byteOf n]:=by
 unfold decText
 by_cases h0:n=0
 ·subst h0;rfl
 ·rw [if_neg h0,dig_pos n h0,show n / 10=0 by omega,dig_zero,show n % 10=n by omega];rfl
theorem text_big (n:Nat) (h:10<=n):decText n=decText (n / 10)++[byteOf (n % 10)]:=by
 unfold decText
 rw [if_neg (by omega),if_neg (by omega),dig_pos n (by omega)]
 simp
theorem text_pos (n:Nat):1<=(decText n).length:=by
 have:=(decOk_text n).1
 cases h:decText n with
 | nil=>exact absurd h this
 | cons=>simp
end Go.Proofs.YtldhmfkojaekfaaGreatDoor
namespace Go.Proofs.YtldhmfkojaekfaaGreatDoor
open Go.RowKit Gx
set_option maxRecDepth 100000
theorem Tryz.info_u8:(Tryz.prog.info? 5).map (fun i=>(i.zero,i.size,i.bytes))=some (some (.int .u8 0),1,1):=by kernel_rfl
theorem dig_step (M:Nat) (out:List Nat) (n:Nat) (h:dig n=out++dig M) (hM:M≠0):dig n=(out++[M % 10])++dig (M / 10):=by
 rw [h,dig_pos M hM];simp
def digInts (l:List Nat):List Int:=l.map (fun d=>((48+d:Nat):Int))
theorem digInts_snoc (l:List Nat) (d:Nat):digInts (l++[d])=digInts l++[((48+d:Nat):Int)]:=by simp [digInts]
theorem digInts_len (l:List Nat):(digInts l).length=l.length:=by simp [digInts]
theorem dig_bound (xs:List Int) (h:Words xs):(dig (bval xs)).length<=10 * xs.length:=by
 apply dig_len_le
 have h1:=bval_lt xs h
 have h2:4294967296 ^ xs.length<=(10 ^ 10) ^ xs.length:=Nat.pow_le_pow_left (by decide) _
 rw [<-Nat.pow_mul] at h2
 omega
def RevTo (os cur:List Int) (L a:Nat):Prop:=∀ j,j<L->cur.getD j 0=if j<a\/L<=j+a then os.getD (L - 1 - j) 0 else os.getD j 0
theorem revTo_zero (os:List Int) (L:Nat):RevTo os os L 0:=by
 intro j hj
 rw [if_neg (by omega)]
theorem getD_set (l:List Int) (i j:Nat) (v:Int) (h:i<l.length):(l.set i v).getD j 0=if i=j then v else l.getD j 0:=by
 by_cases e:i=j
 ·subst e;simp [List.getD,List.getElem?_set,h]
 ·rw [if_neg e,getD_set_ne _ _ _ _ e]
theorem revTo_step (os cur:List Int) (L a:Nat) (x y:Int) (h:RevTo os cur L a) (hl:cur.length=L) (ha:a+a+1<L) (hx:x=cur.getD a 0) (hy:y=cur.getD (L - 1 - a) 0) :
 RevTo os ((cur.set a y).set (L - 1 - a) x) L (a+1):=by
 intro j hj
 rw [getD_set _ _ _ _ (by rw [List.length_set];omega),getD_set _ _ _ _ (by omega)]
 have hxa:=h a (by omega)
 rw [if_neg (by omega)] at hxa
 have hya:=h (L - 1 - a) (by omega)
 rw [if_neg (by omega)] at hya
 by_cases h1:L - 1 - a=j
 ·rw [if_pos h1,if_pos (by omega),hx,hxa]
  congr 1;omega
 ·rw [if_neg h1]
  by_cases h2:a=j
  ·rw [if_pos h2,if_pos (by omega),hy,hya]
   congr 1;omega
  ·rw [if_neg h2,h j hj]
   by_cases h3:j<a\/L<=j+a
   ·rw [if_pos h3,if_pos (by omega)]
   ·rw [if_neg h3,if_neg (by omega)]
theorem revTo_end (os cur:List Int) (L a:Nat) (h:RevTo os cur L a) (hl:cur.length=L) (ho:os.length=L) (ha:¬ (a:Int)<(L:Int) - 1 - a):cur=os.reverse:=by
 apply List.ext_getElem
 ·simp [hl,ho]
 ·intro j h1 h2
  have:=h j (by omega)
  rw [List.getElem_reverse]
  have e1:cur.getD j 0=cur[j]:=by simp [List.getD,List.getElem?_eq_getElem h1]
  have e2:os.getD (L - 1 - j) 0=os[os.length - 1 - j]'(by omega):=by
   simp [List.getD,ho,List.getElem?_eq_getElem (show L - 1 - j<os.length by omega)]
  rw [<-e1,<-e2,this]
  by_cases h3:j<a\/L<=j+a
  ·rw [if_pos h3]
  ·rw [if_neg h3]
   congr 1;omega
set_option maxHeartbeats 1000000 in
theorem bigText_pos (ad:Option Addr) (cap:Nat) (xs:List Int) (w:World) (h:Rd .u32 w ad cap xs) (hl:xs.length<=1048576) (hn0:bval xs≠0) :
 Calls Tryz.prog 166 #[.slice ad xs.length cap] w (TextPost (decText (bval xs)) w):=by
 have H:=Lib.hid (trimmed_any ad cap xs w h (by omega))
 have hD:=dig_bound xs (words_of_rd h)
 have hT:=h.trim
 have hcl:(canon (bval xs)).length<=1048576:=by
  have:=canon_len_le (bval xs) xs.length (bval_lt _ (words_of_rd h));omega
 have hcp:0<(canon (bval xs)).length:=by rw [canon_pos _ hn0];simp
 have hv:bval (canon (bval xs))=bval xs:=bval_canon _
 unfold TrimmedPost at H
 obtain ⟨n,hn⟩:∃ n,n=bval xs:=⟨_,rfl⟩
 rw [<-hn] at H hD hT hcl hcp hv hn0 ⊢
 clear hn h
 obtain ⟨A,hA⟩:∃ A,A=canon n:=⟨_,rfl⟩
 rw [<-hA] at H hT hcl hcp hv
 have HA:=Lib.hid hA
 have HV:=Lib.hid hv
 have HN0:=Lib.hid hn0
 have HD:=Lib.hid hD
 clear hA hv hn0 hD
 have hb0:((A.length:Int)==0)=false:=by rw [beq_eq_false_iff_ne];omega
 go_enter Tryz.func166,Tryz.ntmps166
 go_wp2_with fail
 refine H.out.mono ?_
 rintro e w2 ⟨rfl,rfl⟩
 clear H
 go_wp2
 clear hb0
 go_loopw [0,3] (fun av v wr=>∃ (N:Nat) (ad':Option Addr) (cap':Nat) (B:List Int) (out:List Nat) (vo:Option Addr) (vc:Nat),av=.slice ad' B.length cap'/\Hid (B=canon N)/\Rd .u32 wr ad' cap' B/\B.length<=1048576/\v=.slice vo out.length vc /\
  wr.ownsRow w.heap.size 5 1 (.slice vo out.length vc) out.length ((digInts out).map (Value.int .u8))/\Hid (dig n=out++dig N)/\Below w.heap.size w wr)
  (fun _ v _=>(dig n).length - Gx.lenOf v)
 case atStart=>exact ⟨n,ad,cap,A,[],none,0,rfl,HA,hT,hcl,rfl,World.ownsRow_nil _ _ _ _,rfl,Below.refl _ _⟩
 case round =>
  obtain ⟨N,ad',cap',B,out,vo,vc,rfl,hB,hR,hBl,rfl,hown,hdig,hb⟩:=hrel
  by_cases hB0:B.length=0
  ·have hN:dig n=out:=by
    have h1:=hB.out
    have h2:N=0:=by
     have:=bval_canon N
     rw [<-h1,List.eq_nil_of_length_eq_zero hB0] at this
     exact this.symm
    rw [hdig.out,h2,dig_zero,List.append_nil]
   have hL0:0<out.length:=by
    rw [<-hN,dig_pos n HN0.out];simp
   have hL1:out.length<=10485760:=by rw [<-hN];have:=HD.out;omega
   have HN:=Lib.hid hN
   clear hN hB hR hdig
   obtain ⟨g,gc,he,hg1,hg2,hg3,-⟩:=Gx.own_cell hown hL0
   obtain ⟨rfl,rfl⟩:vo=some ⟨g,0,none⟩/\vc=gc:=by simpa using he
   clear he
   obtain ⟨L,hLe⟩:∃ L,L=out.length:=⟨_,rfl⟩
   obtain ⟨os,hos⟩:∃ os,os=digInts out:=⟨_,rfl⟩
   rw [<-hLe] at hown hL0 hL1 hg2 ⊢
   rw [<-hos] at hown
   have HOS:=Lib.hid hos
   have hosl:os.length=L:=by rw [hos,digInts_len,hLe]
   have HOSL:=Lib.hid hosl
   have HLE:=Lib.hid hLe
   clear hLe hos hosl
   go_wp2
   go_loopw [6,7] (fun iv kv wr=>∃ (a:Nat) (cur:List Int),a<=L/\iv=.int .i64 a/\kv=.int .i64 ((L:Int) - 1 - a) /\
    wr.ownsRow w.heap.size 5 1 (.slice (some ⟨g,0,none⟩) L vc) L (cur.map (Value.int .u8))/\Hid (cur.length=L)/\Hid (RevTo os cur L a)/\Below w.heap.size w wr)
    (fun iv _ _=>L - (intOf iv).toNat)
   case atStart=>exact ⟨0,os,Nat.zero_le _,rfl,by simp,hown,HOSL,revTo_zero _ _,hb⟩
   case round =>
    clear hown hb
    obtain ⟨a,cur,ha,rfl,rfl,hown1,hcl,hrev,hb1⟩:=hrel
    by_cases hlt:(a:Int)<(L:Int) - 1 - a
    ·have hcl':cur.length=L:=hcl.out
     have hi1:((L:Int) - 1 - a).toNat=L - 1 - a:=by omega
     have hc1:wr.cell? ⟨g,a,none⟩=some (.int .u8 (cur.getD a 0)):=by
      rw [hown1.cellAt a (by omega)]
      simp [List.getD,List.getElem?_eq_getElem (show a<cur.length by omega)]
     have hc2:wr.cell? ⟨g,L - 1 - a,none⟩=some (.int .u8 (cur.getD (L - 1 - a) 0)):=by
      rw [hown1.cellAt (L - 1 - a) (by omega)]
      simp [List.getD,List.getElem?_eq_getElem (show L - 1 - a<cur.length by omega)]
     have hf1:wr.frozen? ⟨g,a,none⟩=false:=hown1.frozenAt a
     have hf2:wr.frozen? ⟨g,L - 1 - a,none⟩=false:=hown1.frozenAt (L - 1 - a)
     obtain ⟨x,hx⟩:∃ x,x=cur.getD a 0:=⟨_,rfl⟩
     obtain ⟨y,hy⟩:∃ y,y=cur.getD (L - 1 - a) 0:=⟨_,rfl⟩
     rw [<-hx] at hc1
     rw [<-hy] at hc2
     clear hcl'
     have hj0:(0:Int)<=(L:Int) - 1 - a:=by omega
     have hj1:(L:Int) - 1 - a<(L:Int):=by omega
     have hj2:(0:Int)<=(a:Int):=by omega
     have hj3:(a:Int)<(L:Int):=by omega
     have hst1:=hown1.stored a (.int .u8 y)
     have hst2:=hst1.1.stored (L - 1 - a) (.int .u8 x)
     have hsz:=hb1.size
     have hbn:=(hb1.grown hst1.2 hsz (fun q e=>by cases e;exact hg1)).grown hst2.2 (Nat.le_trans hsz hst1.2.size) (fun q e=>by cases e;exact hg1)
     have hon:((wr.setCell ⟨g,a,none⟩ (.int .u8 y)).setCell ⟨g,L - 1 - a,none⟩ (.int .u8 x)).ownsRow w.heap.size 5 1 (.slice (some ⟨g,0,none⟩) L vc) L (((cur.set a y).set (L - 1 - a) x).map (Value.int .u8)):=by
      rw [List.map_set,List.map_set];exact hst2.1
     have HON:=Lib.hid hon
     have HBN:=Lib.hid hbn
     have hT:=Lib.hid (revTo_step os cur L a x y hrev.out hcl.out (by omega) hx hy)
     have hl3:Hid (((cur.set a y).set (L - 1 - a) x).length=L):=by show _=_;rw [List.length_set,List.length_set];exact hcl.out
     clear hst1 hst2 hbn hon hown1 hx hy
     go_wp2
     go_region
     go_wp2
     go_roundw
     case rel=>exact ⟨a+1,(cur.set a y).set (L - 1 - a) x,by omega,by go_num,by congr 1<;>omega,HON.out.drew,hl3,hT,HBN.out.drew⟩
     case measure=>simp [intOf];omega
    ·have hfin:cur=os.reverse:=revTo_end os cur L a hrev.out hcl.out HOSL.out (by omega)
     have HF:=Lib.hid hfin
     have hdt:decText n=out.reverse.map byteOf:=by unfold decText;rw [if_neg HN0.out,HN.out]
     have hLd:(decText n).length=L:=by rw [hdt,HLE.out];simp
     have hbytes:∀ j (hj:j<(decText n).length),wr.cell? ((⟨g,0,none⟩:Addr).add j)=some (.int .u8 ((decText n)[j].toNat:Int)):=by
      intro j hj
      have hjL:j<L:=by omega
      rw [Addr.add_lit,Nat.zero_add,hown1.cellAt j (by omega),HF.out,HOS.out]
      have hjo:j<out.reverse.length:=by rw [List.length_reverse,<-HLE.out];exact hjL
      have e1:(decText n)[j]=byteOf (out.reverse[j]):=by simp [hdt]
      have hd10:out.reverse[j]<10:=dig_lt n _ (by rw [HN.out];exact List.mem_reverse.1 (List.getElem_mem hjo))
      rw [e1,byteOf_nat _ hd10]
      have e2:(digInts out).reverse=digInts out.reverse:=by simp [digInts]
      rw [e2]
      unfold digInts
      rw [List.map_map,List.getElem?_map,List.getElem?_eq_getElem hjo]
      rfl
     have HCV:=Lib.hid (run_convert_bytes_back (P:=Tryz.prog) wr 72 9 5 ⟨g,0,none⟩ vc (decText n) Tryz.underlying72 Tryz.underlying5 Tryz.underlying9 hbytes)
     rw [hLd] at HCV
     have hcv:=HCV.out
     clear hbytes hLd HCV hown1
     go_wp2
     go_ret
     exact ⟨rfl,hb1⟩
  ·have hC:=Lib.hid (byWord_any ad' cap' B 1000000000 wr hR hBl (by omega) (by omega))
   have hvB:bval B=N:=by rw [hB.out,bval_canon]
   have hN0:N≠0:=by intro h0;rw [h0] at hB;exact hB0 (by rw [hB.out];rfl)
   unfold ByWordPost at hC
   rw [hvB] at hC
   have hNl:(canon (N / 1000000000)).length<=1048576:=by
    have h1:=bval_lt B (words_of_rd hR)
    rw [hvB] at h1
    exact Nat.le_trans (canon_len_le _ _ (Nat.lt_of_le_of_lt (Nat.div_le_self _ _) h1)) hBl
   have HNl:=Lib.hid hNl
   have HN0:=Lib.hid hN0
   clear hvB hR hB hNl hN0
   go_wp2_with fail
   refine hC.out.mono ?_
   rintro e w3 ⟨ad3,cap3,rfl,hr3,hb3,hfr3⟩
   clear hC
   obtain ⟨M,hM⟩:∃ M,M=N / 1000000000:=⟨_,rfl⟩
   obtain ⟨C,hC⟩:∃ C,C=canon (N / 1000000000):=⟨_,rfl⟩
   obtain ⟨r0,hr0⟩:∃ r0:Int,r0=((N % 1000000000:Nat):Int):=⟨_,rfl⟩
   have hr00:0<=r0:=by omega
   have hr01:r0<=999999999:=by omega
   have hsp:Hid (N=M * 1000000000+r0.toNat):=by show _=_;omega
   rw [show (1000000000:Int).toNat=1000000000 from rfl,<-hC,<-hr0]
   rw [show (1000000000:Int).toNat=1000000000 from rfl,<-hC] at hr3
   have HC:Hid (C=canon M):=by show _=_;rw [hC,hM]
   have hCl:C.length<=1048576:=by rw [hC];exact HNl.out
   clear hM hC hr0 HNl
   have hne3:Hid (∀ a,ad3=some a->0<C.length->(Value.slice vo out.length vc).ownBlock≠some a.block):=by
    intro a ha _ e
    have h1:=hfr3 a ha
    have h2:=hown.lt a.block e
    omega
   clear hfr3
   have hown3:w3.ownsRow w.heap.size 5 1 (.slice vo out.length vc) out.length ((digInts out).map (Value.int .u8)):=Gx.own_keep hown hb3
   have hb4:=hb.trans (hb3.mono hb.size)
   clear hown hb hb3
   go_wp2
   go_loopw [3,4,5] (fun v rv kv wr=>∃ (k P:Nat) (r:Int) (out2:List Nat) (vo:Option Addr) (vc:Nat),k<=9/\kv=.int .i64 k/\rv=.int .u32 r/\0<=r/\r<=999999999/\v=.slice vo out2.length vc/\Hid (P=10 ^ (9 - k))/\Hid (r<P) /\
    wr.ownsRow w.heap.size 5 1 (.slice vo out2.length vc) out2.length ((digInts out2).map (Value.int .u8))/\Hid (out2.length=out.length+k)/\Hid (dig n=out2++dig (M * P+r.toNat))/\Below w.heap.size w wr/\Rd .u32 wr ad3 cap3 C/\Hid (∀ a,ad3=some a->0<C.length->(Value.slice vo out2.length vc).ownBlock≠some a.block))
    (fun _ _ kv _=>9 - (intOf kv).toNat)
   case atStart=>exact ⟨0,1000000000,r0,out,vo,vc,by omega,rfl,rfl,hr00,hr01,rfl,rfl,by show _<_;omega,hown3,rfl,by show _=_;rw [<-hsp.out];exact hdig.out,hb4,hr3,hne3⟩
   case round =>
    clear hown3 hb4 hr3 hr00 hr01
    obtain ⟨k,P,r,out2,vo2,vc2,hk,rfl,rfl,hr00,hr01,rfl,hP,hrP,hown2,hlen2,hdig2,hb2,hr2,hne2⟩:=hrel
    have hexit:(k=9\/(C.length=0/\r=0))->dig n=out2++dig M/\out.length<out2.length:=by
     intro hx
     have h1:=hP.out
     have h2:=hrP.out
     have h3:=hdig2.out
     have h4:=hlen2.out
     have hMr:M * P+r.toNat=M:=by
      rcases hx with rfl|⟨h5,rfl⟩
      ·have:P=1:=h1
       subst this
       omega
      ·have h6:M=0:=by
        have:=bval_canon M
        rw [<-HC.out,List.eq_nil_of_length_eq_zero h5] at this
        exact this.symm
       subst h6
       simp
     rw [hMr] at h3
     refine ⟨h3,?_⟩
     by_cases hk0:k=0
     ·exfalso
      subst hk0
      have:P=1000000000:=h1
      subst this
      have:=hsp.out
      have h7:=HN0.out
      rcases hx with hx|⟨h5,rfl⟩
      ·omega
      ·have h8:=HC.out
       have h6:M=0:=by
        have:=bval_canon M
        rw [<-HC.out,List.eq_nil_of_length_eq_zero h5] at this
        exact this.symm
       subst h6
       have h9:dig n=out++dig N:=hdig.out
       have h10:out2.length=out.length:=h4
       rw [h9,dig_pos N h7] at h3
       have h11:=congrArg List.length h3
       simp [dig_zero] at h11
       omega
     ·omega
    have HX:=Lib.hid hexit
    clear hexit
    by_cases hk9:k=9
    ·subst hk9
     have hx:=HX.out (.inl rfl)
     have HX1:=Lib.hid hx.1
     have hx2:=hx.2
     have hle:out2.length<=(dig n).length:=by rw [hx.1];simp
     clear hx HX
     go_wp2
     go_roundw
     case rel=>exact ⟨M,ad3,cap3,C,out2,vo2,vc2,rfl,HC,hr2,hCl,rfl,hown2,HX1,hb2⟩
     case measure=>simp [Gx.lenOf];omega
    by_cases hx0:C.length=0/\r=0
    ·obtain ⟨hc0,rfl⟩:=hx0
     have hx:=HX.out (.inr ⟨hc0,rfl⟩)
     have HX1:=Lib.hid hx.1
     have hx2:=hx.2
     have hle:out2.length<=(dig n).length:=by rw [hx.1];simp
     clear hx HX
     have hb1:decide ((0:Int)<(C.length:Int))=false:=decide_eq_false (by omega)
     have hb1n:decide (0<C.length)=false:=decide_eq_false (by omega)
     clear hc0
     go_wp2
     go_roundw
     case rel=>exact ⟨M,ad3,cap3,C,out2,vo2,vc2,rfl,HC,hr2,hCl,rfl,hown2,HX1,hb2⟩
     case measure=>simp [Gx.lenOf];omega
    clear HX
    have hk8:k<9:=by omega
    have hM0:M * P+r.toNat≠0:=by
     intro h0
     have hP0:P≠0:=by
      have:=hP.out
      intro h1
      rw [h1] at this
      exact absurd this.symm (Nat.ne_of_gt (Nat.pow_pos (by decide)))
     have h1:M * P=0:=by omega
     have h2:M=0:=by
      rcases Nat.mul_eq_zero.1 h1 with h|h
      ·exact h
      ·exact absurd h hP0
     apply hx0
     refine ⟨?_,by omega⟩
     rw [HC.out,h2];rfl
    obtain ⟨P',hP'⟩:∃ P',P=10 * P'/\P'=10 ^ (9 - (k+1)):=by
     refine ⟨_,?_,rfl⟩
     rw [hP.out,show 9 - k=9 - (k+1)+1 by omega,Nat.pow_succ,Nat.mul_comm]
    have hsum:M * P+r.toNat=10 * (M * P')+r.toNat:=by rw [hP'.1,Nat.mul_left_comm]
    have hT:Hid (dig n=(out2++[r.toNat % 10])++dig (M * P'+(r / 10).toNat)):=by
     have:=dig_step _ _ _ hdig2.out hM0
     rw [show (M * P+r.toNat) % 10=r.toNat % 10 by omega,show (M * P+r.toNat) / 10=M * P'+(r / 10).toNat by omega] at this
     exact this
    have hl2:(out2++[r.toNat % 10]).length<=(dig n).length:=by rw [hT.out];simp
    have hDl:(dig n).length<=10485760:=by have:=HD.out;omega
    have hol2:out2.length<10485760:=by simp at hl2;omega
    have hrP':Hid (r / 10<P'):=by
     have h1:=hrP.out
     have h2:=hP'.1
     show _<_
     omega
    have HP':Hid (P'=10 ^ (9 - (k+1))):=hP'.2
    have hl3:Hid ((out2++[r.toNat % 10]).length=out.length+(k+1)):=by
     show _=_
     have:=hlen2.out
     simp;omega
    have HI:Hid ((digInts out2).map (Value.int .u8)++[.int .u8 (48+r % 10)]=(digInts (out2++[r.toNat % 10])).map (Value.int .u8)):=by
     show _=_
     rw [digInts_snoc,List.map_append]
     congr 2
     simp
     omega
    have hsz:=hb2.size
    clear hM0 hP' hsum hl2 hDl hP hrP hdig2 hlen2
    have hcc:(0<C.length)\/(C.length=0/\0<r):=by omega
    clear hx0
    rcases hcc with hcc|⟨hcc,hrr⟩
    ·have hb1:decide ((0:Int)<(C.length:Int))=true:=by simp;omega
     go_wp2_with (first
      | (at_builtin;refine Gx.wpList_push wr rfl _ _ 72 rfl w.heap.size 5 (.int .u8 0) 1 1 Tryz.underlying72 Tryz.info_u8 rfl (by decide) _ _ _ [.int .u8 (48+r % 10)] _ rfl rfl (by exact hown2) rfl rfl ?a2 ?a3 ?a4 ?a5 ?_))
     case a2=>intro u hu;simp at hu;subst hu;rfl
     case a3=>omega
     case a4=>omega
     case a5=>omega
     intro v' w' hown5 hg5 hmv5 _
     have hb5:Below w.heap.size w w':=hb2.grown hg5 hsz (fun k e=>(hown2.lt k e).1)
     have hr5:Rd .u32 w' ad3 cap3 C:=Gx.Rd.grown hr2 hg5 (fun a ha hp e=>hne2.out a ha hp e.symm)
     have hne5:Hid (∀ a,ad3=some a->0<C.length->v'.ownBlock≠some a.block):=by
      intro a ha hp
      exact hmv5.ne (hr2.at_ a ha hp).2.1 (hne2.out a ha hp)
     rw [HI.out] at hown5
     obtain ⟨vo5,vc5,rfl⟩:=Gx.own_form hown5
     have hown6:w'.ownsRow w.heap.size 5 1 (.slice vo5 (out2++[r.toNat % 10]).length vc5) (out2++[r.toNat % 10]).length ((digInts (out2++[r.toNat % 10])).map (Value.int .u8)):=by
      simpa using hown5
     have hfl:out2.length+1=(out2++[r.toNat % 10]).length:=by simp
     rw [hfl] at hne5
     rw [hfl]
     clear hown5 hown2 hg5 hr2 hb2 HI hfl
     go_wp2
     go_roundw
     case rel=>exact ⟨k+1,P',r / 10,out2++[r.toNat % 10],vo5,vc5,by omega,by go_num,rfl,by omega,by omega,rfl,HP',hrP',hown6,hl3,hT,hb5,hr5,hne5⟩
     case measure=>simp [intOf];omega
    ·have hb1:decide ((0:Int)<(C.length:Int))=false:=decide_eq_false (by omega)
     have hb1n:decide (0<C.length)=false:=decide_eq_false (by omega)
     have HCC:=Lib.hid hcc
     clear hcc
     have hb2':decide ((0:Int)<r)=true:=by simpa using hrr
     go_wp2_with (first
      | (at_builtin;refine Gx.wpList_push wr rfl _ _ 72 rfl w.heap.size 5 (.int .u8 0) 1 1 Tryz.underlying72 Tryz.info_u8 rfl (by decide) _ _ _ [.int .u8 (48+r % 10)] _ rfl rfl (by exact hown2) rfl rfl ?b2 ?b3 ?b4 ?b5 ?_))
     case b2=>intro u hu;simp at hu;subst hu;rfl
     case b3=>omega
     case b4=>omega
     case b5=>omega
     intro v' w' hown5 hg5 hmv5 _
     have hb5:Below w.heap.size w w':=hb2.grown hg5 hsz (fun k e=>(hown2.lt k e).1)
     have hr5:Rd .u32 w' ad3 cap3 C:=Gx.Rd.grown hr2 hg5 (fun a ha hp e=>hne2.out a ha hp e.symm)
     have hne5:Hid (∀ a,ad3=some a->0<C.length->v'.ownBlock≠some a.block):=by
      intro a ha hp
      exact hmv5.ne (hr2.at_ a ha hp).2.1 (hne2.out a ha hp)
     rw [HI.out] at hown5
     obtain ⟨vo5,vc5,rfl⟩:=Gx.own_form hown5
     have hown6:w'.ownsRow w.heap.size 5 1 (.slice vo5 (out2++[r.toNat % 10]).length vc5) (out2++[r.toNat % 10]).length ((digInts (out2++[r.toNat % 10])).map (Value.int .u8)):=by
      simpa using hown5
     have hfl:out2.length+1=(out2++[r.toNat % 10]).length:=by simp
     rw [hfl] at hne5
     rw [hfl]
     clear hown5 hown2 hg5 hr2 hb2 HI hfl
     go_wp2
     go_roundw
     case rel=>exact ⟨k+1,P',r / 10,out2++[r.toNat % 10],vo5,vc5,by omega,by go_num,rfl,by omega,by omega,rfl,HP',hrP',hown6,hl3,hT,hb5,hr5,hne5⟩
     case measure=>simp [intOf];omega
set_option maxRecDepth 100000
def ReadPostFl (l:List UInt8) (w:World) (e:Ending) (w':World):Prop :=
 (decOk l/\l.length<=1000/\∃ ad cap,e=.returned (.tuple #[.slice ad (canon (decVal l)).length cap,.int .i64 0])/\Rd .u32 w' ad cap (canon (decVal l))/\Below w.heap.size w w') \/
 (¬ (decOk l/\l.length<=1000)/\∃ c:Int,c≠0/\e=.returned (.tuple #[.slice none 0 0,.int .i64 c])/\Below w.heap.size w w')
theorem last_ne (l:List Int) (hw:Words l) (h:4294967296 ^ (l.length - 1)<=bval l) (x:Int) (hx:l.getLast?=some x):x≠0:=by
 have hne:l≠[]:=by intro e;subst e;simp at hx
 have e:=List.dropLast_concat_getLast hne
 intro h0
 rw [List.getLast?_eq_some_getLast hne] at hx
 have hx':l.getLast hne=x:=by simpa using hx
 rw [hx',h0] at e
 have h1:bval l=bval l.dropLast:=by
  conv=>lhs;rw [<-e]
  rw [bval_append];simp [bval]
 have h2:=bval_lt l.dropLast (fun y hy=>hw y ((List.dropLast_sublist l).subset hy))
 rw [List.length_dropLast] at h2
 omega
theorem read_digit (c o:Int) (hc:0<=c) (ho:0<=o):((c+o * 10) % 4294967296).toNat+4294967296 * ((c+o * 10) / 4294967296).toNat=c.toNat+10 * o.toNat:=by
 obtain ⟨c,rfl⟩:=Int.eq_ofNat_of_zero_le hc
 obtain ⟨o,rfl⟩:=Int.eq_ofNat_of_zero_le ho
 have e1:((c:Int)+(o:Int) * 10)=((c+o * 10:Nat):Int):=by omega
 rw [e1,show ((c+o * 10:Nat):Int) % 4294967296=(((c+o * 10) % 4294967296:Nat):Int) from rfl,show ((c+o * 10:Nat):Int) / 4294967296=(((c+o * 10) / 4294967296:Nat):Int) from rfl]
 simp only [Int.toNat_natCast]
 rw [Nat.mod_add_div,Nat.mul_comm o 10]
theorem read_arith (X Y Z T D q a b c o:Nat) (hs:X+q * o=Y+q * a) (h:Y+q * c=Z+9 * T+D) (e:a+4294967296 * b=c+10 * o):X+q * 4294967296 * b=Z+9 * (T+q * o)+D:=by
 have e4:q * a+q * 4294967296 * b=q * c+10 * (q * o):=by rw [Nat.mul_assoc,<-Nat.mul_add,e,Nat.mul_add,Nat.mul_left_comm]
 omega
theorem read_step (out out0:List Int) (j q:Nat) (c o d:Int) (hc:0<=c) (ho:0<=o) (hj:j<out.length) (eo:o=out.getD j 0) (eo0:o=out0.getD j 0)
 (h:bval out+4294967296 ^ j * c.toNat=bval out0+9 * bval (out0.take j)+d.toNat) (hq:q=4294967296 ^ j) :
 bval (out.set j ((c+o * 10) % 4294967296))+4294967296 ^ (j+1) * ((c+o * 10) / 4294967296).toNat=bval out0+9 * bval (out0.take (j+1))+d.toNat:=by
 have hs:=bval_set out j ((c+o * 10) % 4294967296) hj
 rw [<-eo,<-hq] at hs
 rw [bval_take_succ,<-eo0,Nat.pow_succ,<-hq]
 rw [<-hq] at h
 exact read_arith _ _ _ _ _ _ _ _ _ _ hs h (read_digit c o hc ho)
theorem decVal_take (s:List UInt8) (k:Nat) (h:k<s.length):decVal (s.take (k+1))=decVal (s.take k) * 10+(s[k].toNat - 48):=by
 rw [List.take_succ_eq_append_getElem h,decVal_snoc]
set_option maxHeartbeats 1000000 in
theorem bigRead_long (s:ByteArray) (w:World) (h:1000<s.size) :
 Calls Tryz.prog 126 #[.string s] w (ReadPostFl s.data.toList w):=by
 have ht:decide ((1000:Int)<(s.size:Int))=true:=by simp;omega
 go_enter Tryz.func126,Tryz.ntmps126
 go_wp2
 go_ret2
 exact .inr ⟨fun ⟨_,h2⟩=>by simp at h2;omega,2,by decide,rfl,Below.refl _ _⟩
set_option maxHeartbeats 1000000 in
theorem bigRead_empty (w:World) :
 Calls Tryz.prog 126 #[.string ⟨#[]⟩] w (ReadPostFl [] w):=by
 go_enter Tryz.func126,Tryz.ntmps126
 go_wp2
 go_ret2
 exact .inr ⟨fun ⟨h2,_⟩=>h2.1 rfl,4,by decide,rfl,Below.refl _ _⟩
theorem head_ofFl (s:ByteArray) (h:0<s.size):s.data.toList.head?=some s[0]:=by
 have:0<s.data.toList.length:=by simpa using h
 rw [List.head?_eq_getElem?,List.getElem?_eq_getElem this];rfl
set_option maxHeartbeats 1000000 in
theorem bigRead_nought (s:ByteArray) (w:World) (h:1<s.size) (h2:s.size<=1000) (h0:s[0]=48) :
 Calls Tryz.prog 126 #[.string s] w (ReadPostFl s.data.toList w):=by
 have HN:Hid (¬ (decOk s.data.toList/\s.data.toList.length<=1000)):=by
  rintro ⟨⟨-,-,h3⟩,-⟩
  have:=h3 (by rw [head_ofFl s (by omega),h0])
  simp at this;omega
 have hb0:((s[0].toNat:Int)==48)=true:=by rw [h0];rfl
 go_enter Tryz.func126,Tryz.ntmps126
 go_wp2
 all_goals
  go_ret2
  exact .inr ⟨HN.out,4,by decide,rfl,Below.refl _ _⟩
theorem read_canon (V d:Nat) (out out2:List Int) (c:Int) (ho:out=canon V) (hl:out2.length=out.length) (hw:Words out2) (hc:0<=c) (hc1:c<=9)
 (h:bval out2+4294967296 ^ out.length * c.toNat=bval out+9 * bval (out.take out.length)+d) :
 (c=0->out2=canon (V * 10+d))/\(0<c->out2++[c]=canon (V * 10+d)):=by
 have hv:bval out=V:=by rw [ho,bval_canon]
 rw [List.take_of_length_le (Nat.le_refl _),hv] at h
 constructor
 ·intro h0
  subst h0
  simp only [Int.toNat_zero,Nat.mul_zero,Nat.add_zero] at h
  have e:bval out2=V * 10+d:=by omega
  rw [<-e]
  refine (canon_bval out2 hw (fun x hx=>?_)).symm
  have hne:out2≠[]:=by intro e;subst e;simp at hx
  have hlen:0<out2.length:=List.length_pos_iff.2 hne
  refine last_ne out2 hw ?_ x hx
  have hV:V≠0:=by
   intro h0
   rw [ho,h0,canon_zero] at hl
   exact hne (List.eq_nil_of_length_eq_zero hl)
  have h3:=canon_len_gt V hV
  rw [<-ho,<-hl] at h3
  omega
 ·intro h0
  have e:bval (out2++[c])=V * 10+d:=by
   rw [bval_append,hl]
   simp only [bval,Nat.mul_zero,Nat.add_zero]
   omega
  rw [<-e]
  refine (canon_bval _ ?_ (fun x hx=>?_)).symm
  ·intro y hy
   rcases List.mem_append.1 hy with hy|hy
   ·exact hw y hy
   ·simp at hy;omega
  ·simp at hx;omega
set_option maxHeartbeats 4000000 in
theorem bigRead_loop (s:ByteArray) (w:World) (h:0<s.size) (h2:s.size<=1000) (h0:s[0]=48->s.size=1) :
 Calls Tryz.prog 126 #[.string s] w (ReadPostFl s.data.toList w):=by
 have HHD:Hid (s.data.toList.head?=some 48->s.data.toList.length=1):=by
  intro h3
  rw [head_ofFl s h] at h3
  have:=h0 (by simpa using h3)
  simpa using this
 obtain ⟨cap,w1,hconv,-,hsz1,hg,hC⟩:=Gx.conv_bytes_run (P:=Tryz.prog) w 9 72 5 s Tryz.underlying9 Tryz.underlying72 Tryz.underlying5
 have hb:Below w.heap.size w w1:=Gx.grown_below hg (Nat.le_refl _) (by simp)
 have HB:=Lib.hid hb
 have HC:=Lib.hid hC
 have hs1:w.heap.size+1<=w1.heap.size:=hsz1
 clear hb hC hg hsz1
 have hb0:(((s[0].toNat:Int)==48)=false)\/((s[0].toNat:Int)==48)=true/\decide ((1:Int)<(s.size:Int))=false:=by
  by_cases h3:s[0]=48
  ·have:=h0 h3
   exact .inr ⟨by rw [h3];rfl,decide_eq_false (by omega)⟩
  ·refine .inl ?_
   rw [beq_eq_false_iff_ne]
   intro h4
   apply h3
   apply UInt8.toNat_inj.1
   have:s[0].toNat=48:=by omega
   rw [this];rfl
 clear h0
 have hem:s.toList.isEmpty=false:=by
  have h3:s.toList.length=s.size:=by rw [Go.Lib.toList_data];simp
  cases h4:s.toList with
  | nil=>rw [h4] at h3;simp at h3;omega
  | cons=>rfl
 have hem2:¬ s.toList=[]:=by intro h3;rw [h3] at hem;simp at hem
 rcases hb0 with hb0|⟨hb0,hb1⟩
 all_goals
  go_enter Tryz.func126,Tryz.ntmps126
  go_wp2
  clear hconv hem hem2
  go_loopw [4,27] (fun v i wr=>∃ (k:Nat) (out:List Int) (vo:Option Addr) (vc:Nat),k<=s.size/\i=.int .i64 k/\v=.slice vo out.length vc/\out.length<=k/\Hid (out=canon (decVal (s.data.toList.take k))) /\
   Hid (∀ b∈s.data.toList.take k,isDigit b=true)/\wr.ownsRow (w.heap.size+1) 145 1 (.slice vo out.length vc) out.length (out.map (Value.int .u32))/\Below (w.heap.size+1) w1 wr)
   (fun _ i _=>s.size - (intOf i).toNat)
  case atStart=>exact ⟨0,[],none,0,Nat.zero_le _,rfl,rfl,Nat.le_refl _,rfl,fun b hb=>by simp at hb,World.ownsRow_nil _ _ _ _,Below.refl _ _⟩
  case round =>
   obtain ⟨k,out,vo,vc,hk,rfl,rfl,hol,hout,hdig,hown,hbl⟩:=hrel
   have hbs:=hbl.size
   have hWB:Hid (Below w.heap.size w wr):=HB.out.trans (hbl.mono (Nat.le_succ _))
   by_cases hlt:k<s.size
   ·have hc:wr.cell? ⟨w.heap.size,k,none⟩=some (.int .u8 (s.data[k].toNat:Int)):=(hbl.cell (p:=⟨w.heap.size,k,none⟩) (Nat.lt_succ_self _)).trans (HC.out k hlt)
    have htk:k<s.data.toList.length:=by simpa using hlt
    have eb:s.data.toList[k]=s.data[k]:=rfl
    obtain ⟨b,hb⟩:∃ b,b=s.data[k]:=⟨_,rfl⟩
    rw [<-hb] at hc eb
    have hb255:(b.toNat:Int)<=255:=by have:=b.toNat_lt;omega
    have EB:=Lib.hid eb
    clear hb eb
    by_cases hd:isDigit b=true
    ·have hd':=hd
     simp [isDigit] at hd'
     have hdl:¬ (b.toNat:Int)<48:=by omega
     have hdg:¬ (57:Int)<(b.toNat:Int):=by omega
     have hV:Hid (decVal (s.data.toList.take (k+1))=decVal (s.data.toList.take k) * 10+(b.toNat - 48)):=by
      show _=_
      rw [decVal_take _ _ htk,EB.out]
     have hD2:Hid (∀ b∈s.data.toList.take (k+1),isDigit b=true):=by
      intro c hcm
      rw [List.take_succ_eq_append_getElem htk] at hcm
      rcases List.mem_append.1 hcm with hcm|hcm
      ·exact hdig.out c hcm
      ·simp only [List.mem_singleton] at hcm
       rw [hcm,EB.out];exact hd
     clear hd htk EB
     go_wp2
     go_loopw [7,42] (fun cv jv wi=>∃ (j:Nat) (c:Int) (out2:List Int),j<=out.length/\jv=.int .i64 j/\cv=.int .u64 c/\0<=c/\c<=9 /\
      Hid (out2.length=out.length)/\Words out2/\Hid (∀ t,j<=t->out2.getD t 0=out.getD t 0) /\
      Hid (bval out2+4294967296 ^ j * c.toNat=bval out+9 * bval (out.take j)+(b.toNat - 48)) /\
      wi.ownsRow (w.heap.size+1) 145 1 (.slice vo out.length vc) out.length (out2.map (Value.int .u32))/\Below (w.heap.size+1) w1 wi)
      (fun _ jv _=>out.length - (intOf jv).toNat)
     case atStart=>exact ⟨0,(b.toNat:Int) - 48,out,Nat.zero_le _,rfl,rfl,by omega,by omega,rfl,by rw [hout.out];exact canon_words _,fun t _=>rfl,by show _=_;simp [bval];omega,hown,hbl⟩
     case round =>
      clear hown hbl hbs hWB hc
      obtain ⟨j,c,out2,hj,rfl,rfl,hc0,hc1,hl2,hw2,hsame,hval,hown2,hb2⟩:=hrel
      have HW2:=Lib.hid hw2
      clear hw2
      have hbs:=hb2.size
      by_cases hjl:j<out.length
      ·obtain ⟨g,gc,he,hg1,hg2,hg3,-⟩:=Gx.own_cell hown2 (by omega)
       obtain ⟨hvo,hvc⟩:vo=some ⟨g,0,none⟩/\vc=gc:=by simpa using he
       subst hvo
       clear he hvc hg3
       have hl2':out2.length=out.length:=hl2.out
       have hcell:wr.cell? ⟨g,j,none⟩=some (.int .u32 (out2.getD j 0)):=by
        rw [hown2.cellAt j (by omega)]
        simp [List.getD,List.getElem?_eq_getElem (show j<out2.length by omega)]
       have hfz:wr.frozen? ⟨g,j,none⟩=false:=hown2.frozenAt j
       obtain ⟨bo0,bo1⟩:=words_getD HW2.out j
       obtain ⟨o,eo⟩:∃ o,o=out2.getD j 0:=⟨_,rfl⟩
       rw [<-eo] at hcell bo0 bo1
       have hT:=read_step out2 out j _ c o ((b.toNat:Int) - 48) hc0 bo0 (by omega) eo (eo.trans (hsame.out j (Nat.le_refl _))) (by have:=hval.out;rw [this];congr 1;omega) rfl
       have HT:Hid (bval (out2.set j ((c+o * 10) % 4294967296))+4294967296 ^ (j+1) * ((c+o * 10) / 4294967296).toNat=bval out+9 * bval (out.take (j+1))+(b.toNat - 48)):=by
        show _=_
        rw [hT];congr 1;omega
       clear eo hT
       have hst:=hown2.stored j (.int .u32 ((c+o * 10) % 4294967296))
       have HBN:=Lib.hid (hb2.grown hst.2 (Nat.le_trans hs1 hbs) (fun q e=>by cases e;exact hg1))
       have HON:Hid ((wr.setCell ⟨g,j,none⟩ (.int .u32 ((c+o * 10) % 4294967296))).ownsRow (w.heap.size+1) 145 1 (.slice (some ⟨g,0,none⟩) out.length vc) out.length ((out2.set j ((c+o * 10) % 4294967296)).map (Value.int .u32))):=by
        show World.ownsRow _ _ _ _ _ _ _
        rw [List.map_set];exact hst.1
       have hw3:=Lib.hid (words_set HW2.out j ((c+o * 10) % 4294967296) (by omega) (by omega))
       have hl3:Hid ((out2.set j ((c+o * 10) % 4294967296)).length=out.length):=by show _=_;rw [List.length_set];exact hl2'
       have hs3:Hid (∀ t,j+1<=t->(out2.set j ((c+o * 10) % 4294967296)).getD t 0=out.getD t 0):=by
        intro t ht
        rw [getD_set_ne _ _ _ _ (by omega)]
        exact hsame.out t (by omega)
       clear hst hown2 hl2' hb2
       go_wp2
       go_roundw
       case rel=>exact ⟨j+1,(c+o * 10) / 4294967296,out2.set j ((c+o * 10) % 4294967296),by omega,by go_num,rfl,by omega,by omega,hl3,hw3.out,hs3,HT,HON.out,HBN.out⟩
       case measure=>simp [intOf];omega
      ·obtain rfl:j=out.length:=by omega
       have hrc:=read_canon _ _ out out2 c hout.out hl2.out HW2.out hc0 hc1 hval.out
       rw [<-hV.out] at hrc
       have HRC:=Lib.hid hrc
       clear hrc hsame hval hjl
       by_cases hcz:c=0
       ·subst hcz
        have hd0:decide ((0:Int)<0)=false:=rfl
        have hl4:Hid (out2.length=out.length):=hl2
        go_wp2
        go_roundw
        case rel=>exact ⟨k+1,out2,vo,vc,by omega,by go_num,by rw [hl4.out],by rw [hl4.out];omega,HRC.out.1 rfl,hD2,by rw [hl4.out];exact hown2,hb2⟩
        case measure=>simp [intOf];omega
       ·have hcp:0<c:=by omega
        have hcp':decide ((0:Int)<c)=true:=by simpa using hcp
        go_wp2_with (first
         | (at_builtin;refine Gx.wpList_push wr rfl _ _ 169 rfl (w.heap.size+1) 145 (.int .u32 0) 1 4 Tryz.underlying169 Tryz.info_u32 rfl (by decide) _ _ _ [.int .u32 c] _ rfl rfl (by exact hown2) rfl rfl ?e2 ?e3 ?e4 ?e5 ?_))
        case e2=>intro u hu;simp at hu;subst hu;rfl
        case e3=>omega
        case e4=>omega
        case e5=>omega
        intro v' w' hown5 hg5 _ _
        have hb5:Below (w.heap.size+1) w1 w':=hb2.grown hg5 (Nat.le_trans hs1 hbs) (fun k e=>(hown2.lt k e).1)
        obtain ⟨vo5,vc5,rfl⟩:=Gx.own_form hown5
        have hl5:(out2++[c]).length=out.length+1:=by simp [hl2.out]
        have hown6:w'.ownsRow (w.heap.size+1) 145 1 (.slice vo5 (out2++[c]).length vc5) (out2++[c]).length ((out2++[c]).map (Value.int .u32)):=by
         rw [hl5,List.map_append];exact hown5
        have HL5:=Lib.hid hl5
        clear hl5 hown5 hown2 hg5 hb2
        go_wp2
        go_roundw
        case rel=>exact ⟨k+1,out2++[c],vo5,vc5,by omega,by go_num,by rw [HL5.out],by rw [HL5.out];omega,HRC.out.2 hcp,hD2,hown6,hb5⟩
        case measure=>simp [intOf];omega
    ·have HN:Hid (¬ (decOk s.data.toList/\s.data.toList.length<=1000)):=by
      rintro ⟨⟨-,h3,-⟩,-⟩
      apply hd
      rw [<-EB.out]
      exact h3 _ (List.getElem_mem htk)
     simp [isDigit] at hd
     clear hown
     by_cases hdl:b.toNat<48
     ·have hdl':decide ((b.toNat:Int)<48)=true:=by simp;omega
      go_wp2
      go_ret2
      exact .inr ⟨HN.out,4,by decide,rfl,hWB.out⟩
     ·have hdl':decide ((b.toNat:Int)<48)=false:=by simp;omega
      have hdg':decide ((57:Int)<(b.toNat:Int))=true:=by simp;omega
      go_wp2
      go_ret2
      exact .inr ⟨HN.out,4,by decide,rfl,hWB.out⟩
   ·obtain rfl:k=s.size:=by omega
    have hdig':=hdig.out
    have hout':=hout.out
    rw [List.take_of_length_le (by simp)] at hdig' hout'
    have hnil:s.data.toList≠[]:=by
     intro h3
     have h4:s.data.toList.length=s.data.size:=Array.length_toList
     have h5:s.data.size=s.size:=rfl
     rw [h3] at h4
     have h6:0=s.data.size:=h4
     omega
    have hok:decOk s.data.toList:=⟨hnil,hdig',HHD.out⟩
    have hw:Words out:=by rw [hout'];exact canon_words _
    obtain ⟨ad',cap',he,hr⟩:=Gx.Rd.own (k:=.u32) (xs:=out) hown (wf_words hw)
    obtain ⟨rfl,rfl⟩:vo=ad'/\vc=cap':=by simpa using he
    have HR:=Lib.hid hr
    have HO:=Lib.hid hout'
    have HOK:=Lib.hid hok
    clear hr hout' hok hdig' hown hw he hnil
    go_wp2
    go_ret2
    refine .inl ⟨HOK.out,by simpa using h2,vo,vc,?_,?_,hWB.out⟩
    ·rw [<-HO.out];rfl
    ·rw [<-HO.out];exact HR.out
theorem bigRead_any (s:ByteArray) (w:World):Calls Tryz.prog 126 #[.string s] w (ReadPostFl s.data.toList w):=by
 by_cases h1:1000<s.size
 ·exact bigRead_long s w h1
 by_cases h0:s.size=0
 ·obtain ⟨⟨l⟩⟩:=s
  have:l=[]:=List.eq_nil_of_length_eq_zero h0
  subst this
  exact bigRead_empty w
 by_cases h2:s[0]=48/\1<s.size
 ·exact bigRead_nought s w h2.2 (by omega) h2.1
 ·exact bigRead_loop s w (by omega) (by omega) (fun h3=>by
   have:¬ 1<s.size:=fun h4=>h2 ⟨h3,h4⟩
   omega)
end Go.Proofs.YtldhmfkojaekfaaGreatDoor
