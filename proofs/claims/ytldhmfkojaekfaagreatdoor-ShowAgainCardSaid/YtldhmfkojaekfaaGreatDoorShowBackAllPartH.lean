/-
  Lemmas for the statement: plain laws, and what functions answer; the conditions stand in each.
-/
import Derived.Lib.Strings
import GoSem.Op.String
import Derived.Test.YtldhmfkojaekfaaGreatDoorShowBackAllPartG
set_option linter.unusedVariables false
set_option linter.unusedSimpArgs false
namespace Go.Proofs.YtldhmfkojaekfaaGreatDoor
open Go.RowKit Gx
set_option maxRecDepth 100000
def tenUp (e:Int):Nat:=10 ^ e.toNat
def tenDn (e:Int):Nat:=10 ^ (-e).toNat
theorem tenDn_pos (e:Int):0<tenDn e:=Nat.pow_pos (by decide)
theorem tenUp_pos (e:Int):0<tenUp e:=Nat.pow_pos (by decide)
theorem ten_le (n:Nat):10 ^ n<=2 ^ (4 * n):=by
 rw [Nat.pow_mul]
 exact Nat.pow_le_pow_left (by decide) n
theorem ten_fitsK (n K:Nat) (h:4 * n<32 * K):Fits (10 ^ n) K:=by
 unfold Fits
 rw [pow32]
 exact Nat.lt_of_le_of_lt (ten_le n) (Nat.pow_lt_pow_right (by decide) h)
theorem ten_fits (n:Nat) (h:n<=1000):Fits (10 ^ n) 126:=ten_fitsK n 126 (by omega)
theorem two_fitsK (n K:Nat) (h:n<32 * K):Fits (2 ^ n) K:=by
 unfold Fits
 rw [pow32]
 exact Nat.pow_lt_pow_right (by decide) h
def TwoPost (N D:Nat) (w:World) (e:Ending) (w':World):Prop :=
 ∃ no nc dd dc,e=.returned (.tuple #[.slice no (canon N).length nc,.slice dd (canon D).length dc])/\Rd .u32 w' no nc (canon N)/\Rd .u32 w' dd dc (canon D)/\Below w.heap.size w w'
theorem one_rd (w:World):Rd .u32 (w.alloc (.cells #[.int .u32 1] 145)) (some ⟨w.heap.size,0,none⟩) 1 (canon 1):=by
 have hc:canon 1=[1]:=rfl
 rw [hc]
 refine ⟨by simp,by decide,fun x hx=>?_,(fun h=>by cases h),fun a ha _=>?_⟩
 ·simp at hx;subst hx
  simp [Lit.wf,IntKind.min,IntKind.max,IntKind.signed,IntKind.bits]
 ·obtain rfl:=Option.some.inj ha
  refine ⟨rfl,by simp,fun j hj=>?_⟩
  obtain rfl:j=0:=by simp at hj;omega
  exact World.cell?_alloc_mark w _ _ (0,0) 0
set_option maxHeartbeats 1000000 in
theorem ratio_any (ad:Option Addr) (ca M:Nat) (e:Int) (w:World) (h:Rd .u32 w ad ca (canon M)) (hl:(canon M).length<=1000) (h1:-1000<=e) (h2:e<=1000) :
 Calls Tryz.prog 148 #[.slice ad (canon M).length ca,.int .i64 e] w (TwoPost (M * tenUp e) (tenDn e) w):=by
 by_cases he:e<0
 ·obtain ⟨n,rfl⟩:∃ n:Nat,e=-(n:Int):=⟨(-e).toNat,by omega⟩
  have eu:M * tenUp (-(n:Int))=M:=by
   unfold tenUp
   rw [show (-(n:Int)).toNat=0 by omega];simp
  have ed:tenDn (-(n:Int))=10 ^ n:=by
   unfold tenDn
   rw [show (- -(n:Int)).toNat=n by omega]
  rw [eu,ed]
  have H:=Lib.hid h
  have hp:=bigPow_any 10 n w (by decide) (by omega)
  unfold SubPost at hp
  have HP:=Lib.hid hp
  have hn0:0<n:=by omega
  have hn1:(0:Int)<(n:Int):=by omega
  obtain ⟨k,hk⟩:∃ k,k=(canon M).length:=⟨_,rfl⟩
  have HK:=Lib.hid hk
  rw [<-hk]
  have hn:(n:Int)<=1000:=by omega
  clear h hp eu ed hl he hk h1 h2
  go_enter Tryz.func148,Tryz.ntmps148
  go_wp2_with fail
  refine HP.out.mono ?_
  rintro e w1 ⟨po,pc,rfl,hr,hb⟩
  have HR:=Lib.hid hr
  have H1:=Lib.hid (H.out.keep hb)
  have B1:=Lib.hid hb
  clear hr hb
  go_wp2
  go_ret2
  rw [HK.out]
  exact ⟨_,_,_,_,rfl,H1.out,HR.out,B1.out⟩
 ·obtain ⟨n,rfl⟩:∃ n:Nat,e=(n:Int):=⟨e.toNat,by omega⟩
  have eu:tenUp (n:Int)=10 ^ n:=by
   unfold tenUp
   rw [Int.toNat_natCast]
  have ed:tenDn (n:Int)=1:=by
   unfold tenDn
   rw [show (-(n:Int)).toNat=0 by omega,Nat.pow_zero]
  rw [eu,ed]
  have hf:=(ten_fits n (by omega)).len
  have hp:=bigPow_any 10 n w (by decide) (by omega)
  unfold SubPost at hp
  have HP:=Lib.hid hp
  have HM:=fun w0 (hb:Below w.heap.size w w0) po pc (hr:Rd .u32 w0 po pc (canon (10 ^ n)))=>mul_two ad po ca pc (canon M) (canon (10 ^ n)) w0 M (10 ^ n) (h.keep hb) hr (bval_canon _) (bval_canon _) (by omega) (by omega)
  obtain ⟨k,hk⟩:∃ k,k=(canon M).length:=⟨_,rfl⟩
  rw [<-hk] at HM ⊢
  replace HM:=Lib.hid HM
  have t0:decide ((n:Int)<0)=false:=decide_eq_false he
  have hn:(n:Int)<=1000:=by omega
  clear h hp hf eu ed hl he hk h1 h2
  go_enter Tryz.func148,Tryz.ntmps148
  go_wp2_with fail
  refine HP.out.mono ?_
  rintro e w1 ⟨po,pc,rfl,hr,hb⟩
  have HR:=Lib.hid hr
  have B1:=Lib.hid hb
  clear hr hb
  go_wp2_with fail
  refine (HM.out w1 B1.out _ _ HR.out).mono ?_
  rintro e w2 ⟨mo,mc,rfl,hr,hb⟩
  have HR2:=Lib.hid (hr.keep ((Below.refl w2.heap.size w2).alloc (Nat.le_refl _) (.cells #[.int .u32 1] 145)))
  have B2:=Lib.hid ((B1.out.trans (hb.mono B1.out.size)).alloc (Nat.le_trans B1.out.size hb.size) (.cells #[.int .u32 1] 145))
  have HO:=Lib.hid (one_rd w2)
  clear hr hb
  go_wp2
  go_ret2
  exact ⟨_,_,_,_,rfl,HR2.out,HO.out,B2.out⟩
def rheN (P Q:Nat):Nat:=P / Q+if Q<2 * (P % Q)\/(2 * (P % Q)=Q/\P / Q % 2=1) then 1 else 0
def shNum (P:Nat) (e:Int):Nat:=P * 2 ^ (-e).toNat
def shDen (Q:Nat) (e:Int):Nat:=Q * 2 ^ e.toNat
def U64Post (n:Nat) (w:World) (e:Ending) (w':World):Prop:=e=.returned (.int .u64 n)/\Below w.heap.size w w'
theorem and_one (o:Nat) (h:o<18446744073709551616):bits BinOp.and IntKind.u64 (o:Int) 1=((o % 2:Nat):Int):=by
 have:=bits_and_u64_nat o 1 h (by decide)
 rw [Nat.and_one_is_mod] at this
 exact this
theorem bval_drop_le (xs:List Int) (hw:Words xs) (j:Nat) (hj:j<=xs.length):bval (xs.drop j)<=bval xs:=by
 rw [<-bval_shr xs hw j hj];exact Nat.div_le_self _ _
theorem bval_drop_32 (xs:List Int) (hw:Words xs) (j:Nat) (hj:j+1<=xs.length):bval (xs.drop (j+1)) * 4294967296<=bval xs:=by
 have h1:=bval_drop1 xs j (by omega)
 have h2:=bval_drop_le xs hw j (by omega)
 omega
set_option maxHeartbeats 4000000 in
theorem scaled_any (ad bd:Option Addr) (ca cb P0 Q0:Nat) (e:Int) (w:World) (h:Rd .u32 w ad ca (canon P0)) (g:Rd .u32 w bd cb (canon Q0)) (hl:(canon P0).length<=1000) (hl2:(canon Q0).length<=1000) (hQ:Q0≠0) (h1:-1100<=e) (h2:e<=1100)
 (hlt:shNum P0 e / shDen Q0 e<72057594037927936) :
 Calls Tryz.prog 150 #[.slice ad (canon P0).length ca,.slice bd (canon Q0).length cb,.int .i64 e] w (U64Post (rheN (shNum P0 e) (shDen Q0 e)) w):=by
 obtain ⟨P,hP⟩:∃ P,P=shNum P0 e:=⟨_,rfl⟩
 obtain ⟨Q,hQe⟩:∃ P,P=shDen Q0 e:=⟨_,rfl⟩
 have hQ1:Q≠0:=by rw [hQe];unfold shDen;exact Nat.mul_ne_zero hQ (Nat.ne_of_gt (Nat.two_pow_pos _))
 rw [<-hP,<-hQe] at hlt ⊢
 have fP0:Fits P0 1000:=by have:=Fits.words (canon_words P0);rw [bval_canon] at this;exact this.mono hl
 have fQ0:Fits Q0 1000:=by have:=Fits.words (canon_words Q0);rw [bval_canon] at this;exact this.mono hl2
 have f2:∀ n:Nat,n<=1100->Fits (2 ^ n) 35:=fun n hn=>two_fitsK n 35 (by omega)
 have lP:(canon P).length<=2000:=by
  rw [hP];unfold shNum
  have:=(fP0.mul (f2 (-e).toNat (by omega))).len
  omega
 have lQ:(canon Q).length<=2000:=by
  rw [hQe];unfold shDen
  have:=(fQ0.mul (f2 e.toNat (by omega))).len
  omega
 have lq:(canon (P / Q)).length<=2:=canon_len_le _ 2 (by omega)
 have hRQ:P % Q<Q:=Nat.mod_lt _ (by omega)
 have lR:(canon (P % Q)).length<=2000:=by
  have f:=Fits.words (canon_words Q)
  rw [bval_canon] at f
  have:Fits (P % Q) (canon Q).length:=Nat.lt_trans hRQ f
  have:=this.len
  omega
 have lRR:(canon (P % Q+P % Q)).length<=2002:=by
  have f:=Fits.words (canon_words (P % Q))
  rw [bval_canon] at f
  have:=(f.add f).len
  omega
 have HD:=fun (w1:World) (ad bd:Option Addr) (ca cb:Nat) (hp:Rd .u32 w1 ad ca (canon P)) (hq:Rd .u32 w1 bd cb (canon Q))=>(by
  have:=divMod_any ad bd ca cb (canon P) (canon Q) w1 hp hq (by omega) (by omega) (by rw [bval_canon];exact hQ1)
  rwa [bval_canon,bval_canon] at this:Calls Tryz.prog 162 #[.slice ad (canon P).length ca,.slice bd (canon Q).length cb] w1 (DivModPost (P / Q) (P % Q) w1))
 have HA:=fun (w1:World) (ad:Option Addr) (ca:Nat) (hr:Rd .u32 w1 ad ca (canon (P % Q)))=>add_two ad ad ca ca (canon (P % Q)) (canon (P % Q)) w1 (P % Q) (P % Q) hr hr (bval_canon _) (bval_canon _) (by omega) (by omega)
 have HC:=fun (w1:World) (ad bd:Option Addr) (ca cb:Nat) (hr:Rd .u32 w1 ad ca (canon (P % Q+P % Q))) (hq:Rd .u32 w1 bd cb (canon Q))=>(by
  have:=bigCmp_any ad bd ca cb (canon (P % Q+P % Q)) (canon Q) w1 hr hq (by omega) (by omega)
  rwa [bval_canon,bval_canon] at this:Calls Tryz.prog 164 #[.slice ad (canon (P % Q+P % Q)).length ca,.slice bd (canon Q).length cb] w1 (CmpPostFl (P % Q+P % Q) Q w1))
 have hrhe:rheN P Q=P / Q+if Q<P % Q+P % Q\/(P % Q+P % Q=Q/\P / Q % 2=1) then 1 else 0:=by unfold rheN;rw [show 2 * (P % Q)=P % Q+P % Q by omega]
 unfold DivModPost at HD
 unfold WordsPost at HA
 unfold CmpPostFl at HC
 have hbq:bval (canon (P / Q))=P / Q:=bval_canon _
 have hwq:=canon_words (P / Q)
 obtain ⟨q,hq⟩:∃ q,q=P / Q:=⟨_,rfl⟩
 obtain ⟨r,hr⟩:∃ q,q=P % Q:=⟨_,rfl⟩
 rw [<-hq] at hlt lq hbq hwq
 rw [<-hq,<-hr] at HD hrhe
 rw [<-hr] at HA HC
 obtain ⟨qs,hqs⟩:∃ qs,qs=canon q:=⟨_,rfl⟩
 rw [<-hqs] at lq hbq hwq HD
 have HQQ:=Lib.hid hqs
 obtain ⟨kp,hkp⟩:∃ k,k=(canon P).length:=⟨_,rfl⟩
 obtain ⟨kq,hkq⟩:∃ k,k=(canon Q).length:=⟨_,rfl⟩
 obtain ⟨L,hL⟩:∃ k,k=qs.length:=⟨_,rfl⟩
 rw [<-hkp,<-hkq,<-hL] at HD
 rw [<-hkq] at HC
 rw [<-hL] at lq
 have KP:=Lib.hid hkp
 have KQ:=Lib.hid hkq
 have KL:=Lib.hid hL
 have HBQ:=Lib.hid hbq
 have HWQ:=Lib.hid hwq
 have HRH:=Lib.hid hrhe
 replace HD:=Lib.hid HD
 replace HA:=Lib.hid HA
 replace HC:=Lib.hid HC
 clear fP0 fQ0 f2 lP lQ hRQ lR lRR hq hr hbq hwq hrhe hQ1
 by_cases he:e<0
 ·obtain ⟨n,rfl⟩:∃ n:Nat,e=-(n:Int):=⟨(-e).toNat,by omega⟩
  have eP:P=P0 * 2 ^ n:=by rw [hP];unfold shNum;rw [show (- -(n:Int)).toNat=n by omega]
  obtain rfl:Q=Q0:=by rw [hQe];unfold shDen;rw [show (-(n:Int)).toNat=0 by omega,Nat.pow_zero,Nat.mul_one]
  have hs:=bigShift_left ad ca (canon P0) n w h (by omega) (by omega)
  unfold SubPost at hs
  rw [bval_canon,<-eP,<-hkp] at hs
  have HS:=Lib.hid hs
  have G:=Lib.hid g
  have hn0:0<n:=by omega
  have hn1:(0:Int)<(n:Int):=by omega
  have hn2:(n:Int)<=1100:=by omega
  obtain ⟨k0,hk0⟩:∃ k,k=(canon P0).length:=⟨_,rfl⟩
  rw [<-hk0] at HS ⊢
  rw [<-hkq]
  clear h g hs eP hP hQe he h1 h2 hl hl2 hQ hkp hkq hL hqs hk0
  go_enter Tryz.func150,Tryz.ntmps150
  go_wp2_with fail
  refine HS.out.mono ?_
  rintro e w1 ⟨pd,pc,rfl,hr,hb⟩
  have HP1:=Lib.hid hr
  have HQ1:=Lib.hid (G.out.keep hb)
  have B1:=Lib.hid hb
  clear hr hb
  go_wp2_with fail
  refine (HD.out w1 _ _ _ _ HP1.out HQ1.out).mono ?_
  rintro e w2 ⟨qo,qc,ro,rc,rfl,hq,hr,hb⟩
  have HQ2:=Lib.hid hq
  have HR2:=Lib.hid hr
  have HD2:=Lib.hid (HQ1.out.keep hb)
  have B2:=Lib.hid (B1.out.trans (hb.mono B1.out.size))
  clear hq hr hb HP1 HQ1 B1 HD
  go_wp2_with fail
  go_loop [10,11] (fun o iv=>∃ (z:Int) (j:Nat),iv=.int .i64 z/\z+1=j/\j<=L/\o=.int .u64 (bval (qs.drop j):Nat)) (fun _ iv=>(intOf iv+1).toNat)
  case atStart=>exact ⟨_,L,rfl,by omega,Nat.le_refl _,by rw [List.drop_eq_nil_of_le (by rw [KL.out];exact Nat.le_refl _)];rfl⟩
  case round =>
   obtain ⟨z,j,rfl,hzj,hjL,rfl⟩:=hrel
   by_cases hj0:j=0
   ·subst hj0
    obtain rfl:z=-1:=by omega
    rw [List.drop_zero,HBQ.out]
    have hand:=and_one q (by omega)
    obtain ⟨m2,hm2⟩:∃ m,m=q % 2:=⟨_,rfl⟩
    have hm3:m2<2:=by omega
    rw [<-hm2] at hand
    have HM2:=Lib.hid hm2
    clear hm2
    go_wp2_with fail
    refine (HA.out w2 _ _ HR2.out).mono ?_
    rintro e w3 ⟨so,sc,rfl,hs,hb⟩
    have HS3:=Lib.hid hs
    have HD3:=Lib.hid (HD2.out.keep hb)
    have B3:=Lib.hid (B2.out.trans (hb.mono B2.out.size))
    clear hs hb HD2 B2 HA
    go_wp2_with fail
    refine (HC.out w3 _ _ _ _ HS3.out HD3.out).mono ?_
    rintro e w4 ⟨rfl,hb⟩
    have B4:=Lib.hid (B3.out.trans (hb.mono B3.out.size))
    clear hb HS3 HD3 B3 HC
    rcases Nat.lt_trichotomy Q (r+r) with h1|h1|h1
    ·rw [cmp_gt h1]
     have hv:rheN P Q=q+1:=by rw [HRH.out,if_pos (.inl h1)]
     have HV:=Lib.hid hv
     clear hv h1
     go_wp2
     go_ret
     exact ⟨by rw [HV.out];congr 1,B4.out⟩
    ·rw [cmp_eq h1.symm]
     rcases Nat.lt_or_ge m2 1 with h2|h2
     ·obtain rfl:m2=0:=by omega
      have hv:rheN P Q=q:=by
       have:=HM2.out
       rw [HRH.out,if_neg (by omega),Nat.add_zero]
      have HV:=Lib.hid hv
      clear hv h1 h2
      go_wp2
      go_ret
      exact ⟨by rw [HV.out];rfl,B4.out⟩
     ·obtain rfl:m2=1:=by omega
      have hv:rheN P Q=q+1:=by
       have:=HM2.out
       rw [HRH.out,if_pos (by omega)]
      have HV:=Lib.hid hv
      clear hv h1 h2
      go_wp2
      go_ret
      exact ⟨by rw [HV.out];congr 1,B4.out⟩
    ·rw [cmp_lt h1]
     have hv:rheN P Q=q:=by rw [HRH.out,if_neg (by omega),Nat.add_zero]
     have HV:=Lib.hid hv
     clear hv h1
     go_wp2
     go_ret
     exact ⟨by rw [HV.out];rfl,B4.out⟩
   ·obtain ⟨i,rfl⟩:∃ i:Nat,z=i:=⟨(j - 1:Nat),by omega⟩
    obtain rfl:j=i+1:=by omega
    obtain ⟨b1,o1,rfl,-,hcq⟩:=HQ2.out.addr (by have:=KL.out;omega)
    have c0:=hcq i (by have:=KL.out;omega)
    obtain ⟨x0,x1⟩:=words_getD HWQ.out i
    have hd1:=bval_drop1 qs i (by have:=KL.out;omega)
    have hd2:=bval_drop_32 qs HWQ.out i (by have:=KL.out;omega)
    rw [HBQ.out] at hd2
    obtain ⟨x,hx⟩:∃ x:Nat,(x:Int)=qs.getD i 0:=⟨(qs.getD i 0).toNat,by omega⟩
    rw [<-hx] at c0 x1
    obtain ⟨o,ho⟩:∃ o,o=bval (qs.drop (i+1)):=⟨_,rfl⟩
    rw [<-ho] at hd1 hd2 ⊢
    have hor:=or_word o x (by omega) (by omega) (by omega) x1
    have hn:(o:Int) * 4294967296+(x:Int)=((bval (qs.drop i):Nat):Int):=by
     rw [hd1,<-hx,Int.toNat_natCast];omega
    rw [hn] at hor
    have ho2:(o:Int)<=4294967295:=by omega
    clear hcq hd1 hd2 hx ho hn hj0 hzj x0
    go_wp2
    go_round
    case rel=>exact ⟨_,i,rfl,by omega,by omega,rfl⟩
    case measure=>simp [intOf]
 ·obtain ⟨n,rfl⟩:∃ n:Nat,e=(n:Int):=⟨e.toNat,by omega⟩
  have eQ:Q=Q0 * 2 ^ n:=by rw [hQe];unfold shDen;rw [Int.toNat_natCast]
  obtain rfl:P=P0:=by rw [hP];unfold shNum;rw [show (-(n:Int)).toNat=0 by omega,Nat.pow_zero,Nat.mul_one]
  have hs:=bigShift_left bd cb (canon Q0) n w g (by omega) (by omega)
  unfold SubPost at hs
  rw [bval_canon,<-eQ,<-hkq] at hs
  have HS:=Lib.hid hs
  have G:=Lib.hid h
  have hn2:(n:Int)<=1100:=by omega
  have hn3:(0:Int)<=(n:Int):=by omega
  obtain ⟨k0,hk0⟩:∃ k,k=(canon Q0).length:=⟨_,rfl⟩
  rw [<-hk0] at HS ⊢
  rw [<-hkp]
  clear h g hs eQ hP hQe he h1 h2 hl hl2 hQ hkp hkq hL hqs hk0
  go_enter Tryz.func150,Tryz.ntmps150
  go_wp2_with fail
  refine HS.out.mono ?_
  rintro e w1 ⟨pd,pc,rfl,hr,hb⟩
  have HQ1:=Lib.hid hr
  have HP1:=Lib.hid (G.out.keep hb)
  have B1:=Lib.hid hb
  clear hr hb
  go_wp2_with fail
  refine (HD.out w1 _ _ _ _ HP1.out HQ1.out).mono ?_
  rintro e w2 ⟨qo,qc,ro,rc,rfl,hq,hr,hb⟩
  have HQ2:=Lib.hid hq
  have HR2:=Lib.hid hr
  have HD2:=Lib.hid (HQ1.out.keep hb)
  have B2:=Lib.hid (B1.out.trans (hb.mono B1.out.size))
  clear hq hr hb HP1 HQ1 B1 HD
  go_wp2_with fail
  go_loop [10,11] (fun o iv=>∃ (z:Int) (j:Nat),iv=.int .i64 z/\z+1=j/\j<=L/\o=.int .u64 (bval (qs.drop j):Nat)) (fun _ iv=>(intOf iv+1).toNat)
  case atStart=>exact ⟨_,L,rfl,by omega,Nat.le_refl _,by rw [List.drop_eq_nil_of_le (by rw [KL.out];exact Nat.le_refl _)];rfl⟩
  case round =>
   obtain ⟨z,j,rfl,hzj,hjL,rfl⟩:=hrel
   by_cases hj0:j=0
   ·subst hj0
    obtain rfl:z=-1:=by omega
    rw [List.drop_zero,HBQ.out]
    have hand:=and_one q (by omega)
    obtain ⟨m2,hm2⟩:∃ m,m=q % 2:=⟨_,rfl⟩
    have hm3:m2<2:=by omega
    rw [<-hm2] at hand
    have HM2:=Lib.hid hm2
    clear hm2
    go_wp2_with fail
    refine (HA.out w2 _ _ HR2.out).mono ?_
    rintro e w3 ⟨so,sc,rfl,hs,hb⟩
    have HS3:=Lib.hid hs
    have HD3:=Lib.hid (HD2.out.keep hb)
    have B3:=Lib.hid (B2.out.trans (hb.mono B2.out.size))
    clear hs hb HD2 B2 HA
    go_wp2_with fail
    refine (HC.out w3 _ _ _ _ HS3.out HD3.out).mono ?_
    rintro e w4 ⟨rfl,hb⟩
    have B4:=Lib.hid (B3.out.trans (hb.mono B3.out.size))
    clear hb HS3 HD3 B3 HC
    rcases Nat.lt_trichotomy Q (r+r) with h1|h1|h1
    ·rw [cmp_gt h1]
     have hv:rheN P Q=q+1:=by rw [HRH.out,if_pos (.inl h1)]
     have HV:=Lib.hid hv
     clear hv h1
     go_wp2
     go_ret
     exact ⟨by rw [HV.out];congr 1,B4.out⟩
    ·rw [cmp_eq h1.symm]
     rcases Nat.lt_or_ge m2 1 with h2|h2
     ·obtain rfl:m2=0:=by omega
      have hv:rheN P Q=q:=by
       have:=HM2.out
       rw [HRH.out,if_neg (by omega),Nat.add_zero]
      have HV:=Lib.hid hv
      clear hv h1 h2
      go_wp2
      go_ret
      exact ⟨by rw [HV.out];rfl,B4.out⟩
     ·obtain rfl:m2=1:=by omega
      have hv:rheN P Q=q+1:=by
       have:=HM2.out
       rw [HRH.out,if_pos (by omega)]
      have HV:=Lib.hid hv
      clear hv h1 h2
      go_wp2
      go_ret
      exact ⟨by rw [HV.out];congr 1,B4.out⟩
    ·rw [cmp_lt h1]
     have hv:rheN P Q=q:=by rw [HRH.out,if_neg (by omega),Nat.add_zero]
     have HV:=Lib.hid hv
     clear hv h1
     go_wp2
     go_ret
     exact ⟨by rw [HV.out];rfl,B4.out⟩
   ·obtain ⟨i,rfl⟩:∃ i:Nat,z=i:=⟨(j - 1:Nat),by omega⟩
    obtain rfl:j=i+1:=by omega
    obtain ⟨b1,o1,rfl,-,hcq⟩:=HQ2.out.addr (by have:=KL.out;omega)
    have c0:=hcq i (by have:=KL.out;omega)
    obtain ⟨x0,x1⟩:=words_getD HWQ.out i
    have hd1:=bval_drop1 qs i (by have:=KL.out;omega)
    have hd2:=bval_drop_32 qs HWQ.out i (by have:=KL.out;omega)
    rw [HBQ.out] at hd2
    obtain ⟨x,hx⟩:∃ x:Nat,(x:Int)=qs.getD i 0:=⟨(qs.getD i 0).toNat,by omega⟩
    rw [<-hx] at c0 x1
    obtain ⟨o,ho⟩:∃ o,o=bval (qs.drop (i+1)):=⟨_,rfl⟩
    rw [<-ho] at hd1 hd2 ⊢
    have hor:=or_word o x (by omega) (by omega) (by omega) x1
    have hn:(o:Int) * 4294967296+(x:Int)=((bval (qs.drop i):Nat):Int):=by
     rw [hd1,<-hx,Int.toNat_natCast];omega
    rw [hn] at hor
    have ho2:(o:Int)<=4294967295:=by omega
    clear hcq hd1 hd2 hx ho hn hj0 hzj x0
    go_wp2
    go_round
    case rel=>exact ⟨_,i,rfl,by omega,by omega,rfl⟩
    case measure=>simp [intOf]
set_option maxRecDepth 100000
def Y75 (N:Nat):Nat:=N * 2 ^ 1075
theorem y75_of (N K:Nat) (h:K=1075):Y75 N=N * 2 ^ K:=by rw [h];rfl
theorem y75_zero:Y75 0=0:=by
 obtain ⟨K,hK⟩:∃ K:Nat,K=1075:=⟨_,rfl⟩
 rw [y75_of 0 K hK,Nat.zero_mul]
theorem rnd_zero75 (D:Nat) (hD:0<D):Rnd (Y75 0) D 0:=by rw [y75_zero];exact rnd_zero D hD
theorem sh_rel (P0 Q0 E:Nat) (e:Int) (h:(E:Int)=e+1074):2 * shNum P0 e * (Q0 * 2 ^ E)=Y75 P0 * shDen Q0 e:=by
 unfold shNum shDen Y75
 obtain ⟨K,hK⟩:∃ K:Nat,K=1075:=⟨_,rfl⟩
 rw [<-hK]
 have e1:2 * (P0 * 2 ^ (-e).toNat) * (Q0 * 2 ^ E)=(P0 * Q0) * 2 ^ (1+(-e).toNat+E):=by
  rw [Nat.pow_add,Nat.pow_add,Nat.pow_one]
  generalize 2 ^ (-e).toNat=u
  generalize 2 ^ E=v
  rw [Nat.mul_comm 2 (P0 * u),Nat.mul_assoc P0 u 2,Nat.mul_assoc P0 (u * 2),Nat.mul_assoc P0 Q0]
  congr 1
  rw [Nat.mul_comm u 2,Nat.mul_left_comm (2 * u) Q0 v]
 have e2:P0 * 2 ^ K * (Q0 * 2 ^ e.toNat)=(P0 * Q0) * 2 ^ (K+e.toNat):=by
  rw [Nat.pow_add]
  generalize 2 ^ K=u
  generalize 2 ^ e.toNat=v
  rw [Nat.mul_assoc P0 u,Nat.mul_assoc P0 Q0,Nat.mul_left_comm u Q0 v]
 rw [e1,e2]
 congr 2
 omega
theorem fits_of_blen (n K:Nat) (h0:n≠0) (h:blen n<=32 * K):Fits n K:=by
 unfold Fits
 rw [pow32]
 exact Nat.lt_of_lt_of_le (blen_bounds n h0).2.2 (Nat.pow_le_pow_right (by decide) h)
theorem blen_of_fits (n K:Nat) (h:Fits n K):blen n<=32 * K:=by
 unfold Fits at h
 rw [pow32] at h
 rcases Nat.eq_zero_or_pos n with h0|h0
 ·rw [h0];simp [blen]
 ·obtain ⟨b1,b2,b3⟩:=blen_bounds n (by omega)
  apply Classical.byContradiction
  intro hc
  have:=Nat.pow_le_pow_right (show 0<2 by decide) (show 32 * K<=blen n - 1 by omega)
  omega
theorem near_first' {num den E:Nat} (hn:num≠0) (hd:den≠0) (h1:blen num+1021<=E+blen den) (h2:E=0\/blen num+1021=E+blen den) :
 Y75 num<36028797018963968 * (den * 2 ^ E)/\(E=0\/2 * 4503599627370496 * (den * 2 ^ E)<Y75 num):=by
 have h:=near_first hn hd h1 h2
 have n55:(2:Nat) ^ 55=36028797018963968:=by decide
 have n53:(2:Nat) ^ 53=2 * 4503599627370496:=by decide
 rw [n55,n53] at h
 exact h
theorem blen_le (n k:Nat) (h:n<2 ^ k):blen n<=k:=by
 rcases Nat.eq_zero_or_pos n with h0|h0
 ·rw [h0];simp [blen]
 ·obtain ⟨b1,b2,b3⟩:=blen_bounds n (by omega)
  apply Classical.byContradiction
  intro hc
  have:=Nat.pow_le_pow_right (show 0<2 by decide) (show k<=blen n - 1 by omega)
  omega
def NearPost (N D:Nat) (w:World) (e:Ending) (w':World):Prop :=
 ∃ b:Nat,e=.returned (.tuple #[.int .u64 b,.int .i64 0])/\Rnd (Y75 N) D b/\Below w.heap.size w w'
theorem scale_step {P0 Q0 E:Nat} {e:Int} (hQ:Q0≠0) (h:(E:Int)=e+1074) (ha:Y75 P0<36028797018963968 * (Q0 * 2 ^ E)) :
 shNum P0 e / shDen Q0 e<72057594037927936/\Step (Y75 P0) (Q0 * 2 ^ E) (rheN (shNum P0 e) (shDen Q0 e)):=by
 have hr:=sh_rel P0 Q0 E e h
 have hQ1:0<shDen Q0 e:=Nat.mul_pos (by omega) (Nat.pow_pos (by decide))
 have hT:0<Q0 * 2 ^ E:=Nat.mul_pos (by omega) (Nat.pow_pos (by decide))
 generalize Y75 P0=Y at *
 generalize shNum P0 e=P at *
 generalize shDen Q0 e=Q at *
 generalize Q0 * 2 ^ E=T at *
 have hst:=(rhe_of P Q hQ1).turn hQ1 hT hr
 refine ⟨?_,⟨hst.1,hst.2⟩⟩
 rw [Nat.div_lt_iff_lt_mul hQ1]
 have h1:2 * P * T<(36028797018963968 * Q) * T:=by
  rw [hr,Nat.mul_assoc,Nat.mul_comm Q T,<-Nat.mul_assoc]
  exact Nat.mul_lt_mul_of_pos_right ha hQ1
 have h2:=Nat.lt_of_mul_lt_mul_right h1
 omega
theorem fin_bits (e:Int) (E n:Nat) (he:e+1075=E+1) (h1:4503599627370496<=n) (h2:n<=9007199254740992) (hE:E<=2047) :
 IntKind.u64.wrap ((e+1075) * 4503599627370496+IntKind.u64.wrap ((n:Int) - 4503599627370496))=((E * 4503599627370496+n:Nat):Int):=by
 rw [he,IntKind.wrap_u64,IntKind.wrap_u64]
 omega
theorem tup_bits {a b:Int} (h:a=b):Ending.returned (Value.tuple #[Value.int .u64 a,Value.int .i64 0])=Ending.returned (Value.tuple #[Value.int .u64 b,Value.int .i64 0]):=by rw [h]
variable (ad:Option Addr) (ca:Nat) (xs:List Int) (exp:Int) (w:World)
set_option maxHeartbeats 1000000 in
theorem near_zero (h:Rd .u32 w ad ca xs) (hl:xs.length<=1000) (h1:-1000<=exp) (h2:exp<=1000) (hx:bval xs=0) :
 Calls Tryz.prog 127 #[.slice ad xs.length ca,.int .i64 exp] w (NearPost (bval xs * tenUp exp) (tenDn exp) w):=by
 have hL:=bigLen_any ad ca xs w h (by omega)
 unfold LenPost at hL
 rw [(blen_zero _).2 hx] at hL
 have HL:=Lib.hid hL
 have hr:=rnd_zero75 (tenDn exp) (tenDn_pos exp)
 rw [hx,Nat.zero_mul]
 have HR:=Lib.hid hr
 have t2:decide (exp< -1000)=false:=decide_eq_false (by omega)
 have t3:decide (1000<exp)=false:=decide_eq_false (by omega)
 clear h hL hx hr
 go_enter Tryz.func127,Tryz.ntmps127
 go_wp2_with fail
 refine HL.out.mono ?_
 rintro e w' ⟨rfl,rfl⟩
 go_wp2_with fail
 refine HL.out.mono ?_
 rintro e w' ⟨rfl,rfl⟩
 go_wp2
 go_ret2
 exact ⟨0,rfl,HR.out,Below.refl _ _⟩
set_option maxHeartbeats 4000000 in
theorem near_main (h:Rd .u32 w ad ca xs) (hl:xs.length<=1000) (h1:-1000<=exp) (h2:exp<=1000) (hx:bval xs≠0) (hb:blen (bval xs)<=1280) :
 Calls Tryz.prog 127 #[.slice ad xs.length ca,.int .i64 exp] w (NearPost (bval xs * tenUp exp) (tenDn exp) w):=by
 have hL:=bigLen_any ad ca xs w h (by omega)
 unfold LenPost at hL
 obtain ⟨m,hm⟩:∃ m,m=bval xs:=⟨_,rfl⟩
 have HT:=fun w0 (hb:Below w.heap.size w w0)=>trim_one ad ca xs w0 m (h.keep hb) hm.symm (by omega)
 rw [<-hm] at hL hx hb ⊢
 have fm:Fits m 40:=fits_of_blen m 40 hx (by omega)
 have fu:Fits (tenUp exp) 126:=ten_fits _ (by omega)
 have fd:Fits (tenDn exp) 126:=ten_fits _ (by omega)
 have hup:=tenUp_pos exp
 have hdn:=tenDn_pos exp
 have lm:=fm.len
 have HRT:=fun w0 ao ac (hr:Rd .u32 w0 ao ac (canon m))=>ratio_any ao ac m exp w0 hr (by omega) h1 h2
 have fnum:=fm.mul fu
 obtain ⟨num,hnum⟩:∃ n,n=m * tenUp exp:=⟨_,rfl⟩
 obtain ⟨den,hden⟩:∃ n,n=tenDn exp:=⟨_,rfl⟩
 rw [<-hnum] at fnum
 rw [<-hden] at fd hdn
 rw [<-hnum,<-hden] at HRT ⊢
 have hn0:num≠0:=by rw [hnum];exact Nat.mul_ne_zero hx (by omega)
 have hd0:den≠0:=by omega
 have lnum:=fnum.len
 have lden:=fd.len
 have bn:blen num<=5312:=by have:=blen_of_fits _ _ fnum;omega
 have bd:blen den<=4032:=by have:=blen_of_fits _ _ fd;omega
 have HLN:=fun w0 ao ac (hr:Rd .u32 w0 ao ac (canon num))=>bigLen_any ao ac (canon num) w0 hr (by omega)
 have HLD:=fun w0 ao ac (hr:Rd .u32 w0 ao ac (canon den))=>bigLen_any ao ac (canon den) w0 hr (by omega)
 unfold LenPost at HLN HLD
 rw [bval_canon] at HLN HLD
 have hS:=fun (e:Int) (he1:-1100<=e) (he2:e<=1100) (hlt:shNum num e / shDen den e<72057594037927936) w0 no nc dd dc (hn:Rd .u32 w0 no nc (canon num)) (hd:Rd .u32 w0 dd dc (canon den)) =>
  scaled_any no dd nc dc num den e w0 hn hd (by omega) (by omega) hd0 he1 he2 hlt
 unfold U64Post at hS
 obtain ⟨ln,hln⟩:∃ n,n=blen num:=⟨_,rfl⟩
 obtain ⟨ld,hld⟩:∃ n,n=blen den:=⟨_,rfl⟩
 obtain ⟨E,hE⟩:∃ E:Nat,(E:Int)=max ((ln:Int) - (ld:Int) - 53) (-1074)+1074:=⟨(max ((ln:Int) - (ld:Int) - 53) (-1074)+1074).toNat,by omega⟩
 have hmax:max ((ln:Int) - (ld:Int) - 53) (-1074)=(E:Int) - 1074:=by omega
 obtain ⟨na,nb⟩:=near_first' (num:=num) (den:=den) (E:=E) hn0 hd0 (by omega) (by omega)
 have hD:0<den:=by omega
 rw [<-hln] at HLN bn
 rw [<-hld] at HLD bd
 have HSC:=Lib.hid hS
 obtain ⟨bl,hbl⟩:∃ n,n=blen m:=⟨_,rfl⟩
 rw [<-hbl] at hL hb
 have hbl0:bl≠0:=by rw [hbl];exact fun h=>hx ((blen_zero _).1 h)
 have t1:decide ((1280:Int)<(bl:Int))=false:=decide_eq_false (by omega)
 have t2:decide (exp< -1000)=false:=decide_eq_false (by omega)
 have t3:decide (1000<exp)=false:=decide_eq_false (by omega)
 obtain ⟨z1,z2,z3⟩:=kcn hbl0
 have HL:=Lib.hid hL
 have NA:=Lib.hid na
 have NB:=Lib.hid nb
 have HD:=Lib.hid hD
 have HD0:=Lib.hid hd0
 have HMAX:=Lib.hid hmax
 unfold WordsPost at HT
 unfold TwoPost at HRT
 replace HT:=Lib.hid HT
 replace HRT:=Lib.hid HRT
 replace HLN:=Lib.hid HLN
 replace HLD:=Lib.hid HLD
 clear h hL hm fm fu fd fnum hup hdn hnum hden hn0 hd0 lnum lden lm hS hE na nb hD hln hld hbl hbl0 hx hmax hb
 go_enter Tryz.func127,Tryz.ntmps127
 go_wp2_with fail
 refine HL.out.mono ?_
 rintro e w' ⟨rfl,rfl⟩
 go_wp2_with fail
 refine HL.out.mono ?_
 rintro e w' ⟨rfl,rfl⟩
 go_wp2_with fail
 clear t1 t2 t3 z1 z2 z3
 refine (HT.out w (Below.refl _ _)).mono ?_
 rintro e w1 ⟨mo,mc,rfl,hr,hb⟩
 have HM1:=Lib.hid hr
 have B1:=Lib.hid hb
 clear hr hb
 go_wp2_with fail
 refine (HRT.out w1 _ _ HM1.out).mono ?_
 rintro e w2 ⟨no,nc,dd,dc,rfl,hn,hd,hb⟩
 have HN2:=Lib.hid hn
 have HD2:=Lib.hid hd
 have B2:=Lib.hid (B1.out.trans (hb.mono B1.out.size))
 clear hn hd hb HM1 B1
 go_wp2_with fail
 refine (HLN.out w2 _ _ HN2.out).mono ?_
 rintro e w' ⟨rfl,rfl⟩
 go_wp2_with fail
 refine (HLD.out w2 _ _ HD2.out).mono ?_
 rintro e w' ⟨rfl,rfl⟩
 have hmax:=HMAX.out
 by_cases hbig:2046<=E
 ·have hr:=near_hiE HD.out hbig (NB.out.resolve_left (by omega))
  have HR:=Lib.hid hr
  have t1:decide ((971:Int)<(E:Int) - 1074)=true:=decide_eq_true (by omega)
  clear hr
  go_wp2
  go_ret2
  exact ⟨9218868437227405312,rfl,HR.out,B2.out⟩
 obtain ⟨s1,s2⟩:=scale_step (P0:=num) (Q0:=den) (E:=E) (e:=(E:Int) - 1074) HD0.out (by omega) NA.out
 have hS1:=HSC.out ((E:Int) - 1074) (by omega) (by omega) s1
 obtain ⟨n,hn⟩:∃ n,n=rheN (shNum num ((E:Int) - 1074)) (shDen den ((E:Int) - 1074)):=⟨_,rfl⟩
 rw [<-hn] at hS1 s2
 have hn4:n<=18014398509481984:=s2.top (Nat.mul_pos HD.out (Nat.pow_pos (by decide))) (by have:=NA.out;omega)
 have HS1:=Lib.hid hS1
 have ST:=Lib.hid s2
 have t1:decide ((971:Int)<(E:Int) - 1074)=false:=decide_eq_false (by omega)
 have hE5:E<=2045:=by omega
 clear s1 hS1 hn s2 hbig
 go_wp2_with fail
 refine (HS1.out w2 _ _ _ _ HN2.out HD2.out).mono ?_
 rintro e w3 ⟨rfl,hb⟩
 have B3:=Lib.hid (B2.out.trans (hb.mono B2.out.size))
 have HN3:=Lib.hid (HN2.out.keep hb)
 have HD3:=Lib.hid (HD2.out.keep hb)
 clear hb HN2 HD2 B2 hmax
 by_cases hn2:n<9007199254740992
 ·obtain ⟨r1,r2⟩:=near_one HD.out ST.out hn2 NB.out (by omega)
  have hlt:E * 4503599627370496+n<9218868437227405312:=by omega
  rw [if_neg (by omega)] at r2
  have HR:=Lib.hid r2
  have u2:decide ((9007199254740992:Int)<=(n:Int))=false:=decide_eq_false (by omega)
  have v2:((n:Int)==9007199254740992)=false:=by rw [beq_eq_false_iff_ne];omega
  have v3:decide ((n:Int)=9007199254740992)=false:=decide_eq_false (by omega)
  clear r2
  by_cases hH:n<4503599627370496
  ·obtain rfl:E=0:=by omega
   have HH:=Lib.hid hH
   have HN22:=Lib.hid hn2
   have x2:decide ((n:Int)<4503599627370496)=true:=decide_eq_true (by omega)
   clear r1 hH hn2 hn4 hlt
   go_wp2
   go_ret2
   exact ⟨n,rfl,(by have h:=HR.out;rw [Nat.zero_mul,Nat.zero_add] at h;exact h),B3.out⟩
  ·have x1:decide (n<4503599627370496)=false:=decide_eq_false hH
   have x2:decide ((n:Int)<4503599627370496)=false:=decide_eq_false (by omega)
   have HH:=Lib.hid hH
   have HN22:=Lib.hid hn2
   have HLT:=Lib.hid hlt
   clear r1 hH hn2 hn4 hlt
   go_wp2
   go_ret2
   exact ⟨_,tup_bits (fin_bits ((E:Int) - 1074) E n (by omega) (Nat.le_of_not_lt HH.out) (Nat.le_of_lt HN22.out) (by omega)),HR.out,B3.out⟩
 ·have HN22:Hid (9007199254740992<=n):=Nat.le_of_not_lt hn2
  have e2:den * 2 ^ (E+1)=2 * (den * 2 ^ E):=by rw [Nat.pow_succ,<-Nat.mul_assoc,Nat.mul_comm]
  obtain ⟨s1,s2⟩:=scale_step (P0:=num) (Q0:=den) (E:=E+1) (e:=(E:Int) - 1074+1) HD0.out (by omega) (by rw [e2];have:=NA.out;omega)
  have hS1:=HSC.out ((E:Int) - 1074+1) (by omega) (by omega) s1
  obtain ⟨m,hm⟩:∃ n,n=rheN (shNum num ((E:Int) - 1074+1)) (shDen den ((E:Int) - 1074+1)):=⟨_,rfl⟩
  rw [<-hm] at hS1 s2
  obtain ⟨m1,m2,m3,m4⟩:=near_two HD.out ST.out HN22.out NA.out s2 (by omega)
  have HS2:=Lib.hid hS1
  have M1:=Lib.hid m1
  have M3:=Lib.hid m3
  have M4:=Lib.hid m4
  have M2:=Lib.hid m2
  have u2:decide ((9007199254740992:Int)<=(n:Int))=true:=decide_eq_true (by omega)
  have hm5:m<=9007199254740992:=m2
  clear s1 hS1 hm s2 m1 m2 m3 m4 e2 hn2 hn4
  go_wp2_with fail
  refine (HS2.out w3 _ _ _ _ HN3.out HD3.out).mono ?_
  rintro e w4 ⟨rfl,hb⟩
  have B4:=Lib.hid (B3.out.trans (hb.mono B3.out.size))
  clear hb HN3 HD3 B3
  by_cases hm6:m=9007199254740992
  ·have hr:=M4.out hm6
   have v2:((m:Int)==9007199254740992)=true:=by rw [beq_iff_eq];omega
   have v3:decide ((m:Int)=9007199254740992)=true:=decide_eq_true (by omega)
   by_cases hbig:2044<=E
   ·rw [if_pos (by omega)] at hr
    have HR:=Lib.hid hr
    have x1:decide ((971:Int)<(E:Int) - 1074+1+1)=true:=decide_eq_true (by omega)
    clear hr hm6 hm5
    go_wp2
    go_ret2
    exact ⟨9218868437227405312,rfl,HR.out,B4.out⟩
   ·rw [if_neg (by omega)] at hr
    have HR:=Lib.hid hr
    have x1:decide ((971:Int)<(E:Int) - 1074+1+1)=false:=decide_eq_false (by omega)
    clear hr hm6 hm5
    go_wp2
    go_ret2
    exact ⟨(E+2) * 4503599627370496+4503599627370496,tup_bits (by omega),HR.out,B4.out⟩
  ·have hm7:m<9007199254740992:=by omega
   have hr:=M3.out hm7
   have v2:((m:Int)==9007199254740992)=false:=by rw [beq_eq_false_iff_ne];omega
   have v3:decide ((m:Int)=9007199254740992)=false:=decide_eq_false (by omega)
   by_cases hbig:2045<=E
   ·rw [if_pos (by have:=M1.out;omega)] at hr
    have HR:=Lib.hid hr
    have x1:decide ((971:Int)<(E:Int) - 1074+1)=true:=decide_eq_true (by omega)
    clear hr hm6 hm5 hm7
    go_wp2
    go_ret2
    exact ⟨9218868437227405312,rfl,HR.out,B4.out⟩
   ·rw [if_neg (by omega)] at hr
    have HR:=Lib.hid hr
    have x1:decide ((971:Int)<(E:Int) - 1074+1)=false:=decide_eq_false (by omega)
    have x2:decide ((m:Int)<4503599627370496)=false:=decide_eq_false (by have:=M1.out;omega)
    clear hr hm6 hm5 hm7
    go_wp2
    go_ret2
    exact ⟨_,tup_bits (fin_bits ((E:Int) - 1074+1) (E+1) m (by omega) M1.out M2.out (by omega)),HR.out,B4.out⟩
theorem near_any (h:Rd .u32 w ad ca xs) (hl:xs.length<=1000) (h1:-1000<=exp) (h2:exp<=1000) (hb:blen (bval xs)<=1280) :
 Calls Tryz.prog 127 #[.slice ad xs.length ca,.int .i64 exp] w (NearPost (bval xs * tenUp exp) (tenDn exp) w):=by
 by_cases hx:bval xs=0
 ·exact near_zero ad ca xs exp w h hl h1 h2 hx
 ·exact near_main ad ca xs exp w h hl h1 h2 hx hb
end Go.Proofs.YtldhmfkojaekfaaGreatDoor
namespace Go.Proofs.YtldhmfkojaekfaaGreatDoor
open Go.RowKit Gx
set_option maxRecDepth 100000
theorem and_mask (x n:Nat) (hx:x<18446744073709551616) (m:Nat) (hm:m+1=2 ^ n) (hm2:m<18446744073709551616):bits BinOp.and IntKind.u64 (x:Int) (m:Int)=((x % 2 ^ n:Nat):Int):=by
 rw [bits_and_u64_nat x m hx hm2,show m=2 ^ n - 1 by omega,Nat.and_two_pow_sub_one_eq_mod]
theorem or_hidden (f:Nat) (h:f<4503599627370496):bits BinOp.or IntKind.u64 (f:Int) 4503599627370496=((f+4503599627370496:Nat):Int):=by
 have h52:(2:Nat) ^ 52=4503599627370496:=by decide
 have h2:=bits_or_u64_nat f 4503599627370496 (by omega) (by omega)
 have h3:=Nat.shiftLeft_add_eq_or_of_lt (b:=f) (i:=52) (by rw [h52];exact h) 1
 rw [Nat.shiftLeft_eq,Nat.one_mul,h52,Nat.or_comm] at h3
 rw [<-h3,Nat.add_comm] at h2
 exact h2
def PartsPostFl (b:Nat) (w:World) (e:Ending) (w':World):Prop :=
 ∃ (m:Nat) (x k:Int),e=.returned (.tuple #[.int .u64 m,.int .i64 x,.int .i64 k]) /\
  ((b / 4503599627370496 % 2048=2047/\m=0/\((b % 4503599627370496=0/\k=1)\/(b % 4503599627370496≠0/\k=2))) \/
   (b / 4503599627370496 % 2048≠2047/\k=0/\m<9007199254740992/\∃ E:Nat,x=(E:Int) - 1074/\E<=2045/\(E=0\/4503599627370496<=m)/\b % 9223372036854775808=E * 4503599627370496+m))/\w=w'
theorem tup3 {a b c d:Int} (h:a=b):Ending.returned (Value.tuple #[Value.int .u64 a,Value.int .i64 c,Value.int .i64 d])=Ending.returned (Value.tuple #[Value.int .u64 b,Value.int .i64 c,Value.int .i64 d]):=by rw [h]
theorem fin_parts (B ee f:Nat) (h:B=ee * 4503599627370496+f) (h0:ee≠0):B=(ee - 1) * 4503599627370496+(f+4503599627370496):=by
 obtain ⟨k,rfl⟩:∃ k,ee=k+1:=⟨ee - 1,by omega⟩
 rw [h,Nat.add_sub_cancel,Nat.add_mul,Nat.one_mul,Nat.add_comm f,Nat.add_assoc]
theorem shr52 (b:Nat):(b:Int) / 4503599627370496=((b / 4503599627370496:Nat):Int):=by omega
set_option maxHeartbeats 1000000 in
theorem parts_anyFl (b:Nat) (w:World) (hb:b<18446744073709551616) :
 Calls Tryz.prog 114 #[.int .u64 b] w (PartsPostFl b w):=by
 have e1:=shr52 b
 have e2:=and_mask (b / 4503599627370496) 11 (by omega) 2047 (by decide) (by omega)
 have e3:=and_mask b 52 hb 4503599627370495 (by decide) (by omega)
 have p11:(2:Nat) ^ 11=2048:=by decide
 have p52:(2:Nat) ^ 52=4503599627370496:=by decide
 rw [p11,<-e1] at e2
 rw [p52] at e3
 obtain ⟨ee,hee⟩:∃ x,x=b / 4503599627370496 % 2048:=⟨_,rfl⟩
 obtain ⟨f,hf⟩:∃ x,x=b % 4503599627370496:=⟨_,rfl⟩
 rw [<-hee] at e2
 rw [<-hf] at e3
 have hor:=or_hidden f (by omega)
 have hfin:Hid (b % 9223372036854775808=ee * 4503599627370496+f):=by show _=_;omega
 have HEE:=Lib.hid hee
 have HF:=Lib.hid hf
 have hee2:ee<2048:=by omega
 have hf2:f<4503599627370496:=by omega
 have e2':bits BinOp.and IntKind.u64 ((b:Int) / 4503599627370496) 2047=(ee:Int):=e2
 have e3':bits BinOp.and IntKind.u64 (b:Int) 4503599627370495=(f:Int):=e3
 have HF2:=Lib.hid hf2
 clear e1 e2 e3 p11 p52 hee hf hb hf2
 by_cases h1:ee=2047
 ·subst h1
  by_cases h2:f=0
  ·subst h2
   go_enter Tryz.func114,Tryz.ntmps114
   go_wp2
   go_ret3
   exact ⟨0,0,1,rfl,.inl ⟨HEE.out.symm,rfl,.inl ⟨HF.out.symm,rfl⟩⟩,rfl⟩
  ·obtain ⟨n1,n2,n3⟩:=kcn h2
   have HH:=Lib.hid h2
   clear h2
   go_enter Tryz.func114,Tryz.ntmps114
   go_wp2
   go_ret3
   exact ⟨0,0,2,rfl,.inl ⟨HEE.out.symm,rfl,.inr ⟨by rw [<-HF.out];exact HH.out,rfl⟩⟩,rfl⟩
 ·have t1:((ee:Int)==2047)=false:=by rw [beq_eq_false_iff_ne];omega
  have t2:decide ((ee:Int)=2047)=false:=decide_eq_false (by omega)
  have HH:=Lib.hid h1
  clear h1
  by_cases h2:ee=0
  ·subst h2
   go_enter Tryz.func114,Tryz.ntmps114
   go_wp2
   go_ret3
   refine ⟨f,-1074,0,rfl,.inr ⟨by rw [<-HEE.out];decide,rfl,by have:=HF2.out;omega,0,by omega,by omega,.inl rfl,hfin.out⟩,rfl⟩
  ·obtain ⟨n1,n2,n3⟩:=kcn h2
   have H2:=Lib.hid h2
   clear h2
   go_enter Tryz.func114,Tryz.ntmps114
   go_wp2
   go_ret3
   refine ⟨f+4503599627370496,(ee:Int) - 1075,0,tup3 (a:=(f:Int)+4503599627370496) (by omega),.inr ⟨by rw [<-HEE.out];exact HH.out,rfl,by have:=HF2.out;omega,ee - 1,by have:=H2.out;omega,by have:=HH.out;omega,.inr (by omega),fin_parts _ _ _ hfin.out H2.out⟩,rfl⟩
def TrueP (w:World) (e:Ending) (w':World):Prop:=e=.returned (.bool true)/\w=w'
set_option maxRecDepth 100000
def TruePost2 (w:World) (e:Ending) (w':World):Prop:=e=.returned (.bool true)/\Below w.heap.size w w'
theorem ten_shift (e:Int) (k:Nat):tenUp e * tenDn (e - (k:Int))=10 ^ k * tenUp (e - (k:Int)) * tenDn e:=by
 unfold tenUp tenDn
 rw [<-Nat.pow_add,<-Nat.pow_add,<-Nat.pow_add]
 congr 1
 omega
theorem y75_mul (N C M D:Nat) (h:N * C=M * D):Y75 N * C=Y75 M * D:=by
 unfold Y75
 obtain ⟨K,hK⟩:∃ K:Nat,K=1075:=⟨_,rfl⟩
 rw [<-hK]
 generalize 2 ^ K=u
 rw [Nat.mul_right_comm,h,Nat.mul_right_comm]
theorem cmp_two' (ad bd:Option Addr) (ca cb:Nat) (xs ys:List Int) (w:World) (N M:Nat) (h:Rd .u32 w ad ca xs) (g:Rd .u32 w bd cb ys) (hx:bval xs=N) (hy:bval ys=M) (lx:xs.length<=1000000) (ly:ys.length<=1000000) :
 Calls Tryz.prog 164 #[.slice ad xs.length ca,.slice bd ys.length cb] w (CmpPostFl N M w):=by
 subst hx;subst hy;exact bigCmp_any ad bd ca cb xs ys w h g (by omega) (by omega)
theorem near_two' (ad:Option Addr) (ca:Nat) (xs:List Int) (w:World) (N:Nat) (exp:Int) (h:Rd .u32 w ad ca xs) (hx:bval xs=N) (hl:xs.length<=1000) (h1:-1000<=exp) (h2:exp<=1000) (hb:blen N<=1280) :
 Calls Tryz.prog 127 #[.slice ad xs.length ca,.int .i64 exp] w (NearPost (N * tenUp exp) (tenDn exp) w):=by
 subst hx;exact near_any ad ca xs exp w h hl h1 h2 hb
end Go.Proofs.YtldhmfkojaekfaaGreatDoor
namespace Go.Proofs.YtldhmfkojaekfaaGreatDoor
set_option maxRecDepth 100000
def dist (a b:Nat):Nat:=(a - b)+(b - a)
end Go.Proofs.YtldhmfkojaekfaaGreatDoor
namespace Go.Proofs.YtldhmfkojaekfaaGreatDoor
open Go.RowKit Gx
set_option maxRecDepth 100000
def X74 (n:Nat):Nat:=n * 2 ^ 1074
theorem x74_of (N K:Nat) (h:K=1074):X74 N=N * 2 ^ K:=by rw [h];rfl
def PairPost (K:Nat) (P:Nat->Nat->Prop) (w:World) (e:Ending) (w':World):Prop :=
 ∃ no nc xs dd dc ys,e=.returned (.tuple #[.slice no (xs:List Int).length nc,.slice dd (ys:List Int).length dc])/\Rd .u32 w' no nc xs/\Rd .u32 w' dd dc ys/\xs.length<=K/\ys.length<=K/\P (bval xs) (bval ys)/\Below w.heap.size w w'
theorem pair_rd (w:World) (a b:Int) (ha:(Lit.int .u32 a).wf=true) (hb:(Lit.int .u32 b).wf=true):Rd .u32 (w.alloc (.cells #[.int .u32 a,.int .u32 b] 145)) (some ⟨w.heap.size,0,none⟩) 2 [a,b]:=by
 refine ⟨by simp,by decide,fun x hx=>?_,(fun h=>by cases h),fun ad had _=>?_⟩
 ·simp at hx
  rcases hx with rfl|rfl
  ·exact ha
  ·exact hb
 ·obtain rfl:=Option.some.inj had
  refine ⟨rfl,by simp,fun j hj=>?_⟩
  rcases (show j=0\/j=1 by simp at hj;omega) with rfl|rfl
  ·exact World.cell?_alloc_mark w _ _ (0,0) 0
  ·exact World.cell?_alloc_mark w _ _ (0,0) 1
theorem wf32 (n:Nat) (h:n<4294967296):(Lit.int .u32 (n:Int)).wf=true:=by
 simp [Lit.wf,IntKind.min,IntKind.max,IntKind.signed,IntKind.bits];omega
theorem fits_two (m:Nat) (h:m<9007199254740992):Fits m 2:=by
 have h1:(4294967296:Nat) ^ 2=18446744073709551616:=by decide
 unfold Fits;rw [h1];omega
theorem halves (m:Nat) (h:m<18446744073709551616):bval [((m % 4294967296:Nat):Int),((m / 4294967296:Nat):Int)]=m:=by
 simp [bval];omega
def IsFrac (b A B:Nat):Prop:=X74 A=fval (b % 9223372036854775808) * B/\0<B
theorem frac_up (b m E:Nat) (h:b % 9223372036854775808=E * 4503599627370496+m) (hm:m<9007199254740992) (h2:E=0\/4503599627370496<=m) (n:Nat) (hE:E=n+1074):IsFrac b (m * 2 ^ n) 1:=by
 obtain ⟨K,hK⟩:∃ K:Nat,K=1074:=⟨_,rfl⟩
 refine ⟨?_,Nat.one_pos⟩
 rw [h,fval_of m E hm h2,x74_of _ K hK,hE,<-hK,Nat.pow_add,Nat.mul_assoc,Nat.mul_one]
theorem frac_dn (b m E:Nat) (h:b % 9223372036854775808=E * 4503599627370496+m) (hm:m<9007199254740992) (h2:E=0\/4503599627370496<=m) (n:Nat) (hE:E+n=1074):IsFrac b m (2 ^ n):=by
 obtain ⟨K,hK⟩:∃ K:Nat,K=1074:=⟨_,rfl⟩
 refine ⟨?_,Nat.two_pow_pos n⟩
 rw [h,fval_of m E hm h2,x74_of _ K hK,Nat.mul_assoc,<-Nat.pow_add,hE,hK]
theorem shift_left' (ad:Option Addr) (ca:Nat) (xs:List Int) (n N:Nat) (w:World) (h:Rd .u32 w ad ca xs) (hx:bval xs=N) (hl:xs.length<=262144) (hn:n<=4000) :
 Calls Tryz.prog 134 #[.slice ad xs.length ca,.int .i64 n] w (SubPost (N * 2 ^ n) w):=by
 subst hx;exact bigShift_left ad ca xs n w h hl hn
def ApartIs (N D A B X Y:Nat):Prop:=X=dist (N * B) (A * D)/\Y=D * B
set_option maxRecDepth 100000
def Bel (N D:Nat) (p:Int):Prop:=N * tenDn p<D * tenUp p
instance (N D:Nat) (p:Int):Decidable (Bel N D p):=inferInstanceAs (Decidable (_<_))
theorem ten_mono {p q:Int} (h:p<=q):tenUp p<=tenUp q/\tenDn q<=tenDn p:=by
 unfold tenUp tenDn
 exact ⟨Nat.pow_le_pow_right (by omega) (by omega),Nat.pow_le_pow_right (by omega) (by omega)⟩
theorem Bel.mono {N D:Nat} {p q:Int} (h:Bel N D p) (hpq:p<=q):Bel N D q:=by
 obtain ⟨h1,h2⟩:=ten_mono hpq
 exact Nat.lt_of_le_of_lt (Nat.mul_le_mul_left N h2) (Nat.lt_of_lt_of_le h (Nat.mul_le_mul_left D h1))
theorem cmp_dec (a b:Nat):decide (cmpOf a b<0)=decide (a<b):=by
 unfold cmpOf
 by_cases h:a<b
 ·rw [if_pos h];simp [h]
 ·rw [if_neg h]
  split<;>simp [h]
def BoolPost (b:Bool) (w:World) (e:Ending) (w':World):Prop:=e=.returned (.bool b)/\Below w.heap.size w w'
set_option maxHeartbeats 2000000 in
theorem below_any (ad bd:Option Addr) (ca cb:Nat) (xs ys:List Int) (N D:Nat) (p:Int) (w:World) (h:Rd .u32 w ad ca xs) (g:Rd .u32 w bd cb ys) (hx:bval xs=N) (hy:bval ys=D) (lx:xs.length<=60) (ly:ys.length<=60) (h1:-500<=p) (h2:p<=500) :
 Calls Tryz.prog 160 #[.slice ad xs.length ca,.slice bd ys.length cb,.int .i64 p] w (BoolPost (decide (Bel N D p)) w):=by
 have fN:Fits N 60:=by rw [<-hx];exact (Fits.words (words_of_rd h)).mono lx
 have fD:Fits D 60:=by rw [<-hy];exact (Fits.words (words_of_rd g)).mono ly
 have fu:Fits (tenUp p) 63:=ten_fitsK _ 63 (by omega)
 have fd:Fits (tenDn p) 63:=ten_fitsK _ 63 (by omega)
 have lu:=fu.len
 have ld:=fd.len
 have l1:=(fN.mul fd).len
 have l2:=(fD.mul fu).len
 have HR:=fun w0 ad (hr:Rd .u32 w0 ad 1 [1])=>ratio_any ad 1 1 p w0 hr (by decide) (by omega) (by omega)
 have HM1:=fun w0 (hb:Below w.heap.size w w0) po pc (hr:Rd .u32 w0 po pc (canon (tenDn p)))=>mul_two ad po ca pc xs (canon (tenDn p)) w0 N (tenDn p) (h.keep hb) hr hx (bval_canon _) (by omega) (by omega)
 have HM2:=fun w0 (hb:Below w.heap.size w w0) po pc (hr:Rd .u32 w0 po pc (canon (tenUp p)))=>mul_two bd po cb pc ys (canon (tenUp p)) w0 D (tenUp p) (g.keep hb) hr hy (bval_canon _) (by omega) (by omega)
 have HC:=fun w0 po pc qo qc (hr:Rd .u32 w0 po pc (canon (N * tenDn p))) (hq:Rd .u32 w0 qo qc (canon (D * tenUp p)))=>cmp_two' po qo pc qc (canon (N * tenDn p)) (canon (D * tenUp p)) w0 (N * tenDn p) (D * tenUp p) hr hq (bval_canon _) (bval_canon _) (by omega) (by omega)
 have e1:1 * tenUp p=tenUp p:=Nat.one_mul _
 rw [e1] at HR
 have hres:decide (cmpOf (N * tenDn p) (D * tenUp p)<0)=decide (Bel N D p):=cmp_dec _ _
 unfold TwoPost at HR
 unfold WordsPost at HM1 HM2
 unfold CmpPostFl at HC
 generalize tenUp p=U at *
 generalize tenDn p=V at *
 generalize decide (Bel N D p)=res at *
 obtain ⟨n0,hn0⟩:∃ n,n=xs.length:=⟨_,rfl⟩
 obtain ⟨n1,hn1⟩:∃ n,n=ys.length:=⟨_,rfl⟩
 rw [<-hn0] at HM1 ⊢
 rw [<-hn1] at HM2 ⊢
 replace HR:=Lib.hid HR
 replace HM1:=Lib.hid HM1
 replace HM2:=Lib.hid HM2
 replace HC:=Lib.hid HC
 have HRES:=Lib.hid hres
 clear h g hx hy lx ly fN fD fu fd lu ld l1 l2 hn0 hn1 hres e1 h1 h2
 go_enter Tryz.func160,Tryz.ntmps160
 go_wp2_with fail
 have ho:=one_rd w
 have hc1:canon 1=[1]:=rfl
 rw [hc1] at ho
 have b0:=(Below.refl w.heap.size w).alloc (Nat.le_refl _) (.cells #[.int .u32 1] 145)
 refine (HR.out _ _ ho).mono ?_
 rintro e0 w1 ⟨no,nc,dd,dc,rfl,hr,hr2,hb⟩
 have U1:=Lib.hid hr
 have V1:=Lib.hid hr2
 have B1:=Lib.hid (b0.trans (hb.mono b0.size))
 clear hr hr2 hb b0 ho hc1
 go_wp2_with fail
 refine (HM1.out w1 B1.out _ _ V1.out).mono ?_
 rintro e0 w2 ⟨mo,mc,rfl,hr,hb⟩
 have M2:=Lib.hid hr
 have U2:=Lib.hid (U1.out.keep hb)
 have B2:=Lib.hid (B1.out.trans (hb.mono B1.out.size))
 clear hr hb B1 U1 V1
 go_wp2_with fail
 refine (HM2.out w2 B2.out _ _ U2.out).mono ?_
 rintro e0 w3 ⟨po,pc,rfl,hr,hb⟩
 have P3:=Lib.hid hr
 have M3:=Lib.hid (M2.out.keep hb)
 have B3:=Lib.hid (B2.out.trans (hb.mono B2.out.size))
 clear hr hb B2 U2 M2
 go_wp2_with fail
 refine (HC.out w3 _ _ _ _ M3.out P3.out).mono ?_
 rintro e0 w4 ⟨rfl,hb⟩
 have B4:=Lib.hid (B3.out.trans (hb.mono B3.out.size))
 clear hb B3 M3 P3
 have hres:=HRES.out
 generalize cmpOf (N * V) (D * U)=cc at *
 subst hres
 clear HRES
 go_wp2
 go_ret
 exact ⟨rfl,B4.out⟩
theorem tdiv_bound (a:Int) (h1:-3300<=a) (h2:a<=3300):-400<=a.tdiv 10/\a.tdiv 10<=400:=by
 rcases Int.le_total 0 a with h|h
 ·rw [Int.tdiv_eq_ediv_of_nonneg h];omega
 ·obtain ⟨b,rfl⟩:∃ b,a=-b:=⟨-a,by omega⟩
  rw [Int.neg_tdiv,Int.tdiv_eq_ediv_of_nonneg (by omega)];omega
def MagPost (N D:Nat) (w:World) (e:Ending) (w':World):Prop :=
 ∃ p:Int,e=.returned (.int .i64 p)/\-400<=p/\p<=400/\Bel N D p/\¬ Bel N D (p - 1)/\Below w.heap.size w w'
set_option maxHeartbeats 2000000 in
theorem magnitude_any (ad bd:Option Addr) (ca cb:Nat) (xs ys:List Int) (N D:Nat) (w:World) (h:Rd .u32 w ad ca xs) (g:Rd .u32 w bd cb ys) (hx:bval xs=N) (hy:bval ys=D) (lx:xs.length<=60) (ly:ys.length<=60)
 (bN:blen N<=1100) (bD:blen D<=1100) (hi:Bel N D 400) (lo:¬ Bel N D (-400)) :
 Calls Tryz.prog 135 #[.slice ad xs.length ca,.slice bd ys.length cb] w (MagPost N D w):=by
 have HL1:=bigLen_any ad ca xs w h (by omega)
 have HL2:=bigLen_any bd cb ys w g (by omega)
 rw [hx] at HL1
 rw [hy] at HL2
 have HB:=fun w0 (hb:Below w.heap.size w w0) p (h1:-500<=p) (h2:p<=500)=>below_any ad bd ca cb xs ys N D p w0 (h.keep hb) (g.keep hb) hx hy lx ly h1 h2
 unfold LenPost at HL1 HL2
 unfold BoolPost at HB
 obtain ⟨n0,hn0⟩:∃ n,n=xs.length:=⟨_,rfl⟩
 obtain ⟨n1,hn1⟩:∃ n,n=ys.length:=⟨_,rfl⟩
 rw [<-hn0] at HL1 HB ⊢
 rw [<-hn1] at HL2 HB ⊢
 replace HL1:=Lib.hid HL1
 replace HL2:=Lib.hid HL2
 replace HB:=Lib.hid HB
 have HI:=Lib.hid hi
 have LO:=Lib.hid lo
 generalize blen N=bn at *
 generalize blen D=bd' at *
 clear h g hx hy lx ly hn0 hn1 hi lo
 go_enter Tryz.func135,Tryz.ntmps135
 go_wp2_with fail
 refine HL1.out.mono ?_
 rintro e0 w1 ⟨rfl,rfl⟩
 go_wp2_with fail
 refine HL2.out.mono ?_
 rintro e0 w1 ⟨rfl,rfl⟩
 go_wp2_with fail
 go_loopw [5] (fun pv wr=>∃ p:Int,pv=.int .i64 p/\-400<=p/\p<=400/\Below w.heap.size w wr) (fun pv _=>(400 - intOf pv).toNat)
 case atStart =>
  have:=tdiv_bound (((bn:Int) - (bd':Int)) * 3) (by omega) (by omega)
  exact ⟨_,rfl,this.1,this.2,Below.refl _ _⟩
 case round =>
  obtain ⟨p,rfl,h1,h2,hb⟩:=hrel
  have hB:=Lib.hid (HB.out wr hb p (by omega) (by omega))
  by_cases hp:Bel N D p
  ·rw [decide_eq_true hp] at hB
   have HP:=Lib.hid hp
   clear hp
   go_wp2_with fail
   refine hB.out.mono ?_
   rintro e0 w2 ⟨rfl,hb2⟩
   have B2:=Lib.hid (hb.trans (hb2.mono hb.size))
   obtain ⟨wo,rfl⟩:∃ wo:World,wo=wr:=⟨_,rfl⟩
   clear hb hb2 hB
   go_wp2_with fail
   go_loopw [5] (fun pv wr=>∃ p:Int,pv=.int .i64 p/\-400<=p/\p<=400/\Hid (Bel N D p)/\Below w.heap.size w wr) (fun pv _=>(intOf pv+400).toNat)
   case atStart=>exact ⟨p,rfl,h1,h2,HP,B2.out⟩
   case round =>
    clear HP B2 h1 h2
    obtain ⟨q,rfl,h1,h2,hq,hb⟩:=hrel
    have hB:=Lib.hid (HB.out wr hb (q - 1) (by omega) (by omega))
    by_cases hp:Bel N D (q - 1)
    ·have h3:-400<q - 1:=by
      apply Classical.byContradiction
      intro h
      exact LO.out (hp.mono (by omega))
     rw [decide_eq_true hp] at hB
     have HP:=Lib.hid hp
     clear hp
     go_wp2_with fail
     refine hB.out.mono ?_
     rintro e0 w2 ⟨rfl,hb2⟩
     have B2:=Lib.hid (hb.trans (hb2.mono hb.size))
     clear hb hb2 hB
     go_wp2_with fail
     go_roundw
     case rel=>exact ⟨q - 1,rfl,by omega,by omega,HP,B2.out⟩
     case measure=>simp [intOf];omega
    ·rw [decide_eq_false hp] at hB
     have HP:=Lib.hid hp
     clear hp
     go_wp2_with fail
     refine hB.out.mono ?_
     rintro e0 w2 ⟨rfl,hb2⟩
     have B2:=Lib.hid (hb.trans (hb2.mono hb.size))
     clear hb hb2 hB
     go_wp2
     go_ret
     exact ⟨q,rfl,h1,h2,hq.out,HP.out,B2.out⟩
  ·have h3:p<400:=by
    apply Classical.byContradiction
    intro h
    exact hp (HI.out.mono (by omega))
   rw [decide_eq_false hp] at hB
   clear hp
   go_wp2_with fail
   refine hB.out.mono ?_
   rintro e0 w2 ⟨rfl,hb2⟩
   have B2:=Lib.hid (hb.trans (hb2.mono hb.size))
   clear hb hb2 hB
   go_wp2_with fail
   go_roundw
   case rel=>exact ⟨p+1,rfl,by omega,by omega,B2.out⟩
   case measure=>simp [intOf];omega
end Go.Proofs.YtldhmfkojaekfaaGreatDoor
namespace Go.Proofs.YtldhmfkojaekfaaGreatDoor
def dcF:Nat->Nat->List Nat
 | 0,_=>[]
 | f+1,n=>if n=0 then [] else n % 10::dcF f (n / 10)
def dig (n:Nat):List Nat:=dcF n n
theorem dcF_fuel:∀ (f g n:Nat),n<=f->n<=g->dcF f n=dcF g n
 | 0,0,_,_,_=>rfl
 | 0,g+1,n,h,_=>by have:n=0:=by omega
                   subst this;simp [dcF]
 | f+1,0,n,_,h=>by have:n=0:=by omega
                   subst this;simp [dcF]
 | f+1,g+1,n,h1,h2=>by
   unfold dcF
   by_cases h:n=0
   ·simp [h]
   ·rw [if_neg h,if_neg h,dcF_fuel f g (n / 10) (by omega) (by omega)]
theorem dig_zero:dig 0=[]:=rfl
theorem dig_pos (n:Nat) (h:n≠0):dig n=n % 10::dig (n / 10):=by
 unfold dig
 obtain ⟨m,rfl⟩:∃ m,n=m+1:=⟨n - 1,by omega⟩
 conv=>lhs;unfold dcF
 rw [if_neg (by omega),dcF_fuel m ((m+1) / 10) _ (by omega) (Nat.le_refl _)]
theorem dig_lt:∀ (n:Nat),∀ d∈dig n,d<10:=by
 intro n
 induction n using Nat.strongRecOn with
 | ind n ih =>
   by_cases h:n=0
   ·subst h;intro d hd;simp [dig_zero] at hd
   ·rw [dig_pos n h]
    intro d hd
    rcases List.mem_cons.1 hd with rfl|hd
    ·omega
    ·exact ih _ (by omega) d hd
theorem dig_len_le (n k:Nat) (h:n<10 ^ k):(dig n).length<=k:=by
 induction k generalizing n with
 | zero=>simp at h;subst h;simp [dig_zero]
 | succ k ih =>
   by_cases h0:n=0
   ·subst h0;simp [dig_zero]
   ·rw [dig_pos n h0,List.length_cons]
    have:=ih (n / 10) (by rw [Nat.pow_succ] at h;omega)
    omega
theorem dig_len_lt (n:Nat):n<10 ^ (dig n).length:=by
 induction n using Nat.strongRecOn with
 | ind n ih =>
   by_cases h:n=0
   ·subst h;simp [dig_zero]
   ·rw [dig_pos n h,List.length_cons,Nat.pow_succ]
    have:=ih (n / 10) (by omega)
    omega
def byteOf (d:Nat):UInt8:=UInt8.ofNat (48+d)
theorem byteOf_nat (d:Nat) (h:d<10):(byteOf d).toNat=48+d:=by
 unfold byteOf
 rw [UInt8.toNat_ofNat']
 omega
def decText (n:Nat):List UInt8:=if n=0 then [48] else (dig n).reverse.map byteOf
def decVal (s:List UInt8):Nat:=s.foldl (fun a b=>a * 10+(b.toNat - 48)) 0
def isDigit (b:UInt8):Bool:=decide (48<=b.toNat) && decide (b.toNat<=57)
def decOk (s:List UInt8):Prop:=s≠[]/\(∀ b∈s,isDigit b=true)/\(s.head?=some 48->s.length=1)
theorem decVal_snoc (s:List UInt8) (b:UInt8):decVal (s++[b])=decVal s * 10+(b.toNat - 48):=by
 simp [decVal,List.foldl_append]
theorem decVal_digs:∀ (n:Nat),decVal ((dig n).reverse.map byteOf)=n:=by
 intro n
 induction n using Nat.strongRecOn with
 | ind n ih =>
   by_cases h:n=0
   ·subst h;rfl
   ·rw [dig_pos n h,List.reverse_cons,List.map_append,List.map_cons,List.map_nil,decVal_snoc,ih _ (by omega),byteOf_nat _ (by omega)]
    omega
theorem decVal_text (n:Nat):decVal (decText n)=n:=by
 unfold decText
 by_cases h:n=0
 ·subst h;rfl
 ·rw [if_neg h];exact decVal_digs n
theorem byteOf_digit (d:Nat) (h:d<10):isDigit (byteOf d)=true:=by
 unfold isDigit
 rw [byteOf_nat d h]
 simp;omega
theorem digs_head:∀ (n:Nat),n≠0->∃ d l,(dig n).reverse=d::l/\d≠0/\d<10:=by
 intro n
 induction n using Nat.strongRecOn with
 | ind n ih =>
   intro h
   rw [dig_pos n h]
   by_cases h2:n / 10=0
   ·rw [h2,dig_zero]
    exact ⟨n % 10,[],rfl,by omega,by omega⟩
   ·obtain ⟨d,l,e,hd⟩:=ih (n / 10) (by omega) h2
    exact ⟨d,l++[n % 10],by rw [List.reverse_cons,e];rfl,hd⟩
theorem decOk_text (n:Nat):decOk (decText n):=by
 unfold decText
 by_cases h:n=0
 ·subst h;exact ⟨by simp,by intro b hb;simp at hb;subst hb;decide,by simp⟩
 ·rw [if_neg h]
  obtain ⟨d,l,e,hd0,hd1⟩:=digs_head n h
  refine ⟨by rw [e];simp,fun b hb=>?_,fun hh=>?_⟩
  ·obtain ⟨x,hx,rfl⟩:=List.mem_map.1 hb
   exact byteOf_digit x (dig_lt n x (List.mem_reverse.1 hx))
  ·exfalso
   rw [e] at hh
   simp at hh
   have:=byteOf_nat d hd1
   rw [hh] at this
   have h48:(48:UInt8).toNat=48:=by decide
   omega
theorem decText_len (n k:Nat) (h:n<10 ^ k) (hk:1<=k):(decText n).length<=k:=by
 unfold decText
 by_cases h0:n=0
 ·simp [h0];exact hk
 ·rw [if_neg h0];simp;exact dig_len_le n k h
theorem digs_decVal:∀ (k:Nat) (s:List UInt8),s.length=k->s≠[]->(∀ b∈s,isDigit b=true)->s.head?≠some 48->decVal s≠0/\(dig (decVal s)).reverse.map byteOf=s:=by
 intro k
 induction k with
 | zero=>intro s hs hne;exact absurd (List.eq_nil_of_length_eq_zero hs) hne
 | succ k ih =>
   intro s hs hne hd hh
   have e:=List.dropLast_concat_getLast hne
   obtain ⟨p,b,rfl⟩:∃ p b,s=p++[b]:=⟨_,_,e.symm⟩
   have hb:=hd b (by simp)
   simp [isDigit] at hb
   have hback:byteOf (b.toNat - 48)=b:=by
    apply UInt8.toNat_inj.1
    rw [byteOf_nat _ (by omega)];omega
   by_cases hp:p=[]
   ·subst hp
    have hb0:b.toNat≠48:=by
     intro h0
     apply hh
     have:b=48:=UInt8.toNat_inj.1 h0
     rw [this];rfl
    have hv:decVal ([]++[b])=b.toNat - 48:=by simp [decVal]
    rw [hv]
    refine ⟨by omega,?_⟩
    rw [dig_pos _ (by omega),show (b.toNat - 48) / 10=0 by omega,dig_zero,show (b.toNat - 48) % 10=b.toNat - 48 by omega]
    simp [hback]
   ·obtain ⟨h1,h2⟩:=ih p (by simp at hs;exact hs) hp (fun x hx=>hd x (by simp [hx])) (by
     intro h0;apply hh
     cases p with
     | nil=>exact absurd rfl hp
     | cons x p=>simpa using h0)
    rw [decVal_snoc]
    refine ⟨by omega,?_⟩
    rw [dig_pos _ (by omega),show (decVal p * 10+(b.toNat - 48)) / 10=decVal p by omega,show (decVal p * 10+(b.toNat - 48)) % 10=b.toNat - 48 by omega,List.reverse_cons,List.map_append,h2]
    simp [hback]
theorem text_decVal (s:List UInt8) (h:decOk s):decText (decVal s)=s:=by
 obtain ⟨h1,h2,h3⟩:=h
 by_cases hh:s.head?=some 48
 ·have hl:=h3 hh
  obtain ⟨x,rfl⟩:=List.length_eq_one_iff.1 hl
  simp at hh
  subst hh
  rfl
 ·obtain ⟨h4,h5⟩:=digs_decVal s.length s rfl h1 h2 hh
  unfold decText
  rw [if_neg h4,h5]
theorem text_small (n:Nat) (h:n<10):decText n=[byteOf n]:=by
 unfold decText
 by_cases h0:n=0
 ·subst h0;rfl
 ·rw [if_neg h0,dig_pos n h0,show n / 10=0 by omega,dig_zero,show n % 10=n by omega];rfl
theorem text_big (n:Nat) (h:10<=n):decText n=decText (n / 10)++[byteOf (n % 10)]:=by
 unfold decText
 rw [if_neg (by omega),if_neg (by omega),dig_pos n (by omega)]
 simp
theorem text_pos (n:Nat):1<=(decText n).length:=by
 have:=(decOk_text n).1
 cases h:decText n with
 | nil=>exact absurd h this
 | cons=>simp
end Go.Proofs.YtldhmfkojaekfaaGreatDoor
