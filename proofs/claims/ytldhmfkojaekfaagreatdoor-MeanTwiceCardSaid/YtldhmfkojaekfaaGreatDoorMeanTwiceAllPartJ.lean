/-
  Lemmas for the statement: plain laws, and what functions answer; the conditions stand in each.
-/
import Derived.Test.YtldhmfkojaekfaaGreatDoorMeanTwiceAllPartI
set_option linter.unusedVariables false
set_option linter.unusedSimpArgs false
namespace Go.Proofs.YtldhmfkojaekfaaGreatDoor
open Go.RowKit Gx
set_option maxRecDepth 100000
theorem divMod_two (ad bd:Option Addr) (ca cb:Nat) (xs ys:List Int) (w:World) (N M:Nat) (h:Rd .u32 w ad ca xs) (g:Rd .u32 w bd cb ys) (hx:bval xs=N) (hy:bval ys=M) (hl:xs.length<=1000000) (hl2:ys.length<=1000000) (h0:M≠0) :
 Calls Tryz.prog 162 #[.slice ad xs.length ca,.slice bd ys.length cb] w (DivModPost (N / M) (N % M) w):=by
 subst hx;subst hy;exact divMod_any ad bd ca cb xs ys w h g hl hl2 h0
theorem fits_64 (c:Nat) (h:c<18446744073709551616):Fits c 2:=by
 have h1:(4294967296:Nat) ^ 2=18446744073709551616:=by decide
 unfold Fits;rw [h1];exact h
theorem text_canon (ad:Option Addr) (ca c:Nat) (w:World) (h:Rd .u32 w ad ca (canon c)) (hl:(canon c).length<=1048576) :
 Calls Tryz.prog 166 #[.slice ad (canon c).length ca] w (TextPost (decText c) w):=by
 by_cases h0:c=0
 ·subst h0
  have h1:canon 0=[]:=rfl
  rw [h1] at h ⊢
  exact bigText_nil ad ca w h
 ·have h1:=bigText_pos ad ca (canon c) w h hl (by rw [bval_canon];exact h0)
  rw [bval_canon] at h1
  exact h1
theorem dec_len (c:Nat) (h:c<=1000000000000000000):(decText c).length<=30 :=
 decText_len c 30 (Nat.lt_of_le_of_lt h (by decide)) (by decide)
theorem trimRight_len (l:List UInt8) (b:UInt8):(Lib.trimRightB l b).length<=l.length:=by
 unfold Lib.trimRightB
 rw [List.length_reverse]
 have:=(List.dropWhile_sublist (l:=l.reverse) (p:=(·==b))).length_le
 rw [List.length_reverse] at this
 exact this
theorem trim_string (l:List UInt8) (w:World) (hl:l.length<=1000) :
 Calls Tryz.prog 167 #[.string ⟨l.toArray⟩,.string ⟨#[48]⟩] w fun e w'=>e=.returned (.string ⟨(Lib.trimRightB l 48).toArray⟩)/\w'=w:=by
 have h:=Tryz.strings_TrimRight_one ⟨l.toArray⟩ 48 (by decide) w (by show l.toArray.size<=_;rw [List.size_toArray];omega)
 exact h
theorem canon_len_zero (n:Nat):(n=0->(canon n).length=0)/\(n≠0->0<(canon n).length):=by
 refine ⟨fun h=>by subst h;rfl,fun h=>?_⟩
 rw [canon_pos n h];simp
set_option maxRecDepth 100000
theorem trim_two (ad:Option Addr) (cap:Nat) (xs:List Int) (N:Nat) (w:World) (h:Rd .u32 w ad cap xs) (hx:bval xs=N) (hl:xs.length<=1073741824) :
 Calls Tryz.prog 149 #[.slice ad xs.length cap] w (WordsPost N w):=by
 subst hx;exact bigTrim_any ad cap xs w h hl
set_option maxHeartbeats 1000000 in
theorem nat_any (m:Nat) (w:World) (hm:m<18446744073709551616) :
 Calls Tryz.prog 133 #[.int .u64 m] w (WordsPost m w):=by
 have hx:=halves m hm
 have hp:=pair_rd w ((m % 4294967296:Nat):Int) ((m / 4294967296:Nat):Int) (wf32 _ (by omega)) (wf32 _ (by omega))
 have b1:=(Below.refl w.heap.size w).alloc (Nat.le_refl _) (.cells #[.int .u32 ((m % 4294967296:Nat):Int),.int .u32 ((m / 4294967296:Nat):Int)] 145)
 have HT:=Lib.hid (trim_two _ _ _ m _ hp hx (by show 2<=_;omega))
 have B1:=Lib.hid b1
 clear hx hp b1
 go_enter Tryz.func133,Tryz.ntmps133
 go_wp2_with fail
 refine HT.out.mono ?_
 rintro e0 w1 ⟨no,nc,rfl,hr,hb⟩
 have R1:=Lib.hid hr
 have B2:=Lib.hid (B1.out.trans (hb.mono B1.out.size))
 clear hr hb B1
 go_wp2
 go_ret
 exact ⟨_,_,rfl,R1.out,B2.out⟩
def OddPost (n:Nat) (w:World) (e:Ending) (w':World):Prop:=∃ b,(b=true->n % 2=1)/\(b=false->n % 2≠1)/\e=.returned (.bool b)/\w=w'
theorem and_word (n:Nat) (h:n<4294967296):bits BinOp.and IntKind.u32 (n:Int) 1=((n % 2:Nat):Int):=by
 have hx:n &&& 1<2 ^ 32:=Nat.and_lt_two_pow _ (by omega)
 have h1:(BitVec.ofInt 32 (n:Int)).toNat=n:=by
  rw [BitVec.ofInt_natCast,BitVec.toNat_ofNat];exact Nat.mod_eq_of_lt (by omega)
 have h2:(BitVec.ofInt 32 ((1:Nat):Int)).toNat=1:=by
  rw [BitVec.ofInt_natCast,BitVec.toNat_ofNat]
 show IntKind.u32.wrap ((BitVec.ofInt 32 (n:Int) &&& BitVec.ofInt 32 ((1:Nat):Int)).toNat:Int)=_
 rw [BitVec.toNat_and,h1,h2,IntKind.wrap_u32,<-Nat.and_one_is_mod]
 omega
theorem odd_word (x:Int) (h0:0<=x) (h1:x<4294967296):(bits BinOp.and IntKind.u32 x 1==1)=decide (x.toNat % 2=1):=by
 obtain ⟨n,rfl⟩:=Int.eq_ofNat_of_zero_le h0
 rw [and_word n (by omega),Bool.eq_iff_iff,beq_iff_eq,decide_eq_true_eq]
 omega
set_option maxHeartbeats 1000000 in
theorem odd_any (ad:Option Addr) (ca:Nat) (xs:List Int) (w:World) (h:Rd .u32 w ad ca xs) (hl:xs.length<=1048576) :
 Calls Tryz.prog 165 #[.slice ad xs.length ca] w (OddPost (bval xs) w):=by
 by_cases h0:xs.length=0
 ·have t0:decide ((0:Int)<(xs.length:Int))=false:=decide_eq_false (by omega)
  obtain rfl:xs=[]:=List.eq_nil_of_length_eq_zero h0
  have hq:Hid (bval []=0):=rfl
  generalize bval []=q at *
  generalize ([]:List Int).length=n at *
  subst h0
  clear h hl
  go_enter Tryz.func165,Tryz.ntmps165
  go_wp2
  go_ret
  exact ⟨_,fun h=>by simp at h,fun _=>by rw [hq.out];decide,rfl,rfl⟩
 ·obtain ⟨b,off,rfl,hb,hc⟩:=h.addr (by omega)
  have c0:=hc 0 (by omega)
  rw [Nat.add_zero] at c0
  have hw:=h.wf (xs.getD 0 0) (by
   cases xs with
   | nil=>simp at h0
   | cons a l=>simp)
  have hq:bval xs % 2=(xs.getD 0 0).toNat % 2:=by
   cases xs with
   | nil=>simp at h0
   | cons a l=>simp only [bval,List.getD_cons_zero];omega
  obtain ⟨n,hn⟩:∃ n,n=xs.length:=⟨_,rfl⟩
  rw [<-hn] at h0 hl ⊢
  obtain ⟨v,hv⟩:∃ v,v=xs.getD 0 0:=⟨_,rfl⟩
  rw [<-hv] at c0 hw hq
  generalize bval xs=q at *
  have hwr:0<=v/\v<4294967296:=by
   simp [Lit.wf,IntKind.min,IntKind.max,IntKind.signed,IntKind.bits] at hw
   omega
  have hov:=odd_word v hwr.1 hwr.2
  rw [<-hq] at hov
  have HOV:=Lib.hid hov
  have t0:decide ((0:Int)<(n:Int))=true:=decide_eq_true (by omega)
  have hpos:(0:Int)<(n:Int):=by omega
  have hpos2:0<n:=by omega
  clear h hc hn hv h0 hq hov hwr
  go_enter Tryz.func165,Tryz.ntmps165
  go_wp2
  go_ret
  exact ⟨_,fun h=>by rw [HOV.out] at h;simpa using h,fun h=>by rw [HOV.out] at h;simpa using h,rfl,rfl⟩
theorem odd_canon (ad:Option Addr) (ca:Nat) (c:Nat) (w:World) (h:Rd .u32 w ad ca (canon c)) (hl:(canon c).length<=1048576) :
 Calls Tryz.prog 165 #[.slice ad (canon c).length ca] w (OddPost c w):=by
 have:=odd_any ad ca (canon c) w h hl
 rwa [bval_canon] at this
def Hits (c:Nat) (k:Int) (b:Nat):Prop:=Rnd (Y75 (c * tenUp k)) (tenDn k) b
theorem Hits.uniq {c:Nat} {k:Int} {b d:Nat} (h:Hits c k b) (g:Hits c k d):b=d:=Rnd.uniq h g (tenDn_pos k) (tenDn_pos k) rfl
def lowOf (N D:Nat) (k:Int):Nat:=N * tenDn k / (D * tenUp k)
def highOf (N D:Nat) (k:Int):Nat:=if N * tenDn k % (D * tenUp k)=0 then lowOf N D k else lowOf N D k+1
def shortOf (c:Nat):List UInt8:=Lib.trimRightB (decText c) 48
open Classical in
def Pick (low high:Nat) (k:Int) (b:Nat) (cc:Int) (c:Nat):Prop:=c=if ¬ Hits low k b\/(Hits high k b/\(0<cc\/(cc=0/\low % 2=1))) then high else low
theorem pick_below {low high:Nat} {k:Int} {b:Nat} (h:Hits low k b):Pick low high k b (-1) low:=by
 unfold Pick;rw [if_neg];rintro (h1|⟨-,h1|⟨h1,-⟩⟩);exact h1 h;omega;omega
theorem pick_even {low high:Nat} {k:Int} {b:Nat} (h:Hits low k b) (ho:low % 2≠1):Pick low high k b 0 low:=by
 unfold Pick;rw [if_neg];rintro (h1|⟨-,h1|⟨-,h1⟩⟩);exact h1 h;omega;omega
theorem pick_odd {low high:Nat} {k:Int} {b:Nat} (h:Hits high k b) (ho:low % 2=1):Pick low high k b 0 high:=by
 unfold Pick;rw [if_pos];exact .inr ⟨h,.inr ⟨rfl,ho⟩⟩
theorem pick_above {low high:Nat} {k:Int} {b:Nat} (h:Hits high k b):Pick low high k b 1 high:=by
 unfold Pick;rw [if_pos];exact .inr ⟨h,.inl (by omega)⟩
theorem pick_low {low high:Nat} {k:Int} {b:Nat} {cc:Int} (h:Hits low k b) (h2:¬ Hits high k b):Pick low high k b cc low:=by
 unfold Pick;rw [if_neg];rintro (h1|⟨h1,-⟩);exact h1 h;exact h2 h1
theorem pick_high {low high:Nat} {k:Int} {b:Nat} {cc:Int} (h:¬ Hits low k b):Pick low high k b cc high:=by
 unfold Pick;rw [if_pos];exact .inl h
theorem Pick.uniq {low high:Nat} {k:Int} {b:Nat} {cc:Int} {c d:Nat} (h:Pick low high k b cc c) (g:Pick low high k b cc d):c=d:=by
 unfold Pick at h g;rw [h,g]
def halfOf (N D:Nat) (k:Int):Int:=cmpOf (N * tenDn k % (D * tenUp k)+N * tenDn k % (D * tenUp k)) (D * tenUp k)
def NearestPost (N D:Nat) (k:Int) (b:Nat) (w:World) (e:Ending) (w':World):Prop :=
 (∃ c,(c=lowOf N D k\/c=highOf N D k)/\Pick (lowOf N D k) (highOf N D k) k b (halfOf N D k) c/\Hits c k b/\e=.returned (.tuple #[.string ⟨(shortOf c).toArray⟩,.int .i64 (k+((decText c).length:Int) - ((shortOf c).length:Int)),.bool true])/\Below w.heap.size w w') \/
 (¬ Hits (lowOf N D k) k b/\¬ Hits (highOf N D k) k b/\e=.returned (.tuple #[.string ⟨#[]⟩,.int .i64 0,.bool false])/\Below w.heap.size w w')
theorem nearest_ok {N D:Nat} {k:Int} {b:Nat} {w w':World} (c:Nat) (h:c=lowOf N D k\/c=highOf N D k) (hp:Pick (lowOf N D k) (highOf N D k) k b (halfOf N D k) c) (g:Hits c k b) (hb:Below w.heap.size w w') :
 NearestPost N D k b w (.returned (.tuple #[.string ⟨(shortOf c).toArray⟩,.int .i64 (k+((decText c).length:Int) - ((shortOf c).length:Int)),.bool true])) w':=.inl ⟨c,h,hp,g,rfl,hb⟩
theorem cmp_range (a b:Nat):-1<=cmpOf a b/\cmpOf a b<=1:=by
 unfold cmpOf;split
 ·decide
 ·split<;>decide
set_option maxHeartbeats 4000000 in
theorem nearest_any (ad bd:Option Addr) (ca cb:Nat) (xs ys:List Int) (N D:Nat) (k:Int) (b:Nat) (w:World) (h:Rd .u32 w ad ca xs) (g:Rd .u32 w bd cb ys) (hx:bval xs=N) (hy:bval ys=D) (lx:xs.length<=60) (ly:ys.length<=60) (h1:-500<=k) (h2:k<=500)
 (hD:D≠0) (hlow:lowOf N D k<1000000000000000000) :
 Calls Tryz.prog 136 #[.slice ad xs.length ca,.slice bd ys.length cb,.int .i64 k,.int .u64 b] w (NearestPost N D k b w):=by
 have fN:Fits N 60:=by rw [<-hx];exact (Fits.words (words_of_rd h)).mono lx
 have fD:Fits D 60:=by rw [<-hy];exact (Fits.words (words_of_rd g)).mono ly
 have fu:Fits (tenUp k) 63:=ten_fitsK _ 63 (by omega)
 have fd:Fits (tenDn k) 63:=ten_fitsK _ 63 (by omega)
 have lu:=fu.len
 have ld:=fd.len
 have l1:=(fN.mul fd).len
 have l2:=(fD.mul fu).len
 have hQ:D * tenUp k≠0:=Nat.mul_ne_zero hD (Nat.pos_iff_ne_zero.1 (tenUp_pos k))
 have HR:=fun w0 ad (hr:Rd .u32 w0 ad 1 [1])=>ratio_any ad 1 1 k w0 hr (by decide) (by omega) (by omega)
 have e1:1 * tenUp k=tenUp k:=Nat.one_mul _
 rw [e1] at HR
 have HM1:=fun w0 (hb:Below w.heap.size w w0) po pc (hr:Rd .u32 w0 po pc (canon (tenDn k)))=>mul_two ad po ca pc xs (canon (tenDn k)) w0 N (tenDn k) (h.keep hb) hr hx (bval_canon _) (by omega) (by omega)
 have HM2:=fun w0 (hb:Below w.heap.size w w0) po pc (hr:Rd .u32 w0 po pc (canon (tenUp k)))=>mul_two bd po cb pc ys (canon (tenUp k)) w0 D (tenUp k) (g.keep hb) hr hy (bval_canon _) (by omega) (by omega)
 have HDM:=fun w0 po pc qo qc (hr:Rd .u32 w0 po pc (canon (N * tenDn k))) (hq:Rd .u32 w0 qo qc (canon (D * tenUp k)))=>divMod_two po qo pc qc (canon (N * tenDn k)) (canon (D * tenUp k)) w0 _ _ hr hq (bval_canon _) (bval_canon _) (by omega) (by omega) hQ
 have fr:Fits (N * tenDn k % (D * tenUp k)) 123:=Nat.lt_of_lt_of_le (Nat.mod_lt _ (Nat.pos_of_ne_zero hQ)) (Nat.le_of_lt (fD.mul fu))
 have lr:=fr.len
 have lrr:=(fr.add fr).len
 have hhigh:highOf N D k=if N * tenDn k % (D * tenUp k)=0 then lowOf N D k else lowOf N D k+1:=rfl
 have HNR:=fun (c:Nat) (hc:c<=1000000000000000000) w0 po pc (hr:Rd .u32 w0 po pc (canon c)) =>
  near_two' po pc (canon c) w0 c k hr (bval_canon _) (Nat.le_trans (fits_64 c (by omega)).len (by decide)) (by omega) (by omega) (Nat.le_trans (blen_of_fits _ _ (fits_64 c (by omega))) (by decide))
 have HTX:=fun (c:Nat) (hc:c<=1000000000000000000) w0 po pc (hr:Rd .u32 w0 po pc (canon c)) =>
  text_canon po pc c w0 hr (Nat.le_trans (fits_64 c (by omega)).len (by decide))
 have HOD:=fun (c:Nat) (hc:c<=1000000000000000000) w0 po pc (hr:Rd .u32 w0 po pc (canon c)) =>
  odd_canon po pc c w0 hr (Nat.le_trans (fits_64 c (by omega)).len (by decide))
 have HTR:=fun (c:Nat) (hc:c<=1000000000000000000) (w0:World)=>trim_string (decText c) w0 (Nat.le_trans (dec_len c hc) (by decide))
 have HAD:=fun (c:Nat) (hc:c<=1000000000000000000) w0 po pc qo (hr:Rd .u32 w0 po pc (canon c)) (hq:Rd .u32 w0 qo 1 [1]) =>
  add_two po qo pc 1 (canon c) [1] w0 c 1 hr hq (bval_canon _) rfl (Nat.le_trans (fits_64 c (by omega)).len (by decide)) (by decide)
 have HA2:=fun w0 po pc (hr:Rd .u32 w0 po pc (canon (N * tenDn k % (D * tenUp k))))=>add_two po po pc pc (canon (N * tenDn k % (D * tenUp k))) (canon (N * tenDn k % (D * tenUp k))) w0 _ _ hr hr (bval_canon _) (bval_canon _) (by omega) (by omega)
 have HC:=fun w0 po pc qo qc (hr:Rd .u32 w0 po pc (canon (N * tenDn k % (D * tenUp k)+N * tenDn k % (D * tenUp k)))) (hq:Rd .u32 w0 qo qc (canon (D * tenUp k)))=>cmp_two' po qo pc qc (canon _) (canon _) w0 _ _ hr hq (bval_canon _) (bval_canon _) (by omega) (by omega)
 have HCR:=cmp_range (N * tenDn k % (D * tenUp k)+N * tenDn k % (D * tenUp k)) (D * tenUp k)
 have HLEN:=canon_len_zero (N * tenDn k % (D * tenUp k))
 have hlowe:N * tenDn k / (D * tenUp k)=lowOf N D k:=rfl
 have hdl:∀ c,c<=1000000000000000000->(decText c).length<=30:=fun c hc=>dec_len c hc
 have hsl:∀ c,c<=1000000000000000000->(shortOf c).length<=30:=fun c hc=>Nat.le_trans (trimRight_len _ _) (dec_len c hc)
 unfold TwoPost at HR
 unfold WordsPost at HM1 HM2 HAD HA2
 unfold DivModPost at HDM
 unfold NearPost at HNR
 unfold TextPost at HTX
 unfold CmpPostFl at HC
 unfold OddPost at HOD
 replace HTR:=fun c hc w0=>(show Calls Tryz.prog 167 #[.string ⟨(decText c).toArray⟩,.string ⟨#[48]⟩] w0 fun e w'=>e=.returned (.string ⟨(shortOf c).toArray⟩)/\w'=w0 from HTR c hc w0)
 rw [hlowe] at HDM
 have hits:∀ c x,Rnd (Y75 (c * tenUp k)) (tenDn k) x->Hits c k x:=fun c x h=>h
 have hok:=fun (c:Nat) (h:c=lowOf N D k\/c=highOf N D k) (hp:Pick (lowOf N D k) (highOf N D k) k b (cmpOf (N * tenDn k % (D * tenUp k)+N * tenDn k % (D * tenUp k)) (D * tenUp k)) c) (g:Hits c k b) (w':World) (hb:Below w.heap.size w w')=>nearest_ok (w:=w) (w':=w') c h hp g hb
 have hno:∀ w',Below w.heap.size w w'->¬ Hits (lowOf N D k) k b->¬ Hits (highOf N D k) k b->NearestPost N D k b w (.returned (.tuple #[.string ⟨#[]⟩,.int .i64 0,.bool false])) w':=fun w' hb n1 n2=>.inr ⟨n1,n2,rfl,hb⟩
 generalize N * tenDn k % (D * tenUp k)=r at *
 generalize N * tenDn k=P at *
 generalize D * tenUp k=Q at *
 generalize NearestPost N D k b w=POST at *
 generalize lowOf N D k=low at *
 generalize highOf N D k=high at *
 have hlo9:Hid (low<=1000000000000000000):=by show _<=_;omega
 have hhi9:Hid (high<=1000000000000000000):=by show _<=_;rw [hhigh];split<;>omega
 have HH:=Lib.hid hhigh
 obtain ⟨n0,hn0⟩:∃ n,n=xs.length:=⟨_,rfl⟩
 obtain ⟨n1,hn1⟩:∃ n,n=ys.length:=⟨_,rfl⟩
 rw [<-hn0] at HM1 ⊢
 rw [<-hn1] at HM2 ⊢
 generalize tenUp k=U at *
 generalize tenDn k=V at *
 replace HR:=Lib.hid HR
 replace HM1:=Lib.hid HM1
 replace HM2:=Lib.hid HM2
 replace HDM:=Lib.hid HDM
 replace HNR:=Lib.hid HNR
 replace HTX:=Lib.hid HTX
 replace HOD:=Lib.hid HOD
 replace HTR:=Lib.hid HTR
 replace HAD:=Lib.hid HAD
 replace HA2:=Lib.hid HA2
 replace HC:=Lib.hid HC
 replace HLEN:=Lib.hid HLEN
 replace hits:=Lib.hid hits
 replace hok:=Lib.hid hok
 replace hno:=Lib.hid hno
 replace hdl:=Lib.hid hdl
 replace hsl:=Lib.hid hsl
 clear h g hx hy lx ly fN fD fu fd lu ld l1 l2 hn0 hn1 e1 hQ fr lr lrr hhigh hlowe hlow hD
 go_enter Tryz.func136,Tryz.ntmps136
 go_wp2_with fail
 have ho:=one_rd w
 have hc1:canon 1=[1]:=rfl
 rw [hc1] at ho
 have b0:=(Below.refl w.heap.size w).alloc (Nat.le_refl _) (.cells #[.int .u32 1] 145)
 refine (HR.out _ _ ho).mono ?_
 rintro e0 w1 ⟨no,nc,dd,dc,rfl,hr,hr2,hb⟩
 have U1:=Lib.hid hr
 have V1:=Lib.hid hr2
 have B1:=Lib.hid (b0.trans (hb.mono b0.size))
 clear hr hr2 hb b0 ho hc1
 go_wp2_with fail
 refine (HM1.out w1 B1.out _ _ V1.out).mono ?_
 rintro e0 w2 ⟨mo,mc,rfl,hr,hb⟩
 have M2:=Lib.hid hr
 have U2:=Lib.hid (U1.out.keep hb)
 have B2:=Lib.hid (B1.out.trans (hb.mono B1.out.size))
 clear hr hb B1 U1 V1
 go_wp2_with fail
 refine (HM2.out w2 B2.out _ _ U2.out).mono ?_
 rintro e0 w3 ⟨po,pc,rfl,hr,hb⟩
 have P3:=Lib.hid hr
 have M3:=Lib.hid (M2.out.keep hb)
 have B3:=Lib.hid (B2.out.trans (hb.mono B2.out.size))
 clear hr hb B2 U2 M2
 go_wp2_with fail
 refine (HDM.out w3 _ _ _ _ M3.out P3.out).mono ?_
 rintro e0 w4 ⟨qo,qc,ro,rc,rfl,hr,hr2,hb⟩
 have L4:=Lib.hid hr
 have R4:=Lib.hid hr2
 have P4:=Lib.hid (P3.out.keep hb)
 have B4:=Lib.hid (B3.out.trans (hb.mono B3.out.size))
 clear hr hr2 hb B3 M3 P3
 by_cases hr0:r=0
 ·have hz:=HLEN.out.1 hr0
  have he:=HH.out
  rw [if_pos hr0] at he
  replace he:=he.symm
  subst he
  have tz:decide ((0:Int)<((canon r).length:Int))=false:=decide_eq_false (by omega)
  have tz2:¬ 0<(canon r).length:=by omega
  obtain ⟨w5,rfl⟩:∃ w5:World,w5=w4:=⟨_,rfl⟩
  have L5:=L4
  have H5:=L4
  have R5:=R4
  have P5:=P4
  have B5:=B4
  clear L4 R4 P4 B4 hr0 HH hz
  go_wp2_with fail
  refine (HNR.out low hlo9.out w5 _ _ L5.out).mono ?_
  rintro e0 w6 ⟨x,rfl,hr,hb⟩
  have X6:=Lib.hid (hits.out _ _ hr)
  have L6:=Lib.hid (L5.out.keep hb)
  have H6:=Lib.hid (H5.out.keep hb)
  have R6:=Lib.hid (R5.out.keep hb)
  have P6:=Lib.hid (P5.out.keep hb)
  have B6:=Lib.hid (B5.out.trans (hb.mono B5.out.size))
  clear hr hb B5 L5 H5 R5 P5
  go_wp2_with fail
  refine (HNR.out low hhi9.out w6 _ _ H6.out).mono ?_
  rintro e0 w7 ⟨y,rfl,hr,hb⟩
  have Y7:=Lib.hid (hits.out _ _ hr)
  have L7:=Lib.hid (L6.out.keep hb)
  have H7:=Lib.hid (H6.out.keep hb)
  have R7:=Lib.hid (R6.out.keep hb)
  have P7:=Lib.hid (P6.out.keep hb)
  have B7:=Lib.hid (B6.out.trans (hb.mono B6.out.size))
  clear hr hb B6 L6 H6 R6 P6
  go_wp2_with fail
  refine (HA2.out w7 _ _ R7.out).mono ?_
  rintro e0 w8 ⟨so,sc,rfl,hr,hb⟩
  have S8:=Lib.hid hr
  have L8:=Lib.hid (L7.out.keep hb)
  have H8:=Lib.hid (H7.out.keep hb)
  have P8:=Lib.hid (P7.out.keep hb)
  have B8:=Lib.hid (B7.out.trans (hb.mono B7.out.size))
  clear hr hb B7 L7 H7 R7 P7
  go_wp2_with fail
  refine (HC.out w8 _ _ _ _ S8.out P8.out).mono ?_
  rintro e0 w9 ⟨rfl,hb⟩
  have L9:=Lib.hid (L8.out.keep hb)
  have H9:=Lib.hid (H8.out.keep hb)
  have B9:=Lib.hid (B8.out.trans (hb.mono B8.out.size))
  clear hb B8 L8 H8 P8 S8
  generalize cmpOf (r+r) Q=cc at *
  by_cases hxb:x=b
  ·subst hxb
   have tx:decide ((x:Int)=(x:Int))=true:=decide_eq_true rfl
   by_cases hyb:y=x
   ·subst hyb
    rcases (show cc=-1\/cc=0\/cc=1 by omega) with rfl|rfl|rfl
    ·
     go_wp2_with fail
     refine (HTX.out low hlo9.out _ _ _ L9.out).mono ?_
     rintro e0 wa ⟨rfl,hb⟩
     have BA:=Lib.hid (B9.out.trans (hb.mono B9.out.size))
     clear hb B9
     have hd1:=hdl.out low hlo9.out
     have hd2:=hsl.out low hlo9.out
     have hfin:=Lib.hid (hok.out low (.inl rfl) (pick_below X6.out) X6.out wa BA.out)
     have HTRc:=Lib.hid (HTR.out low hlo9.out wa)
     generalize decText low=dt at *
     generalize shortOf low=st at *
     go_wp2_with fail
     refine HTRc.out.mono ?_
     rintro e0 wb ⟨rfl,rfl⟩
     go_wp2
     go_ret3
     exact hfin.out
    ·
     go_wp2_with fail
     refine (HOD.out low hlo9.out _ _ _ L9.out).mono ?_
     rintro e0 wz ⟨bo,od1,od2,rfl,rfl⟩
     have OD1:=Lib.hid od1
     have OD2:=Lib.hid od2
     clear od1 od2
     cases bo
     ·skip
      go_wp2_with fail
      refine (HTX.out low hlo9.out _ _ _ L9.out).mono ?_
      rintro e0 wa ⟨rfl,hb⟩
      have BA:=Lib.hid (B9.out.trans (hb.mono B9.out.size))
      clear hb B9
      have hd1:=hdl.out low hlo9.out
      have hd2:=hsl.out low hlo9.out
      have hfin:=Lib.hid (hok.out low (.inl rfl) (pick_even X6.out (by first|exact OD2.out rfl|exact OD2.out trivial)) X6.out wa BA.out)
      have HTRc:=Lib.hid (HTR.out low hlo9.out wa)
      generalize decText low=dt at *
      generalize shortOf low=st at *
      go_wp2_with fail
      refine HTRc.out.mono ?_
      rintro e0 wb ⟨rfl,rfl⟩
      go_wp2
      go_ret3
      exact hfin.out
     ·skip
      go_wp2_with fail
      refine (HTX.out low hhi9.out _ _ _ H9.out).mono ?_
      rintro e0 wa ⟨rfl,hb⟩
      have BA:=Lib.hid (B9.out.trans (hb.mono B9.out.size))
      clear hb B9
      have hd1:=hdl.out low hhi9.out
      have hd2:=hsl.out low hhi9.out
      have hfin:=Lib.hid (hok.out low (.inr rfl) (pick_odd Y7.out (by first|exact OD1.out rfl|exact OD1.out trivial)) Y7.out wa BA.out)
      have HTRc:=Lib.hid (HTR.out low hhi9.out wa)
      generalize decText low=dt at *
      generalize shortOf low=st at *
      go_wp2_with fail
      refine HTRc.out.mono ?_
      rintro e0 wb ⟨rfl,rfl⟩
      go_wp2
      go_ret3
      exact hfin.out
    ·
     go_wp2_with fail
     refine (HTX.out low hhi9.out _ _ _ H9.out).mono ?_
     rintro e0 wa ⟨rfl,hb⟩
     have BA:=Lib.hid (B9.out.trans (hb.mono B9.out.size))
     clear hb B9
     have hd1:=hdl.out low hhi9.out
     have hd2:=hsl.out low hhi9.out
     have hfin:=Lib.hid (hok.out low (.inr rfl) (pick_above Y7.out) Y7.out wa BA.out)
     have HTRc:=Lib.hid (HTR.out low hhi9.out wa)
     generalize decText low=dt at *
     generalize shortOf low=st at *
     go_wp2_with fail
     refine HTRc.out.mono ?_
     rintro e0 wb ⟨rfl,rfl⟩
     go_wp2
     go_ret3
     exact hfin.out
   ·have ty:((y:Int)==(x:Int))=false:=by rw [beq_eq_false_iff_ne];omega
    have ty3:((y:Int) != (x:Int))=true:=by rw [bne_iff_ne];omega
    have ty2:decide ((y:Int)=(x:Int))=false:=decide_eq_false (by omega)
    go_wp2_with fail
    refine (HTX.out low hlo9.out _ _ _ L9.out).mono ?_
    rintro e0 wa ⟨rfl,hb⟩
    have BA:=Lib.hid (B9.out.trans (hb.mono B9.out.size))
    clear hb B9
    have hd1:=hdl.out low hlo9.out
    have hd2:=hsl.out low hlo9.out
    have hfin:=Lib.hid (hok.out low (.inl rfl) (pick_low X6.out (fun h=>hyb (Y7.out.uniq h))) X6.out wa BA.out)
    have HTRc:=Lib.hid (HTR.out low hlo9.out wa)
    generalize decText low=dt at *
    generalize shortOf low=st at *
    go_wp2_with fail
    refine HTRc.out.mono ?_
    rintro e0 wb ⟨rfl,rfl⟩
    go_wp2
    go_ret3
    exact hfin.out
  ·have tx:((x:Int)==(b:Int))=false:=by rw [beq_eq_false_iff_ne];omega
   have tx3:((x:Int) != (b:Int))=true:=by rw [bne_iff_ne];omega
   have tx2:decide ((x:Int)=(b:Int))=false:=decide_eq_false (by omega)
   by_cases hyb:y=b
   ·subst hyb
    go_wp2_with fail
    refine (HTX.out low hhi9.out _ _ _ H9.out).mono ?_
    rintro e0 wa ⟨rfl,hb⟩
    have BA:=Lib.hid (B9.out.trans (hb.mono B9.out.size))
    clear hb B9
    have hd1:=hdl.out low hhi9.out
    have hd2:=hsl.out low hhi9.out
    have hfin:=Lib.hid (hok.out low (.inr rfl) (pick_high (fun h=>hxb (X6.out.uniq h))) Y7.out wa BA.out)
    have HTRc:=Lib.hid (HTR.out low hhi9.out wa)
    generalize decText low=dt at *
    generalize shortOf low=st at *
    go_wp2_with fail
    refine HTRc.out.mono ?_
    rintro e0 wb ⟨rfl,rfl⟩
    go_wp2
    go_ret3
    exact hfin.out
   ·have ty:((y:Int)==(b:Int))=false:=by rw [beq_eq_false_iff_ne];omega
    have ty3:((y:Int) != (b:Int))=true:=by rw [bne_iff_ne];omega
    have ty2:decide ((y:Int)=(b:Int))=false:=decide_eq_false (by omega)
    have hfin:=Lib.hid (hno.out w9 B9.out (fun h=>hxb (X6.out.uniq h)) (fun h=>hyb (Y7.out.uniq h)))
    go_wp2
    go_ret3
    exact hfin.out
 ·have hz:=HLEN.out.2 hr0
  have he:=HH.out
  rw [if_neg hr0] at he
  have tz:decide ((0:Int)<((canon r).length:Int))=true:=decide_eq_true (by omega)
  have tz2:0<(canon r).length:=by omega
  have ho:=Rd.keep R4.out ((Below.refl _ w4).alloc (Nat.le_refl _) (.cells #[.int .u32 1] 145))
  have b5:=(Below.refl w4.heap.size w4).alloc (Nat.le_refl _) (.cells #[.int .u32 1] 145)
  have h1':=one_rd w4
  have hc1:canon 1=[1]:=rfl
  rw [hc1] at h1'
  have HA:=Lib.hid (HAD.out low hlo9.out _ _ _ _ (L4.out.keep b5) h1')
  have B5':=Lib.hid b5
  rw [<-he] at HA
  clear hr0 he hz ho b5 h1' hc1 HH
  go_wp2_with fail
  refine HA.out.mono ?_
  rintro e0 w5 ⟨ho,hc,rfl,hr,hb⟩
  have b6:=B5'.out.trans (hb.mono B5'.out.size)
  have H5:=Lib.hid hr
  have L5:=Lib.hid (L4.out.keep b6)
  have R5:=Lib.hid (R4.out.keep b6)
  have P5:=Lib.hid (P4.out.keep b6)
  have B5:=Lib.hid (B4.out.trans (b6.mono B4.out.size))
  clear hr hb b6 B5' L4 R4 P4 B4 HA
  go_wp2_with fail
  refine (HNR.out low hlo9.out w5 _ _ L5.out).mono ?_
  rintro e0 w6 ⟨x,rfl,hr,hb⟩
  have X6:=Lib.hid (hits.out _ _ hr)
  have L6:=Lib.hid (L5.out.keep hb)
  have H6:=Lib.hid (H5.out.keep hb)
  have R6:=Lib.hid (R5.out.keep hb)
  have P6:=Lib.hid (P5.out.keep hb)
  have B6:=Lib.hid (B5.out.trans (hb.mono B5.out.size))
  clear hr hb B5 L5 H5 R5 P5
  go_wp2_with fail
  refine (HNR.out high hhi9.out w6 _ _ H6.out).mono ?_
  rintro e0 w7 ⟨y,rfl,hr,hb⟩
  have Y7:=Lib.hid (hits.out _ _ hr)
  have L7:=Lib.hid (L6.out.keep hb)
  have H7:=Lib.hid (H6.out.keep hb)
  have R7:=Lib.hid (R6.out.keep hb)
  have P7:=Lib.hid (P6.out.keep hb)
  have B7:=Lib.hid (B6.out.trans (hb.mono B6.out.size))
  clear hr hb B6 L6 H6 R6 P6
  go_wp2_with fail
  refine (HA2.out w7 _ _ R7.out).mono ?_
  rintro e0 w8 ⟨so,sc,rfl,hr,hb⟩
  have S8:=Lib.hid hr
  have L8:=Lib.hid (L7.out.keep hb)
  have H8:=Lib.hid (H7.out.keep hb)
  have P8:=Lib.hid (P7.out.keep hb)
  have B8:=Lib.hid (B7.out.trans (hb.mono B7.out.size))
  clear hr hb B7 L7 H7 R7 P7
  go_wp2_with fail
  refine (HC.out w8 _ _ _ _ S8.out P8.out).mono ?_
  rintro e0 w9 ⟨rfl,hb⟩
  have L9:=Lib.hid (L8.out.keep hb)
  have H9:=Lib.hid (H8.out.keep hb)
  have B9:=Lib.hid (B8.out.trans (hb.mono B8.out.size))
  clear hb B8 L8 H8 P8 S8
  generalize cmpOf (r+r) Q=cc at *
  by_cases hxb:x=b
  ·subst hxb
   have tx:decide ((x:Int)=(x:Int))=true:=decide_eq_true rfl
   by_cases hyb:y=x
   ·subst hyb
    rcases (show cc=-1\/cc=0\/cc=1 by omega) with rfl|rfl|rfl
    ·
     go_wp2_with fail
     refine (HTX.out low hlo9.out _ _ _ L9.out).mono ?_
     rintro e0 wa ⟨rfl,hb⟩
     have BA:=Lib.hid (B9.out.trans (hb.mono B9.out.size))
     clear hb B9
     have hd1:=hdl.out low hlo9.out
     have hd2:=hsl.out low hlo9.out
     have hfin:=Lib.hid (hok.out low (.inl rfl) (pick_below X6.out) X6.out wa BA.out)
     have HTRc:=Lib.hid (HTR.out low hlo9.out wa)
     generalize decText low=dt at *
     generalize shortOf low=st at *
     go_wp2_with fail
     refine HTRc.out.mono ?_
     rintro e0 wb ⟨rfl,rfl⟩
     go_wp2
     go_ret3
     exact hfin.out
    ·
     go_wp2_with fail
     refine (HOD.out low hlo9.out _ _ _ L9.out).mono ?_
     rintro e0 wz ⟨bo,od1,od2,rfl,rfl⟩
     have OD1:=Lib.hid od1
     have OD2:=Lib.hid od2
     clear od1 od2
     cases bo
     ·skip
      go_wp2_with fail
      refine (HTX.out low hlo9.out _ _ _ L9.out).mono ?_
      rintro e0 wa ⟨rfl,hb⟩
      have BA:=Lib.hid (B9.out.trans (hb.mono B9.out.size))
      clear hb B9
      have hd1:=hdl.out low hlo9.out
      have hd2:=hsl.out low hlo9.out
      have hfin:=Lib.hid (hok.out low (.inl rfl) (pick_even X6.out (by first|exact OD2.out rfl|exact OD2.out trivial)) X6.out wa BA.out)
      have HTRc:=Lib.hid (HTR.out low hlo9.out wa)
      generalize decText low=dt at *
      generalize shortOf low=st at *
      go_wp2_with fail
      refine HTRc.out.mono ?_
      rintro e0 wb ⟨rfl,rfl⟩
      go_wp2
      go_ret3
      exact hfin.out
     ·skip
      go_wp2_with fail
      refine (HTX.out high hhi9.out _ _ _ H9.out).mono ?_
      rintro e0 wa ⟨rfl,hb⟩
      have BA:=Lib.hid (B9.out.trans (hb.mono B9.out.size))
      clear hb B9
      have hd1:=hdl.out high hhi9.out
      have hd2:=hsl.out high hhi9.out
      have hfin:=Lib.hid (hok.out high (.inr rfl) (pick_odd Y7.out (by first|exact OD1.out rfl|exact OD1.out trivial)) Y7.out wa BA.out)
      have HTRc:=Lib.hid (HTR.out high hhi9.out wa)
      generalize decText high=dt at *
      generalize shortOf high=st at *
      go_wp2_with fail
      refine HTRc.out.mono ?_
      rintro e0 wb ⟨rfl,rfl⟩
      go_wp2
      go_ret3
      exact hfin.out
    ·
     go_wp2_with fail
     refine (HTX.out high hhi9.out _ _ _ H9.out).mono ?_
     rintro e0 wa ⟨rfl,hb⟩
     have BA:=Lib.hid (B9.out.trans (hb.mono B9.out.size))
     clear hb B9
     have hd1:=hdl.out high hhi9.out
     have hd2:=hsl.out high hhi9.out
     have hfin:=Lib.hid (hok.out high (.inr rfl) (pick_above Y7.out) Y7.out wa BA.out)
     have HTRc:=Lib.hid (HTR.out high hhi9.out wa)
     generalize decText high=dt at *
     generalize shortOf high=st at *
     go_wp2_with fail
     refine HTRc.out.mono ?_
     rintro e0 wb ⟨rfl,rfl⟩
     go_wp2
     go_ret3
     exact hfin.out
   ·have ty:((y:Int)==(x:Int))=false:=by rw [beq_eq_false_iff_ne];omega
    have ty3:((y:Int) != (x:Int))=true:=by rw [bne_iff_ne];omega
    have ty2:decide ((y:Int)=(x:Int))=false:=decide_eq_false (by omega)
    go_wp2_with fail
    refine (HTX.out low hlo9.out _ _ _ L9.out).mono ?_
    rintro e0 wa ⟨rfl,hb⟩
    have BA:=Lib.hid (B9.out.trans (hb.mono B9.out.size))
    clear hb B9
    have hd1:=hdl.out low hlo9.out
    have hd2:=hsl.out low hlo9.out
    have hfin:=Lib.hid (hok.out low (.inl rfl) (pick_low X6.out (fun h=>hyb (Y7.out.uniq h))) X6.out wa BA.out)
    have HTRc:=Lib.hid (HTR.out low hlo9.out wa)
    generalize decText low=dt at *
    generalize shortOf low=st at *
    go_wp2_with fail
    refine HTRc.out.mono ?_
    rintro e0 wb ⟨rfl,rfl⟩
    go_wp2
    go_ret3
    exact hfin.out
  ·have tx:((x:Int)==(b:Int))=false:=by rw [beq_eq_false_iff_ne];omega
   have tx3:((x:Int) != (b:Int))=true:=by rw [bne_iff_ne];omega
   have tx2:decide ((x:Int)=(b:Int))=false:=decide_eq_false (by omega)
   by_cases hyb:y=b
   ·subst hyb
    go_wp2_with fail
    refine (HTX.out high hhi9.out _ _ _ H9.out).mono ?_
    rintro e0 wa ⟨rfl,hb⟩
    have BA:=Lib.hid (B9.out.trans (hb.mono B9.out.size))
    clear hb B9
    have hd1:=hdl.out high hhi9.out
    have hd2:=hsl.out high hhi9.out
    have hfin:=Lib.hid (hok.out high (.inr rfl) (pick_high (fun h=>hxb (X6.out.uniq h))) Y7.out wa BA.out)
    have HTRc:=Lib.hid (HTR.out high hhi9.out wa)
    generalize decText high=dt at *
    generalize shortOf high=st at *
    go_wp2_with fail
    refine HTRc.out.mono ?_
    rintro e0 wb ⟨rfl,rfl⟩
    go_wp2
    go_ret3
    exact hfin.out
   ·have ty:((y:Int)==(b:Int))=false:=by rw [beq_eq_false_iff_ne];omega
    have ty3:((y:Int) != (b:Int))=true:=by rw [bne_iff_ne];omega
    have ty2:decide ((y:Int)=(b:Int))=false:=decide_eq_false (by omega)
    have hfin:=Lib.hid (hno.out w9 B9.out (fun h=>hxb (X6.out.uniq h)) (fun h=>hyb (Y7.out.uniq h)))
    go_wp2
    go_ret3
    exact hfin.out
end Go.Proofs.YtldhmfkojaekfaaGreatDoor
namespace Go.Proofs.YtldhmfkojaekfaaGreatDoor
open Go.RowKit Gx
set_option maxRecDepth 100000
theorem andnot_sign (b:Nat) (hb:b<18446744073709551616):bits BinOp.andNot IntKind.u64 (b:Int) 9223372036854775808=((b % 9223372036854775808:Nat):Int):=by
 have h1:(BitVec.ofInt 64 (b:Int)).toNat=b:=by
  rw [BitVec.ofInt_natCast,BitVec.toNat_ofNat];exact Nat.mod_eq_of_lt (by omega)
 have h2:(~~~ (BitVec.ofInt 64 9223372036854775808)).toNat=2 ^ 63 - 1:=by decide
 show IntKind.u64.wrap ((BitVec.ofInt 64 (b:Int) &&& ~~~ (BitVec.ofInt 64 9223372036854775808)).toNat:Int)=_
 rw [BitVec.toNat_and,h1,h2,Nat.and_two_pow_sub_one_eq_mod,IntKind.wrap_u64]
 have h3:(2:Nat) ^ 63=9223372036854775808:=by decide
 rw [h3]
 omega
def Lim:Nat:=18014398509481983 * 2 ^ 970
theorem y75_x74 (N:Nat):Y75 N=2 * X74 N:=by
 obtain ⟨K,hK⟩:∃ K:Nat,K=1074:=⟨_,rfl⟩
 rw [y75_of N (K+1) (by omega),x74_of N K hK,Nat.pow_succ,<-Nat.mul_assoc,Nat.mul_comm]
end Go.Proofs.YtldhmfkojaekfaaGreatDoor
namespace Go.Proofs.YtldhmfkojaekfaaGreatDoor
set_option maxRecDepth 100000
theorem Rnd.between {Y D Z C W E b:Nat} (h:Rnd Y D b) (g:Rnd Z C b) (hD:0<D) (hC:0<C) (hE:0<E) (h1:Y * E<=W * D) (h2:W * C<=Z * E):Rnd W E b:=by
 refine ⟨h.le,?_,?_⟩
 ·rcases h.lo with h0|h0
  ·exact .inl h0
  ·generalize fmid (b - 1)=f at *
   have a1:D * f<=Y:=by omega
   have a2:E * f * D<=W * D:=by
    have:=Nat.mul_le_mul_right E a1
    rw [show E * f * D=D * f * E by rw [Nat.mul_comm,Nat.mul_assoc,Nat.mul_comm E f]]
    omega
   have a3:=Nat.le_of_mul_le_mul_right a2 hD
   rcases Nat.lt_or_ge (E * f) W with h3|h3
   ·exact .inr (.inl h3)
   ·have e3:E * f=W:=Nat.le_antisymm a3 h3
    rcases h0 with h0|h0
    ·exfalso
     have:=Nat.mul_lt_mul_of_pos_right h0 hE
     have e4:W * D=D * f * E:=by rw [<-e3,Nat.mul_comm,<-Nat.mul_assoc,Nat.mul_right_comm]
     omega
    ·exact .inr (.inr ⟨e3,h0.2⟩)
 ·rcases g.hi with h0|h0
  ·exact .inl h0
  ·generalize fmid b=f at *
   have a1:Z<=C * f:=by omega
   have a2:W * C<=E * f * C:=by
    have:=Nat.mul_le_mul_right E a1
    rw [show E * f * C=C * f * E by rw [Nat.mul_comm,Nat.mul_assoc,Nat.mul_comm E f]]
    omega
   have a3:=Nat.le_of_mul_le_mul_right a2 hC
   rcases Nat.lt_or_ge W (E * f) with h3|h3
   ·exact .inr (.inl h3)
   ·have e3:W=E * f:=Nat.le_antisymm a3 h3
    rcases h0 with h0|h0
    ·exfalso
     have:=Nat.mul_lt_mul_of_pos_right h0 hE
     have e4:W * C=C * f * E:=by rw [e3,Nat.mul_comm,<-Nat.mul_assoc,Nat.mul_right_comm]
     omega
    ·exact .inr (.inr ⟨e3,h0.2⟩)
theorem gap_lo (b:Nat) (h:0<b):∃ u,0<u/\fval b=fval (b - 1)+u/\fval b<=9007199254740992 * u:=by
 obtain ⟨n,E,hb,hn,hE,hv,he⟩:=fbitsFl (b - 1)
 have h1:=fval_succ (b - 1)
 rw [show b - 1+1=b by omega,<-he] at h1
 refine ⟨2 ^ E,Nat.two_pow_pos E,h1,?_⟩
 rw [h1,hv]
 have:=Nat.mul_le_mul_right (2 ^ E) (show n+1<=9007199254740992 by omega)
 rw [Nat.add_mul,Nat.one_mul] at this
 exact this
theorem gap_hi (b:Nat):∃ u,0<u/\fval (b+1)=fval b+u/\fval b<=9007199254740992 * u:=by
 obtain ⟨n,E,hb,hn,hE,hv,he⟩:=fbitsFl b
 have h1:=fval_succ b
 rw [<-he] at h1
 refine ⟨2 ^ E,Nat.two_pow_pos E,h1,?_⟩
 rw [hv]
 exact Nat.mul_le_mul_right (2 ^ E) (by omega)
theorem low_lt {N D n:Nat} {top:Int} (hD:0<D) (h:Bel N D top):lowOf N D (top - (n:Int))<10 ^ n:=by
 unfold Bel at h
 unfold lowOf
 have hs:=ten_shift top n
 have p1:=tenUp_pos (top - (n:Int))
 have p2:=tenDn_pos (top - (n:Int))
 rw [Nat.div_lt_iff_lt_mul (Nat.mul_pos hD p1)]
 refine Nat.lt_of_mul_lt_mul_right (a:=tenDn top) ?_
 have h1:=Nat.mul_lt_mul_of_pos_right h p2
 have e1:N * tenDn (top - (n:Int)) * tenDn top=N * tenDn top * tenDn (top - (n:Int)):=Nat.mul_right_comm _ _ _
 have e2:10 ^ n * (D * tenUp (top - (n:Int))) * tenDn top=D * (10 ^ n * tenUp (top - (n:Int)) * tenDn top):=by
  rw [Nat.mul_left_comm,Nat.mul_assoc D]
 rw [e1,e2,<-hs,<-Nat.mul_assoc]
 exact h1
end Go.Proofs.YtldhmfkojaekfaaGreatDoor
namespace Go.Proofs.YtldhmfkojaekfaaGreatDoor
set_option maxRecDepth 100000
theorem ten_ge (N D b:Nat) (top:Int) (T:Nat) (h1:N * T=fval b * D) (hD:0<D) (h:¬ Bel N D (top - 1)) :
 10 ^ 16 * (tenUp (top - (17:Nat)) * T)<=fval b * tenDn (top - (17:Nat)):=by
 unfold Bel at h
 have hs:=ten_shift (top - 1) 16
 rw [show top - 1 - ((16:Nat):Int)=top - ((17:Nat):Int) by omega] at hs
 obtain ⟨k,hk⟩:∃ k,k=top - ((17:Nat):Int):=⟨_,rfl⟩
 rw [<-hk] at hs ⊢
 have p0:=tenDn_pos (top - 1)
 have h2:=Nat.mul_le_mul_right (T * tenDn k) (Nat.le_of_not_lt h)
 generalize tenUp k=u at *
 generalize tenDn k=t at *
 generalize tenUp (top - 1)=U at *
 generalize tenDn (top - 1)=V at *
 generalize fval b=f at *
 generalize 10 ^ 16=c at *
 have e1:D * U * (T * t)=c * (u * T) * (V * D):=by
  have:D * U * (T * t)=D * T * (U * t):=by simp only [Nat.mul_assoc,Nat.mul_comm,Nat.mul_left_comm]
  rw [this,hs]
  simp only [Nat.mul_assoc,Nat.mul_comm,Nat.mul_left_comm]
 have e2:N * V * (T * t)=f * t * (V * D):=by
  have:N * V * (T * t)=N * T * (V * t):=by simp only [Nat.mul_assoc,Nat.mul_comm,Nat.mul_left_comm]
  rw [this,h1]
  simp only [Nat.mul_assoc,Nat.mul_comm,Nat.mul_left_comm]
 rw [e1,e2] at h2
 exact Nat.le_of_mul_le_mul_right h2 (Nat.mul_pos p0 hD)
theorem ten_small {u t f g:Nat} (h:10 ^ 16 * u<=f * t) (hf:f<=9007199254740992 * g) (hg:0<g) (ht:0<t):u<g * t:=by
 have h1:(10:Nat) ^ 16=10000000000000000:=by decide
 rw [h1] at h
 have h2:=Nat.mul_le_mul_right t hf
 rw [Nat.mul_assoc] at h2
 have h3:=Nat.mul_pos hg ht
 omega
theorem near_side {c u t f D Q P T b:Nat} (hD:0<D) (hb0:0<b) (hQ:Q * T=D * u) (hP:P * T=f * D * t) (hf:f=fval b) (hT:0<T) (ht:0<t)
 (h16:10 ^ 16 * u<=f * t) (h1:2 * (c * Q)<=2 * P+Q) (h2:2 * P<=2 * (c * Q)+Q) :
 t * fmid (b - 1)<2 * (c * u)/\2 * (c * u)<t * fmid b:=by
 obtain ⟨g,hg,eg,lg⟩:=gap_lo b hb0
 obtain ⟨g',hg',eg',lg'⟩:=gap_hi b
 rw [<-hf] at eg lg eg' lg'
 have s1:=ten_small h16 lg hg ht
 have s2:=ten_small h16 lg' hg' ht
 have a1:2 * (c * u)<=2 * (f * t)+u:=by
  have:=Nat.mul_le_mul_right T h1
  have e1:2 * (c * Q) * T=D * (2 * (c * u)):=by
   have:2 * (c * Q) * T=2 * c * (Q * T):=by simp only [Nat.mul_assoc,Nat.mul_comm,Nat.mul_left_comm]
   rw [this,hQ];simp only [Nat.mul_assoc,Nat.mul_comm,Nat.mul_left_comm]
  have e2:(2 * P+Q) * T=D * (2 * (f * t)+u):=by
   rw [Nat.add_mul,hQ,Nat.mul_assoc,hP,Nat.mul_add]
   congr 1
   simp only [Nat.mul_assoc,Nat.mul_comm,Nat.mul_left_comm]
  rw [e1,e2] at this
  exact Nat.le_of_mul_le_mul_left this hD
 have a2:2 * (f * t)<=2 * (c * u)+u:=by
  have:=Nat.mul_le_mul_right T h2
  have e1:2 * P * T=D * (2 * (f * t)):=by
   rw [Nat.mul_assoc,hP]
   simp only [Nat.mul_assoc,Nat.mul_comm,Nat.mul_left_comm]
  have e2:(2 * (c * Q)+Q) * T=D * (2 * (c * u)+u):=by
   have:2 * (c * Q) * T=2 * c * (Q * T):=by simp only [Nat.mul_assoc,Nat.mul_comm,Nat.mul_left_comm]
   rw [Nat.add_mul,this,hQ,Nat.mul_add]
   congr 1
   simp only [Nat.mul_assoc,Nat.mul_comm,Nat.mul_left_comm]
  rw [e1,e2] at this
  exact Nat.le_of_mul_le_mul_left this hD
 refine ⟨?_,?_⟩
 ·unfold fmid
  rw [show b - 1+1=b by omega,<-hf]
  have e:t * (fval (b - 1)+f)+g * t=2 * (f * t):=by
   rw [eg];simp only [Nat.mul_add,Nat.add_mul,Nat.mul_comm t];omega
  omega
 ·unfold fmid
  rw [<-hf,eg']
  have e:t * (f+(f+g'))=2 * (f * t)+g' * t:=by
   simp only [Nat.mul_add,Nat.add_mul,Nat.mul_comm t];omega
  omega
theorem seventeen {N D b:Nat} {top:Int} (hF:IsFrac b N D) (hb:b<9218868437227405312) (hb0:0<b) (h:¬ Bel N D (top - 1)) :
 Hits (lowOf N D (top - (17:Nat))) (top - (17:Nat)) b\/Hits (highOf N D (top - (17:Nat))) (top - (17:Nat)) b:=by
 obtain ⟨h1,hD⟩:=hF
 rw [Nat.mod_eq_of_lt (by omega)] at h1
 obtain ⟨K,hK⟩:∃ K:Nat,K=1074:=⟨_,rfl⟩
 rw [x74_of N K hK] at h1
 have h16:=ten_ge N D b top (2 ^ K) h1 hD h
 obtain ⟨k,hk⟩:∃ k,k=top - ((17:Nat):Int):=⟨_,rfl⟩
 rw [<-hk] at h16 ⊢
 have ht:=tenDn_pos k
 have hQ0:=Nat.mul_pos hD (tenUp_pos k)
 have hQ:D * tenUp k * 2 ^ K=D * (tenUp k * 2 ^ K):=Nat.mul_assoc _ _ _
 have hP:N * tenDn k * 2 ^ K=fval b * D * tenDn k:=by rw [Nat.mul_right_comm,h1]
 have key:∀ c,2 * (c * (D * tenUp k))<=2 * (N * tenDn k)+D * tenUp k->2 * (N * tenDn k)<=2 * (c * (D * tenUp k))+D * tenUp k->Hits c k b:=by
  intro c c1 c2
  obtain ⟨g1,g2⟩:=near_side hD hb0 hQ hP rfl (Nat.two_pow_pos K) ht h16 c1 c2
  have e:Y75 (c * tenUp k)=2 * (c * (tenUp k * 2 ^ K)):=by rw [y75_x74,x74_of _ K hK,Nat.mul_assoc]
  unfold Hits
  rw [e]
  exact ⟨by omega,.inr (.inl g1),.inr (.inl g2)⟩
 unfold highOf
 have hl:lowOf N D k=N * tenDn k / (D * tenUp k):=rfl
 have m1:=Nat.div_add_mod (N * tenDn k) (D * tenUp k)
 have m2:=Nat.mod_lt (N * tenDn k) hQ0
 rw [<-hl] at m1
 generalize lowOf N D k=low at *
 generalize N * tenDn k % (D * tenUp k)=r at *
 generalize N * tenDn k=P at *
 generalize D * tenUp k=Q at *
 rw [Nat.mul_comm] at m1
 rcases Nat.lt_or_ge Q (2 * r) with hc|hc
 ·right
  rw [if_neg (by omega)]
  refine key _ ?_ ?_
  ·rw [Nat.add_mul,Nat.one_mul];omega
  ·rw [Nat.add_mul,Nat.one_mul];omega
 ·left
  exact key _ (by omega) (by omega)
end Go.Proofs.YtldhmfkojaekfaaGreatDoor
namespace Go.Proofs.YtldhmfkojaekfaaGreatDoor
open Go.RowKit Gx
set_option maxRecDepth 100000
def eOf (B:Nat):Nat:=B / 4503599627370496 - 1
def mOf (B:Nat):Nat:=if B<4503599627370496 then B else B % 4503599627370496+4503599627370496
def numOf (B:Nat):Nat:=mOf B * 2 ^ (eOf B - 1074)
def denOf (B:Nat):Nat:=2 ^ (1074 - eOf B)
theorem parts_of {B m E:Nat} (hB:B=E * 4503599627370496+m) (hm:m<9007199254740992) (h2:E=0\/4503599627370496<=m):eOf B=E/\mOf B=m:=by
 unfold eOf mOf
 rcases h2 with rfl|h2
 ·refine ⟨by omega,?_⟩
  by_cases h:B<4503599627370496
  ·rw [if_pos h];omega
  ·rw [if_neg h];omega
 ·rw [if_neg (by omega)]
  refine ⟨?_,by omega⟩
  have e0:B=(m - 4503599627370496)+(E+1) * 4503599627370496:=by rw [Nat.add_mul,Nat.one_mul];omega
  rw [e0,Nat.add_mul_div_right _ _ (by decide:0<4503599627370496),Nat.div_eq_of_lt (by omega)];omega
theorem num_dn {B m E n:Nat} (hB:B=E * 4503599627370496+m) (hm:m<9007199254740992) (h2:E=0\/4503599627370496<=m) (hn:E+n=1074):m=numOf B/\2 ^ n=denOf B:=by
 obtain ⟨e1,e2⟩:=parts_of hB hm h2
 unfold numOf denOf
 rw [e1,e2,show E - 1074=0 by omega,show 1074 - E=n by omega,Nat.pow_zero,Nat.mul_one]
 exact ⟨rfl,rfl⟩
theorem num_up {B m E n:Nat} (hB:B=E * 4503599627370496+m) (hm:m<9007199254740992) (h2:E=0\/4503599627370496<=m) (hn:E=n+1074):m * 2 ^ n=numOf B/\1=denOf B:=by
 obtain ⟨e1,e2⟩:=parts_of hB hm h2
 unfold numOf denOf
 rw [e1,e2,show E - 1074=n by omega,show 1074 - E=0 by omega,Nat.pow_zero]
 exact ⟨rfl,rfl⟩
def ShortIs (B c:Nat) (kk:Int):Prop:=∃ (N D:Nat) (top:Int) (n0:Nat),IsFrac B N D/\Bel N D top/\¬ Bel N D (top - 1)/\1<=n0/\n0<=17/\(-400<=top/\N=numOf B/\D=denOf B/\Pick (lowOf N D kk) (highOf N D kk) kk B (halfOf N D kk) c)/\top<=400/\kk=top - (n0:Int) /\
 (c=lowOf N D kk\/c=highOf N D kk)/\Hits c kk B/\∀ i:Nat,1<=i->i<n0->¬ Hits (lowOf N D (top - (i:Int))) (top - (i:Int)) B/\¬ Hits (highOf N D (top - (i:Int))) (top - (i:Int)) B
def ShortPost (b:Nat) (w:World) (e:Ending) (w':World):Prop :=
 ((b / 4503599627370496 % 2048=2047\/b % 9223372036854775808=0)/\e=.returned (.tuple #[.string ⟨#[]⟩,.int .i64 0,.int .i64 1])/\Below w.heap.size w w') \/
 (b / 4503599627370496 % 2048≠2047/\b % 9223372036854775808≠0/\∃ c kk,ShortIs (b % 9223372036854775808) c kk/\e=.returned (.tuple #[.string ⟨(shortOf c).toArray⟩,.int .i64 (kk+((decText c).length:Int) - ((shortOf c).length:Int)),.int .i64 0])/\Below w.heap.size w w')
theorem frac_mod {b A B:Nat} (h:IsFrac b A B):IsFrac (b % 9223372036854775808) A B:=by
 obtain ⟨h1,h2⟩:=h
 exact ⟨by rw [h1,Nat.mod_mod],h2⟩
theorem ten_big (n K:Nat) (h:K<=3 * n):2 ^ K<=10 ^ n:=by
 have h1:2 ^ (3 * n)=8 ^ n:=by rw [Nat.pow_mul]
 have h2:=Nat.pow_le_pow_right (show 2 > 0 by decide) h
 have h3:=Nat.pow_le_pow_left (show 8<=10 by decide) n
 omega
theorem frac_bounds {B N D m E:Nat} (h:IsFrac B N D) (hB:B % 9223372036854775808=E * 4503599627370496+m) (hm:m<9007199254740992) (hm0:0<m) (hE:E<=2045) (h2:E=0\/4503599627370496<=m):Bel N D 400/\¬ Bel N D (-400):=by
 obtain ⟨h1,hD⟩:=h
 obtain ⟨K,hK⟩:∃ K:Nat,K=1074:=⟨_,rfl⟩
 obtain ⟨n,hn⟩:∃ n:Nat,n=400:=⟨_,rfl⟩
 rw [x74_of N K hK,hB,fval_of m E hm h2] at h1
 have e1:(400:Int)=(n:Int):=by omega
 rw [e1]
 unfold Bel tenUp tenDn
 rw [show (-(n:Int)).toNat=0 by omega,show (n:Int).toNat=n by omega,show (- -(n:Int)).toNat=n by omega]
 simp only [Nat.pow_zero,Nat.mul_one]
 refine ⟨?_,?_⟩
 ·have a1:m * 2 ^ E<2 ^ (53+E):=by
   have h53:(2:Nat) ^ 53=9007199254740992:=by decide
   rw [Nat.pow_add,h53]
   exact Nat.mul_lt_mul_of_pos_right hm (Nat.two_pow_pos E)
  have a2:=Nat.pow_le_pow_right (show 2 > 0 by decide) (show 53+E<=1024+K by omega)
  obtain ⟨J,hJ⟩:∃ J:Nat,J=1024:=⟨_,rfl⟩
  rw [<-hJ,Nat.pow_add 2 J K] at a2
  have a3:=ten_big n J (by omega)
  have a4:N * 2 ^ K<10 ^ n * D * 2 ^ K:=by
   rw [h1]
   have b1:m * 2 ^ E * D<2 ^ J * 2 ^ K * D:=Nat.mul_lt_mul_of_pos_right (by omega) hD
   have b2:2 ^ J * 2 ^ K * D<=10 ^ n * 2 ^ K * D:=Nat.mul_le_mul_right _ (Nat.mul_le_mul_right _ a3)
   rw [Nat.mul_right_comm (10 ^ n)]
   omega
  have a5:=Nat.lt_of_mul_lt_mul_right a4
  rw [Nat.mul_comm]
  exact a5
 ·have a3:=ten_big n K (by omega)
  have a1:D<=N * 2 ^ K:=by
   rw [h1]
   have:=Nat.mul_le_mul_right D (Nat.mul_pos hm0 (Nat.two_pow_pos E))
   rw [Nat.succ_mul,Nat.zero_mul,Nat.zero_add] at this
   exact this
  have a2:=Nat.mul_le_mul_left N a3
  omega
theorem blen_shl (m n K:Nat) (hm:m<9007199254740992) (h:53+n<=K):blen (m * 2 ^ n)<=K:=by
 refine blen_le _ _ ?_
 have h53:(2:Nat) ^ 53=9007199254740992:=by decide
 have a1:m * 2 ^ n<2 ^ (53+n):=by
  rw [Nat.pow_add,h53]
  exact Nat.mul_lt_mul_of_pos_right hm (Nat.two_pow_pos n)
 have a2:=Nat.pow_le_pow_right (show 2 > 0 by decide) h
 omega
theorem low_small {N D:Nat} {top:Int} {n:Nat} (hD:0<D) (h:Bel N D top) (hn:n<=17):lowOf N D (top - (n:Int))<1000000000000000000:=by
 have h1:=low_lt (n:=n) hD h
 have h2:=Nat.pow_le_pow_right (show 10 > 0 by decide) hn
 have h3:(10:Nat) ^ 17=100000000000000000:=by decide
 omega
set_option maxHeartbeats 4000000 in
theorem short_any (b:Nat) (w:World) (hb:b<18446744073709551616) :
 Calls Tryz.prog 115 #[.int .u64 b] w (ShortPost b w):=by
 have hp:=parts_anyFl b w hb
 have ha:=andnot_sign b hb
 have hfin:∀ e w',ShortPost b w e w'->ShortPost b w e w':=fun _ _ h=>h
 unfold PartsPostFl at hp
 by_cases hs:b / 4503599627370496 % 2048=2047
 ·have hp2:=hp.mono (R':=fun e w'=>∃ x k:Int,0<k/\e=.returned (.tuple #[.int .u64 0,.int .i64 x,.int .i64 k])/\w=w') (by
   rintro e w' ⟨m,x,k,rfl,⟨-,rfl,h⟩|⟨h1,-⟩,rfl⟩
   ·exact ⟨x,k,by omega,rfl,rfl⟩
   ·exact absurd hs h1)
  have HP:=Lib.hid hp2
  have hres:=Lib.hid (show ShortPost b w (.returned (.tuple #[.string ⟨#[]⟩,.int .i64 0,.int .i64 1])) w from .inl ⟨.inl hs,rfl,Below.refl _ _⟩)
  generalize ShortPost b w=POST at *
  clear hp hp2 ha hfin hs hb
  go_enter Tryz.func115,Tryz.ntmps115
  go_wp2_with fail
  refine HP.out.mono ?_
  rintro e0 w1 ⟨x,k,hk,rfl,rfl⟩
  have t0:decide (0<k)=true:=decide_eq_true hk
  go_wp2
  go_ret3
  exact hres.out
 by_cases hz:b % 9223372036854775808=0
 ·have hp2:=hp.mono (R':=fun e w'=>∃ x:Int,e=.returned (.tuple #[.int .u64 0,.int .i64 x,.int .i64 0])/\w=w') (by
   rintro e w' ⟨m,x,k,rfl,h|⟨h1,rfl,h3,E,rfl,h5,h6,h7⟩,rfl⟩
   ·exact absurd h.1 hs
   ·obtain rfl:m=0:=by omega
    exact ⟨_,rfl,rfl⟩)
  have HP:=Lib.hid hp2
  have hres:=Lib.hid (show ShortPost b w (.returned (.tuple #[.string ⟨#[]⟩,.int .i64 0,.int .i64 1])) w from .inl ⟨.inr hz,rfl,Below.refl _ _⟩)
  generalize ShortPost b w=POST at *
  clear hp hp2 ha hfin hs hz hb
  go_enter Tryz.func115,Tryz.ntmps115
  go_wp2_with fail
  refine HP.out.mono ?_
  rintro e0 w1 ⟨x,rfl,rfl⟩
  go_wp2
  go_ret3
  exact hres.out
 have hp3:=hp.mono (R':=fun e w'=>∃ m E:Nat,e=.returned (.tuple #[.int .u64 m,.int .i64 ((E:Int) - 1074),.int .i64 0])/\m<9007199254740992/\E<=2045/\(E=0\/4503599627370496<=m)/\b % 9223372036854775808=E * 4503599627370496+m/\w=w') (by
  rintro e w' ⟨m,x,k,rfl,h|⟨h1,rfl,h3,E,rfl,h5,h6,h7⟩,rfl⟩
  ·exact absurd h.1 hs
  ·exact ⟨m,E,rfl,h3,h5,h6,h7,rfl⟩)
 have HP:=Lib.hid hp3
 have hB9:b % 9223372036854775808<9218868437227405312:=by omega
 have HPOST:=Lib.hid (show ∀ e w' c kk,ShortIs (b % 9223372036854775808) c kk->e=.returned (.tuple #[.string ⟨(shortOf c).toArray⟩,.int .i64 (kk+((decText c).length:Int) - ((shortOf c).length:Int)),.int .i64 0])->Below w.heap.size w w'->ShortPost b w e w' from
  fun e w' c kk h1 h2 h3=>.inr ⟨hs,hz,c,kk,h1,h2,h3⟩)
 generalize ShortPost b w=POST at *
 clear hp hp3 hfin hs hb
 obtain ⟨B,hB⟩:∃ B,B=b % 9223372036854775808:=⟨_,rfl⟩
 have hfr:∀ N D,IsFrac b N D->IsFrac B N D:=fun N D h=>by rw [hB];exact frac_mod h
 rw [<-hB] at ha hz hB9 HPOST
 have HFR:=Lib.hid hfr
 have HB:=Lib.hid hB
 have HZ:=Lib.hid (Nat.pos_of_ne_zero hz)
 have HB9:=Lib.hid hB9
 clear hfr hB hz hB9
 go_enter Tryz.func115,Tryz.ntmps115
 go_wp2_with fail
 refine HP.out.mono ?_
 rintro e0 w1 ⟨m,E,rfl,hm,hE,h2,h7,rfl⟩
 have hm0:0<m:=by have:=HZ.out;have:=HB.out;omega
 have tm:((m:Int)==0)=false:=by rw [beq_eq_false_iff_ne];omega
 have tm2:decide ((m:Int)=0)=false:=decide_eq_false (by omega)
 have HN:=Lib.hid (nat_any m w (by omega))
 unfold WordsPost at HN
 go_wp2_with fail
 refine HN.out.mono ?_
 rintro e0 w2 ⟨mo,mc,rfl,hr,hb⟩
 have M2:=Lib.hid hr
 have B2:=Lib.hid hb
 clear hr hb HN HP
 have hal:=(Below.refl w2.heap.size w2).alloc (Nat.le_refl _) (.cells #[.int .u32 1] 145)
 have hone:=one_rd w2
 have hc1:canon 1=[1]:=rfl
 rw [hc1] at hone
 have AL:=Lib.hid hal
 have ONE:=Lib.hid hone
 have M3:=Lib.hid (M2.out.keep hal)
 have B3:=Lib.hid (B2.out.trans (hal.mono B2.out.size))
 clear hal hone hc1 M2 B2
 rcases Int.lt_or_le (E:Int) 1074 with he|he
 ·obtain ⟨n,hn⟩:∃ n:Nat,E+n=1074:=⟨1074 - E,by omega⟩
  have FRAC:=Lib.hid (HFR.out _ _ (frac_dn b m E h7 hm h2 n hn))
  have ND:=Lib.hid (num_dn (B:=B) (HB.out.trans h7) hm h2 hn)
  have bnds:=frac_bounds FRAC.out (by rw [HB.out,Nat.mod_mod];exact h7) hm hm0 hE h2
  have HS:=Lib.hid (shift_left' _ _ _ n 1 _ ONE.out rfl (by show 1<=_;omega) (by omega))
  rw [Nat.one_mul] at HS
  unfold SubPost at HS
  have LX:Hid ((canon m).length<=60):=Nat.le_trans (fits_two m hm).len (by decide)
  have LY:Hid ((canon (2 ^ n)).length<=60):=(two_fitsK n 60 (by omega)).len
  have VX:Hid (bval (canon m)=m):=bval_canon _
  have VY:Hid (bval (canon (2 ^ n))=2 ^ n):=bval_canon _
  have MG0:=fun w0 xo xc yo yc (h:Rd .u32 w0 xo xc (canon m)) (g:Rd .u32 w0 yo yc (canon (2 ^ n)))=>magnitude_any xo yo xc yc (canon m) (canon (2 ^ n)) m (2 ^ n) w0 h g VX.out VY.out LX.out LY.out (by have:=blen_shl m 0 60 hm (by omega);rw [Nat.pow_zero,Nat.mul_one] at this;omega) (by exact Nat.le_trans (blen_le _ (n+1) (Nat.pow_lt_pow_right (by decide) (by omega))) (by omega)) bnds.1 bnds.2
  unfold MagPost at MG0
  have MG1:=Lib.hid MG0
  have tE:decide (0<=(E:Int) - 1074)=false:=decide_eq_false (by omega)
  have eE:-((E:Int) - 1074)=(n:Int):=by omega
  have EE:=Lib.hid eE
  clear hn h7 h2 hm hE MG0 bnds eE hm0
  go_wp2_with fail
  rw [EE.out]
  refine HS.out.mono ?_
  rintro e0 w4 ⟨so,sc,rfl,hr,hb⟩
  have Y4:=Lib.hid hr
  have X4:=Lib.hid (M3.out.keep hb)
  have B4:=Lib.hid (B3.out.trans (hb.mono B3.out.size))
  have MG:=Lib.hid (MG1.out w4 _ _ _ _ X4.out Y4.out)
  clear hr hb M3 B3 HS MG1 AL ONE EE
  go_wp2_with fail
  refine MG.out.mono ?_
  rintro e0 w5 ⟨top,rfl,t1,t2,hbel,hnb,hb⟩
  have X5:=Lib.hid (X4.out.keep hb)
  have Y5:=Lib.hid (Y4.out.keep hb)
  have B5:=Lib.hid (B4.out.trans (hb.mono B4.out.size))
  have HNE:=Lib.hid (fun w0 (hb:Below w5.heap.size w5 w0) (j:Nat) (g1:1<=j) (g17:j<=17)=>nearest_any mo so mc sc (canon m) (canon (2 ^ n)) m (2 ^ n) (top - (j:Int)) B w0 (X5.out.keep hb) (Y5.out.keep hb) VX.out VY.out LX.out LY.out (by omega) (by omega) (Nat.pos_iff_ne_zero.1 FRAC.out.2) (low_small FRAC.out.2 hbel g17))
  have SEV:=Lib.hid (seventeen FRAC.out HB9.out HZ.out hnb)
  unfold NearestPost at HNE
  have HIN:=Lib.hid (show ∀ (j:Nat) c,1<=j->j<=17->(c=lowOf m (2 ^ n) (top - (j:Int))\/c=highOf m (2 ^ n) (top - (j:Int)))->Pick (lowOf m (2 ^ n) (top - (j:Int))) (highOf m (2 ^ n) (top - (j:Int))) (top - (j:Int)) B (halfOf m (2 ^ n) (top - (j:Int))) c->Hits c (top - (j:Int)) B->(∀ i:Nat,1<=i->i<j->¬ Hits (lowOf m (2 ^ n) (top - (i:Int))) (top - (i:Int)) B/\¬ Hits (highOf m (2 ^ n) (top - (i:Int))) (top - (i:Int)) B)->ShortIs B c (top - (j:Int)) from
   fun j c g1 g2 g3 gp g4 g5=>⟨m,(2 ^ n),top,j,FRAC.out,hbel,hnb,g1,g2,⟨t1,ND.out.1,ND.out.2,gp⟩,t2,rfl,g3,g4,g5⟩)
  obtain ⟨HI,hHI⟩:∃ HI:Int->Prop,HI=fun k=>Hits (lowOf m (2 ^ n) k) k B:=⟨_,rfl⟩
  obtain ⟨HJ,hHJ⟩:∃ HJ:Int->Prop,HJ=fun k=>Hits (highOf m (2 ^ n) k) k B:=⟨_,rfl⟩
  have i1:∀ k,HI k=Hits (lowOf m (2 ^ n) k) k B:=fun k=>by rw [hHI]
  have i2:∀ k,HJ k=Hits (highOf m (2 ^ n) k) k B:=fun k=>by rw [hHJ]
  simp only [<-i1,<-i2] at HNE SEV HIN
  generalize lowOf m (2 ^ n)=LO at *
  generalize highOf m (2 ^ n)=HG at *
  clear hb X4 Y4 B4 MG hbel hnb X5 Y5 i1 i2 hHI hHJ VX VY LX LY FRAC ND
  go_wp2_with fail
  go_loopw [11,12,13,14] (fun nv a1 a2 a3 wr=>∃ n:Nat,nv=.int .i64 n/\1<=n/\n<=17/\Hid (∀ i:Nat,1<=i->i<n->¬ HI (top - (i:Int))/\¬ HJ (top - (i:Int)))/\Below w5.heap.size w5 wr) (fun nv _ _ _ _=>18 - (intOf nv).toNat)
  case atStart=>exact ⟨1,rfl,by omega,by omega,(fun i h1 h2=>absurd h1 (by omega)),Below.refl _ _⟩
  case round =>
   obtain ⟨n,rfl,n1,n2,hprev,hb⟩:=hrel
   have HC:=Lib.hid (HNE.out wr hb n n1 n2)
   go_wp2_with fail
   refine HC.out.mono ?_
   rintro e0 w6 (⟨c,hc,hpk,hit,rfl,hb2⟩|⟨z1,z2,rfl,hb2⟩)
   ·have B6:=Lib.hid (B5.out.trans ((hb.trans (hb2.mono hb.size)).mono B5.out.size))
    have IN:=Lib.hid (HIN.out n c n1 n2 hc hpk hit hprev.out)
    clear hb hb2 hc hpk hit HC
    have hfin:=Lib.hid (HPOST.out _ w6 c _ IN.out rfl B6.out)
    generalize shortOf c=st at *
    generalize decText c=dt at *
    go_wp2
    go_ret3
    exact hfin.out
   ·have B6:=Lib.hid (hb.trans (hb2.mono hb.size))
    have hlt:n<17:=by
     apply Classical.byContradiction
     intro hc
     obtain rfl:n=17:=by omega
     exact SEV.out.elim z1 z2
    have HPR:Hid (∀ i:Nat,1<=i->i<n+1->¬ HI (top - (i:Int))/\¬ HJ (top - (i:Int))):=by
     intro i g1 g2
     rcases Nat.lt_or_ge i n with g3|g3
     ·exact hprev.out i g1 g3
     ·obtain rfl:i=n:=by omega
      exact ⟨z1,z2⟩
    clear hb hb2 HC z1 z2 hprev
    go_wp2_with fail
    go_roundw
    case rel=>exact ⟨n+1,by congr 1<;>omega,by omega,by omega,HPR,B6.out⟩
    case measure=>simp [intOf];omega
 ·obtain ⟨n,hn⟩:∃ n:Nat,E=n+1074:=⟨E - 1074,by omega⟩
  have FRAC:=Lib.hid (HFR.out _ _ (frac_up b m E h7 hm h2 n hn))
  have ND:=Lib.hid (num_up (B:=B) (HB.out.trans h7) hm h2 hn)
  have bnds:=frac_bounds FRAC.out (by rw [HB.out,Nat.mod_mod];exact h7) hm hm0 hE h2
  have HS:=Lib.hid (shift_left' _ _ _ n m _ M3.out (bval_canon _) (Nat.le_trans (fits_two m hm).len (by decide)) (by omega))
  unfold SubPost at HS
  have LX:Hid ((canon (m * 2 ^ n)).length<=60):=((fits_two m hm).mul (two_fitsK n 58 (by omega))).len
  have LY:Hid (([1]:List Int).length<=60):=by show 1<=60;omega
  have VX:Hid (bval (canon (m * 2 ^ n))=m * 2 ^ n):=bval_canon _
  have VY:Hid (bval [1]=1):=rfl
  have b1:blen 1<=1100:=Nat.le_trans (blen_le 1 1 (by decide)) (by omega)
  have MG0:=fun w0 xo xc yo (h:Rd .u32 w0 xo xc (canon (m * 2 ^ n))) (g:Rd .u32 w0 yo 1 [1])=>magnitude_any xo yo xc 1 (canon (m * 2 ^ n)) [1] (m * 2 ^ n) 1 w0 h g VX.out VY.out LX.out LY.out (blen_shl m n 1100 hm (by omega)) b1 bnds.1 bnds.2
  unfold MagPost at MG0
  have MG1:=Lib.hid MG0
  have tE:decide (0<=(E:Int) - 1074)=true:=decide_eq_true (by omega)
  have eE:((E:Int) - 1074)=(n:Int):=by omega
  have EE:=Lib.hid eE
  clear hn h7 h2 hm hE MG0 bnds eE hm0 b1
  go_wp2_with fail
  rw [EE.out]
  refine HS.out.mono ?_
  rintro e0 w4 ⟨so,sc,rfl,hr,hb⟩
  have X4:=Lib.hid hr
  have Y4:=Lib.hid (ONE.out.keep hb)
  have B4:=Lib.hid (B3.out.trans (hb.mono B3.out.size))
  have MG:=Lib.hid (MG1.out w4 _ _ _ X4.out Y4.out)
  clear hr hb M3 B3 HS MG1 AL ONE EE
  go_wp2_with fail
  refine MG.out.mono ?_
  rintro e0 w5 ⟨top,rfl,t1,t2,hbel,hnb,hb⟩
  have X5:=Lib.hid (X4.out.keep hb)
  have Y5:=Lib.hid (Y4.out.keep hb)
  have B5:=Lib.hid (B4.out.trans (hb.mono B4.out.size))
  have HNE:=Lib.hid (fun w0 (hb:Below w5.heap.size w5 w0) (j:Nat) (g1:1<=j) (g17:j<=17)=>nearest_any so _ sc 1 (canon (m * 2 ^ n)) [1] (m * 2 ^ n) 1 (top - (j:Int)) B w0 (X5.out.keep hb) (Y5.out.keep hb) VX.out VY.out LX.out LY.out (by omega) (by omega) (Nat.pos_iff_ne_zero.1 FRAC.out.2) (low_small FRAC.out.2 hbel g17))
  have SEV:=Lib.hid (seventeen FRAC.out HB9.out HZ.out hnb)
  unfold NearestPost at HNE
  have HIN:=Lib.hid (show ∀ (j:Nat) c,1<=j->j<=17->(c=lowOf (m * 2 ^ n) 1 (top - (j:Int))\/c=highOf (m * 2 ^ n) 1 (top - (j:Int)))->Pick (lowOf (m * 2 ^ n) 1 (top - (j:Int))) (highOf (m * 2 ^ n) 1 (top - (j:Int))) (top - (j:Int)) B (halfOf (m * 2 ^ n) 1 (top - (j:Int))) c->Hits c (top - (j:Int)) B->(∀ i:Nat,1<=i->i<j->¬ Hits (lowOf (m * 2 ^ n) 1 (top - (i:Int))) (top - (i:Int)) B/\¬ Hits (highOf (m * 2 ^ n) 1 (top - (i:Int))) (top - (i:Int)) B)->ShortIs B c (top - (j:Int)) from
   fun j c g1 g2 g3 gp g4 g5=>⟨(m * 2 ^ n),1,top,j,FRAC.out,hbel,hnb,g1,g2,⟨t1,ND.out.1,ND.out.2,gp⟩,t2,rfl,g3,g4,g5⟩)
  obtain ⟨HI,hHI⟩:∃ HI:Int->Prop,HI=fun k=>Hits (lowOf (m * 2 ^ n) 1 k) k B:=⟨_,rfl⟩
  obtain ⟨HJ,hHJ⟩:∃ HJ:Int->Prop,HJ=fun k=>Hits (highOf (m * 2 ^ n) 1 k) k B:=⟨_,rfl⟩
  have i1:∀ k,HI k=Hits (lowOf (m * 2 ^ n) 1 k) k B:=fun k=>by rw [hHI]
  have i2:∀ k,HJ k=Hits (highOf (m * 2 ^ n) 1 k) k B:=fun k=>by rw [hHJ]
  simp only [<-i1,<-i2] at HNE SEV HIN
  generalize lowOf (m * 2 ^ n) 1=LO at *
  generalize highOf (m * 2 ^ n) 1=HG at *
  clear hb X4 Y4 B4 MG hbel hnb X5 Y5 i1 i2 hHI hHJ VX VY LX LY FRAC ND
  go_wp2_with fail
  go_loopw [11,12,13,14] (fun nv a1 a2 a3 wr=>∃ n:Nat,nv=.int .i64 n/\1<=n/\n<=17/\Hid (∀ i:Nat,1<=i->i<n->¬ HI (top - (i:Int))/\¬ HJ (top - (i:Int)))/\Below w5.heap.size w5 wr) (fun nv _ _ _ _=>18 - (intOf nv).toNat)
  case atStart=>exact ⟨1,rfl,by omega,by omega,(fun i h1 h2=>absurd h1 (by omega)),Below.refl _ _⟩
  case round =>
   obtain ⟨n,rfl,n1,n2,hprev,hb⟩:=hrel
   have HC:=Lib.hid (HNE.out wr hb n n1 n2)
   go_wp2_with fail
   refine HC.out.mono ?_
   rintro e0 w6 (⟨c,hc,hpk,hit,rfl,hb2⟩|⟨z1,z2,rfl,hb2⟩)
   ·have B6:=Lib.hid (B5.out.trans ((hb.trans (hb2.mono hb.size)).mono B5.out.size))
    have IN:=Lib.hid (HIN.out n c n1 n2 hc hpk hit hprev.out)
    clear hb hb2 hc hpk hit HC
    have hfin:=Lib.hid (HPOST.out _ w6 c _ IN.out rfl B6.out)
    generalize shortOf c=st at *
    generalize decText c=dt at *
    go_wp2
    go_ret3
    exact hfin.out
   ·have B6:=Lib.hid (hb.trans (hb2.mono hb.size))
    have hlt:n<17:=by
     apply Classical.byContradiction
     intro hc
     obtain rfl:n=17:=by omega
     exact SEV.out.elim z1 z2
    have HPR:Hid (∀ i:Nat,1<=i->i<n+1->¬ HI (top - (i:Int))/\¬ HJ (top - (i:Int))):=by
     intro i g1 g2
     rcases Nat.lt_or_ge i n with g3|g3
     ·exact hprev.out i g1 g3
     ·obtain rfl:i=n:=by omega
      exact ⟨z1,z2⟩
    clear hb hb2 HC z1 z2 hprev
    go_wp2_with fail
    go_roundw
    case rel=>exact ⟨n+1,by congr 1<;>omega,by omega,by omega,HPR,B6.out⟩
    case measure=>simp [intOf];omega
end Go.Proofs.YtldhmfkojaekfaaGreatDoor
namespace Go.Proofs.YtldhmfkojaekfaaGreatDoor
set_option maxRecDepth 100000
theorem dec_lt (n:Nat):n<10 ^ (decText n).length:=by
 by_cases h:n=0
 ·subst h;decide
 ·have h1:=dig_len_lt n
  have h2:(decText n).length=(dig n).length:=by
   unfold decText;rw [if_neg h,List.length_map,List.length_reverse]
  rw [h2];exact h1
theorem trimRight_snoc (l:List UInt8):Lib.trimRightB (l++[48]) 48=Lib.trimRightB l 48:=by
 unfold Lib.trimRightB
 rw [List.reverse_append]
 simp
theorem shortOf_ten (c:Nat) (h:c≠0):shortOf (c * 10)=shortOf c:=by
 unfold shortOf
 rw [text_big (c * 10) (by omega),show c * 10 / 10=c by omega,show c * 10 % 10=0 by omega]
 exact trimRight_snoc _
theorem short_pow (n:Nat):shortOf (10 ^ n)=shortOf 1:=by
 induction n with
 | zero=>rfl
 | succ n ih=>rw [Nat.pow_succ,shortOf_ten _ (Nat.pos_iff_ne_zero.1 (Nat.pow_pos (by decide))),ih]
theorem short_le (c n:Nat) (h:c<=10 ^ n) (hn:1<=n):(shortOf c).length<=n:=by
 rcases Nat.lt_or_ge c (10 ^ n) with h1|h1
 ·exact Nat.le_trans (trimRight_len _ _) (decText_len c n h1 hn)
 ·have:c=10 ^ n:=by omega
  rw [this,short_pow]
  have h2:=trimRight_len (decText 1) 48
  rw [text_small 1 (by decide)] at h2
  unfold shortOf
  rw [text_small 1 (by decide)]
  exact Nat.le_trans h2 hn
theorem high_le_low (N D:Nat) (k:Int):highOf N D k<=lowOf N D k+1:=by
 unfold highOf;split<;>omega
theorem shortIs_len {B c:Nat} {kk:Int} (h:ShortIs B c kk):c<=100000000000000000/\(shortOf c).length<=17:=by
 obtain ⟨N,D,top,n0,hF,hb,hnb,h1,h17,-,-,rfl,hc,-,-⟩:=h
 have a1:=low_lt (n:=n0) hF.2 hb
 have a2:=high_le_low N D (top - (n0:Int))
 have a3:c<=10 ^ n0:=by rcases hc with rfl|rfl<;>omega
 have a4:=Nat.pow_le_pow_right (show 10 > 0 by decide) h17
 have a5:(10:Nat) ^ 17=100000000000000000:=by decide
 have a6:=short_le c n0 a3 h1
 omega
end Go.Proofs.YtldhmfkojaekfaaGreatDoor
namespace Go.Proofs.YtldhmfkojaekfaaGreatDoor
set_option maxRecDepth 100000
theorem trimRight_other (l:List UInt8) (b:UInt8) (h:b≠48):Lib.trimRightB (l++[b]) 48=l++[b]:=by
 unfold Lib.trimRightB
 rw [List.reverse_append]
 simp [h]
theorem byteOf_ne (d:Nat) (h:d<10) (h0:d≠0):byteOf d≠48:=by
 intro hc
 have h1:=byteOf_nat d h
 rw [hc] at h1
 have h2:(48:UInt8).toNat=48:=rfl
 omega
theorem short_parts (c:Nat) (h:c≠0):∃ (m z:Nat),c=m * 10 ^ z/\m % 10≠0/\shortOf c=decText m/\(decText c).length=(decText m).length+z:=by
 induction c using Nat.strongRecOn with
 | ind c ih =>
   by_cases h0:c % 10=0
   ·have hq:c / 10≠0:=by omega
    obtain ⟨m,z,h1,h2,h3,h4⟩:=ih (c / 10) (by omega) hq
    have hc:c=c / 10 * 10:=by omega
    refine ⟨m,z+1,?_,h2,?_,?_⟩
    ·rw [Nat.pow_succ,<-Nat.mul_assoc,<-h1];exact hc
    ·rw [hc,shortOf_ten _ hq];exact h3
    ·rw [text_big c (by omega),List.length_append,h4];simp;omega
   ·refine ⟨c,0,by simp,h0,?_,by simp⟩
    have hb:byteOf (c % 10)≠48:=byteOf_ne _ (by omega) h0
    unfold shortOf
    by_cases hs:c<10
    ·rw [text_small c hs]
     have e:c % 10=c:=Nat.mod_eq_of_lt hs
     rw [e] at hb
     exact trimRight_other [] _ hb
    ·rw [text_big c (by omega)]
     exact trimRight_other _ _ hb
theorem shortIs_pos {B c:Nat} {kk:Int} (h:ShortIs B c kk) (hB:B≠0):c≠0:=by
 obtain ⟨N,D,top,n0,hF,hb,hnb,h1,h17,-,-,rfl,hc,hit,-⟩:=h
 intro h0
 subst h0
 have h2:Hits 0 (top - (n0:Int)) 0:=by
  unfold Hits
  rw [Nat.zero_mul]
  exact rnd_zero75 _ (tenDn_pos _)
 exact hB (hit.uniq h2)
end Go.Proofs.YtldhmfkojaekfaaGreatDoor
namespace Go.Proofs.YtldhmfkojaekfaaGreatDoor
open Go.RowKit Gx
set_option maxRecDepth 100000
theorem dec_head (m:Nat) (h:m≠0):(decText m).head?≠some 48:=by
 intro hc
 have h1:=(decOk_text m).2.2 hc
 by_cases hs:m<10
 ·rw [text_small m hs] at hc
  exact byteOf_ne m hs h (by simpa using hc)
 ·rw [text_big m (by omega),List.length_append] at h1
  have:=text_pos (m / 10)
  simp only [List.length_cons,List.length_nil] at h1
  omega
end Go.Proofs.YtldhmfkojaekfaaGreatDoor
