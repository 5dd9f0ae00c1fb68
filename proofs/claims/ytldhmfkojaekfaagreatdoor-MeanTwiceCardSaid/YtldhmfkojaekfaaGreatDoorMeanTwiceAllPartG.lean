/-
  Lemmas for the statement: plain laws, and what functions answer; the conditions stand in each.
-/
import Derived.Test.YtldhmfkojaekfaaGreatDoorMeanTwiceAllPartF
set_option linter.unusedVariables false
set_option linter.unusedSimpArgs false
namespace Go.Proofs.YtldhmfkojaekfaaGreatDoor
open Go.RowKit Gx
theorem bval_drop1 (l:List Int) (m:Nat) (h:m<l.length):bval (l.drop m)=(l.getD m 0).toNat+4294967296 * bval (l.drop (m+1)):=by
 rw [List.drop_eq_getElem_cons h]
 simp [bval,List.getD,List.getElem?_eq_getElem h]
structure LInv (A B nv la k:Nat) (us qs:List Int) (j:Nat):Prop where
 wu:Words us
 wq:Words qs
 lu:us.length=la+1
 lq:qs.length=k
 tot:bval us+B * (4294967296 ^ j * bval (qs.drop j))=A
 hi:bval (us.drop j)<B
structure LDiv (B nv:Nat) (vs:List Int):Prop where
 wv:Words vs
 lv:vs.length=nv
 two:2<=nv
 val:bval vs=B
 top:2147483648<=(vs.getD (nv - 1) 0).toNat
theorem LDiv.lt {B nv:Nat} {vs:List Int} (h:LDiv B nv vs):B<4294967296 ^ nv:=by
 rw [<-h.val,<-h.lv];exact bval_lt vs h.wv
theorem pow_two (n:Nat) (h:2<=n):4294967296 ^ (n - 1)=4294967296 ^ (n - 2) * 4294967296/\4294967296 ^ n=4294967296 ^ (n - 2) * 4294967296 * 4294967296:=by
 obtain ⟨k,rfl⟩:∃ k,n=k+2:=⟨n - 2,by omega⟩
 simp only [Nat.add_sub_cancel,show k+2 - 1=k+1 by omega,Nat.pow_succ]
 exact ⟨trivial,trivial⟩
theorem bval_take2 (l:List Int) (n:Nat) (h:2<=n) (hl:n<=l.length):bval (l.take n)=bval (l.take (n - 2))+4294967296 ^ (n - 2) * ((l.getD (n - 2) 0).toNat+4294967296 * (l.getD (n - 1) 0).toNat):=by
 have h1:=bval_take_succ l (n - 1)
 have h2:=bval_take_succ l (n - 2)
 rw [show n - 1+1=n by omega] at h1
 rw [show n - 2+1=n - 1 by omega] at h2
 rw [h1,h2,(pow_two n h).1,Nat.mul_add,Nat.add_assoc,Nat.mul_assoc]
theorem getD_drop (l:List Int) (j i:Nat):(l.drop j).getD i 0=l.getD (j+i) 0:=by simp [List.getD]
theorem round_win {A B nv la k j:Nat} {us qs vs:List Int} (hd:LDiv B nv vs) (h:LInv A B nv la k us qs (j+1)) (hj:j+nv<=la) :
 win us j (nv+1)=bval (us.drop j)/\win us j (nv+1)<4294967296 * B/\bval (us.drop (j+(nv+1)))=0:=by
 have h1:=bval_drop1 us j (by have:=h.lu;omega)
 have h2:=words_getD h.wu j
 have h3:=h.hi
 have h4:=hd.lt
 have h5:bval (us.drop j)<4294967296 * B:=by omega
 have h6:=bval_split (us.drop j) (nv+1) (by have:=h.lu;simp;omega)
 rw [List.drop_drop] at h6
 have h7:4294967296 * B<4294967296 ^ (nv+1):=by rw [Nat.pow_succ];omega
 have h8:bval (us.drop (j+(nv+1)))=0:=by
  rcases Nat.eq_zero_or_pos (bval (us.drop (j+(nv+1)))) with h0|h0
  ·exact h0
  ·have:4294967296 ^ (nv+1) * 1<=4294967296 ^ (nv+1) * bval (us.drop (j+(nv+1))):=Nat.mul_le_mul_left _ h0
   omega
 rw [h8,Nat.mul_zero,Nat.add_zero] at h6
 exact ⟨h6.symm,by rw [show win us j (nv+1)=bval (us.drop j) from h6.symm];exact h5,h8⟩
theorem round_guess {A B nv la k j:Nat} {us qs vs:List Int} (hd:LDiv B nv vs) (h:LInv A B nv la k us qs (j+1)) (hj:j+nv<=la) :
 Guess ((us.getD (j+nv) 0).toNat * 4294967296+(us.getD (j+nv - 1) 0).toNat) (us.getD (j+nv - 2) 0).toNat (vs.getD (nv - 1) 0).toNat (vs.getD (nv - 2) 0).toNat (win us j (nv+1)) B (4294967296 ^ (nv - 2)):=by
 have hn:=hd.two
 have t1:=words_getD hd.wv (nv - 1)
 have t2:=words_getD hd.wv (nv - 2)
 have t3:=words_getD h.wu (j+nv - 2)
 have hlu:=h.lu
 have hv:=bval_take2 vs nv hn (by rw [hd.lv];exact Nat.le_refl _)
 rw [List.take_of_length_le (by rw [hd.lv];exact Nat.le_refl _),hd.val] at hv
 have hvl:=bval_lt (vs.take (nv - 2)) (fun x hx=>hd.wv x (List.mem_of_mem_take hx))
 rw [List.length_take,Nat.min_eq_left (by rw [hd.lv];omega)] at hvl
 have hw:=bval_take_succ (us.drop j) nv
 rw [bval_take2 (us.drop j) nv hn (by simp;omega),getD_drop,getD_drop,getD_drop] at hw
 have hwl:=bval_lt ((us.drop j).take (nv - 2)) (fun x hx=>h.wu x (List.mem_of_mem_drop (List.mem_of_mem_take hx)))
 rw [List.length_take,Nat.min_eq_left (by simp;omega)] at hwl
 rw [(pow_two nv hn).2] at hw
 have e1:j+(nv - 2)=j+nv - 2:=by omega
 have e2:j+(nv - 1)=j+nv - 1:=by omega
 rw [e1,e2] at hw
 obtain ⟨R,hR⟩:∃ R,R=4294967296 ^ (nv - 2):=⟨_,rfl⟩
 rw [<-hR] at hv hvl hw hwl ⊢
 have hW:win us j (nv+1)=bval ((us.drop j).take (nv+1)):=rfl
 rw [<-hW] at hw
 have hwb:=(round_win hd h hj).2.1
 have htop:=hd.top
 generalize win us j (nv+1)=W at *
 obtain ⟨a,ha⟩:∃ a,a=(us.getD (j+nv) 0).toNat:=⟨_,rfl⟩
 obtain ⟨b,hb⟩:∃ a,a=(us.getD (j+nv - 1) 0).toNat:=⟨_,rfl⟩
 obtain ⟨c,hc⟩:∃ a,a=(us.getD (j+nv - 2) 0).toNat:=⟨_,rfl⟩
 obtain ⟨t,ht⟩:∃ a,a=(vs.getD (nv - 1) 0).toNat:=⟨_,rfl⟩
 obtain ⟨x,hx⟩:∃ a,a=(vs.getD (nv - 2) 0).toNat:=⟨_,rfl⟩
 obtain ⟨lo,hlo⟩:∃ a,a=bval ((us.drop j).take (nv - 2)):=⟨_,rfl⟩
 obtain ⟨lv,hlv⟩:∃ a,a=bval (vs.take (nv - 2)):=⟨_,rfl⟩
 have c1:c<4294967296:=by omega
 have t1':t<4294967296:=by omega
 have x1:x<4294967296:=by omega
 rw [<-ha,<-hb,<-hc,<-hlo] at hw
 rw [<-ht,<-hx,<-hlv] at hv
 rw [<-hlo] at hwl
 rw [<-hlv] at hvl
 rw [<-ht] at htop
 rw [<-ha,<-hb,<-hc,<-ht,<-hx]
 have ev:(t * 4294967296+x) * R=R * (x+4294967296 * t):=by rw [Nat.mul_comm,Nat.add_comm,Nat.mul_comm t]
 have ew:((a * 4294967296+b) * 4294967296+c) * R=R * (c+4294967296 * b)+R * 4294967296 * 4294967296 * a:=by
  rw [Nat.mul_comm _ R,Nat.mul_assoc,Nat.mul_assoc,<-Nat.mul_add]
  congr 1
  omega
 refine ⟨?_,?_,htop,t1',x1,c1,?_,?_,hwb⟩
 ·rw [ev];omega
 ·rw [Nat.add_mul,ev];omega
 ·rw [ew];omega
 ·rw [Nat.add_mul,ew];omega
theorem round_done {A B nv la k j qd:Nat} {us qs vs out:List Int} (hd:LDiv B nv vs) (h:LInv A B nv la k us qs (j+1)) (hj:j+nv<=la) (hjk:j<k) (hs:SameOut us out j (nv+1)) (ho:Words out)
 (hq:win out j (nv+1)+qd * B=win us j (nv+1)) (hr:win out j (nv+1)<B) (hqd:qd<4294967296) :
 LInv A B nv la k out (qs.set j (qd:Int)) j:=by
 obtain ⟨w1,w2,w3⟩:=round_win hd h hj
 have hlu:=h.lu
 have e1:bval (out.drop j)=win out j (nv+1):=by
  have h6:=bval_split (out.drop j) (nv+1) (by have:=hs.len;simp;omega)
  rw [List.drop_drop,hs.hi,w3,Nat.mul_zero,Nat.add_zero] at h6
  exact h6
 have s1:=bval_split us j (by omega)
 have s2:=bval_split out j (by have:=hs.len;omega)
 rw [hs.lo,e1] at s2
 rw [<-w1,<-hq] at s1
 refine ⟨ho,words_set h.wq j _ (by omega) (by omega),hs.len.trans hlu,by rw [List.length_set];exact h.lq,?_,by rw [e1];exact hr⟩
 have e2:bval ((qs.set j (qd:Int)).drop j)=qd+4294967296 * bval (qs.drop (j+1)):=by
  rw [bval_drop1 _ j (by rw [List.length_set,h.lq];exact hjk),List.drop_set_of_lt (by omega)]
  congr 1
  simp [List.getD,List.getElem?_set,h.lq,hjk]
 have ht:=h.tot
 rw [e2,s2]
 rw [s1,Nat.pow_succ] at ht
 rw [<-ht,Nat.mul_add (4294967296 ^ j),Nat.mul_add (4294967296 ^ j),Nat.mul_add B]
 have e3:B * (4294967296 ^ j * qd)=4294967296 ^ j * (qd * B):=by
  rw [Nat.mul_comm B,Nat.mul_assoc]
 have e4:4294967296 ^ j * (4294967296 * bval (qs.drop (j+1)))=4294967296 ^ j * 4294967296 * bval (qs.drop (j+1)):=by rw [Nat.mul_assoc]
 rw [e3,e4]
 omega
theorem quot_ok {W B O G:Nat} (hB:0<B) (h:O+G * B=W) (hg:W / B<=G):O<B:=by
 have h1:W<W / B * B+B:=by
  have:=Nat.mod_lt W hB
  have h2:=Nat.div_add_mod W B
  rw [Nat.mul_comm] at h2
  omega
 have h3:W / B * B<=G * B:=Nat.mul_le_mul_right _ hg
 omega
theorem quot_back {W B O O2 G c2 P:Nat} (hB:0<B) (hO:O<P) (hO2:O2<P) (h1:O+G * B=W+P) (h2:O2+P * c2=O+B) (hc:c2<=1) (hg2:G<=W / B+1):1<=G/\O2+(G - 1) * B=W/\O2<B:=by
 have h3:W / B * B<=W/\W<W / B * B+B:=by
  have:=Nat.mod_lt W hB
  have h2:=Nat.div_add_mod W B
  rw [Nat.mul_comm] at h2
  omega
 have hG:G=W / B+1:=by
  rcases Nat.lt_or_ge (W / B) G with h|h
  ·omega
  ·have:G * B<=W / B * B:=Nat.mul_le_mul_right _ h
   omega
 subst hG
 rw [Nat.add_mul,Nat.one_mul] at h1
 rw [Nat.add_sub_cancel]
 generalize W / B * B=M at *
 refine ⟨Nat.le_add_left _ _,?_⟩
 rcases Nat.eq_zero_or_pos c2 with h0|h0
 ·subst h0;simp at h2;omega
 ·have:c2=1:=by omega
  subst this
  simp at h2
  omega
theorem long_end {A B nv la k:Nat} {us qs:List Int} (h:LInv A B nv la k us qs 0):bval qs=A / B/\bval us=A % B:=by
 have h1:=h.tot
 have h2:=h.hi
 simp only [Nat.pow_zero,Nat.one_mul,List.drop_zero] at h1 h2
 rw [<-h1]
 refine ⟨?_,?_⟩
 ·rw [Nat.add_comm,Nat.mul_add_div (by omega),Nat.div_eq_of_lt h2,Nat.add_zero]
 ·rw [Nat.add_comm,Nat.mul_add_mod,Nat.mod_eq_of_lt h2]
theorem div_start (b:Nat) (hb:b≠0) (h2:2<=(canon b).length) (x:Nat) (hx:(x:Int)=(canon b).getD ((canon b).length - 1) 0) :
 Lib.bitLen x<=32/\1<=Lib.bitLen x/\LDiv (b * 2 ^ (32 - Lib.bitLen x)) (canon b).length (canon (b * 2 ^ (32 - Lib.bitLen x))):=by
 obtain ⟨hp,y,hy,hy2,hbl⟩:=blen_last b hb
 have hxy:x=y:=by
  have:=hx.trans hy.symm
  omega
 subst hxy
 have h32:=bitLen_le32 x hy2
 obtain ⟨b1,b2,b3⟩:=blen_bounds b hb
 obtain ⟨nv,hnv⟩:∃ n,n=(canon b).length:=⟨_,rfl⟩
 rw [<-hnv] at hp h2 hbl ⊢
 have hx0:1<=Lib.bitLen x:=by
  rcases Nat.eq_zero_or_pos (Lib.bitLen x) with h0|h0
  ·exfalso
   rw [h0,Nat.add_zero] at hbl
   have h3:=canon_len_le b (nv - 1) (by rw [pow32,<-hbl];exact b3)
   omega
  ·exact h0
 refine ⟨h32,hx0,?_⟩
 generalize Lib.bitLen x=L at *
 have e1:2 ^ (32 * (nv - 1)+L) * 2 ^ (32 - L)=4294967296 ^ nv:=by
  rw [<-Nat.pow_add,pow32]
  congr 1
  omega
 have e2:2 ^ (32 * (nv - 1)+L - 1) * 2 ^ (32 - L)=2147483648 * 4294967296 ^ (nv - 1):=by
  rw [<-Nat.pow_add,pow32,show (2147483648:Nat)=2 ^ 31 by decide,<-Nat.pow_add]
  congr 1
  omega
 rw [hbl] at b2 b3
 have c1:b * 2 ^ (32 - L)<4294967296 ^ nv:=by rw [<-e1];exact Nat.mul_lt_mul_of_pos_right b3 (Nat.two_pow_pos _)
 have c2:2147483648 * 4294967296 ^ (nv - 1)<=b * 2 ^ (32 - L):=by rw [<-e2];exact Nat.mul_le_mul_right _ b2
 generalize b * 2 ^ (32 - L)=B at *
 have hB:B≠0:=by
  have:0<4294967296 ^ (nv - 1):=Nat.pow_pos (by decide)
  omega
 have l1:=canon_len_le B nv c1
 have l2:=canon_len_gt B hB
 have hlen:(canon B).length=nv:=by
  rcases Nat.lt_or_ge (canon B).length nv with h|h
  ·exfalso
   have h3:=bval_lt (canon B) (canon_words B)
   rw [bval_canon] at h3
   have h4:4294967296 ^ (canon B).length<=4294967296 ^ (nv - 1):=Nat.pow_le_pow_right (by decide) (by omega)
   omega
  ·omega
 refine ⟨canon_words B,hlen,h2,bval_canon B,?_⟩
 have h5:=bval_take_succ (canon B) (nv - 1)
 rw [show nv - 1+1=nv by omega,List.take_of_length_le (by omega),bval_canon] at h5
 have h6:=bval_lt ((canon B).take (nv - 1)) (fun x hx=>canon_words B x (List.mem_of_mem_take hx))
 rw [List.length_take,Nat.min_eq_left (by omega)] at h6
 apply Classical.byContradiction
 intro hc
 have h7:4294967296 ^ (nv - 1) * ((canon B).getD (nv - 1) 0).toNat<=4294967296 ^ (nv - 1) * 2147483647:=Nat.mul_le_mul_left _ (by omega)
 omega
theorem long_start {A B nv:Nat} {vs:List Int} (hd:LDiv B nv vs) (hAB:B<=A) :
 nv<=(canon A).length/\LInv A B nv (canon A).length ((canon A).length+1 - nv) (canon A++[0]) (List.replicate ((canon A).length+1 - nv) 0) ((canon A).length+1 - nv):=by
 have hn:=hd.two
 have htop:=hd.top
 have h5:=bval_take_succ vs (nv - 1)
 rw [show nv - 1+1=nv by omega,List.take_of_length_le (by rw [hd.lv];exact Nat.le_refl _),hd.val] at h5
 have hB1:4294967296 ^ (nv - 1)<=B:=by
  have:4294967296 ^ (nv - 1) * 1<=4294967296 ^ (nv - 1) * (vs.getD (nv - 1) 0).toNat:=Nat.mul_le_mul_left _ (by omega)
  omega
 have hle:nv<=(canon A).length:=by
  apply Classical.byContradiction
  intro hc
  have h3:=bval_lt (canon A) (canon_words A)
  rw [bval_canon] at h3
  have h4:4294967296 ^ (canon A).length<=4294967296 ^ (nv - 1):=Nat.pow_le_pow_right (by decide) (by omega)
  omega
 refine ⟨hle,?_,?_,by simp,by simp,?_,?_⟩
 ·intro x hx
  rcases List.mem_append.1 hx with hx|hx
  ·exact canon_words A x hx
  ·simp at hx;omega
 ·intro x hx
  have:=(List.mem_replicate.1 hx).2;omega
 ·rw [List.drop_eq_nil_of_le (by simp),bval_append,bval_canon]
  simp [bval]
 ·rw [List.drop_append_of_le_length (by omega),bval_append]
  have h6:=bval_lt ((canon A).drop ((canon A).length+1 - nv)) (fun x hx=>canon_words A x (List.mem_of_mem_drop hx))
  rw [List.length_drop,show (canon A).length - ((canon A).length+1 - nv)=nv - 1 by omega] at h6
  simp [bval]
  omega
set_option maxRecDepth 100000
theorem kzb (c:Int) (h0:0<=c) (h1:c<=1):(c=0/\decide (c=1)=false/\(c==1)=false)\/(c=1/\decide (c=1)=true/\(c==1)=true):=by
 by_cases h:c=1
 ·subst h;exact .inr ⟨rfl,rfl,rfl⟩
 ·have:c=0:=by omega
  subst this;exact .inl ⟨rfl,rfl,rfl⟩
def TakesPost (B0 gu m cap:Nat) (us vs:List Int) (g j k:Nat) (w:World) (e:Ending) (w':World):Prop :=
 ∃ (out:List Int) (c:Nat),c<=1/\e=.returned (.bool (c==1))/\w'.ownsRow B0 145 1 (.slice (some ⟨gu,0,none⟩) m cap) m (out.map (Value.int .u32))/\Words out/\SameOut us out j k /\
  win out j k+g * bval vs=win us j k+4294967296 ^ k * c/\w.grownBy w' (some gu)
set_option maxHeartbeats 1000000 in
theorem takes_any (B0 gu m cap cw:Nat) (us vs:List Int) (g j:Nat) (vd:Option Addr) (vc:Nat) (w:World) (hown:w.ownsRow B0 145 1 (.slice (some ⟨gu,0,none⟩) m cap) m (us.map (Value.int .u32))) (hw:Words us) (hv:Rd .u32 w vd vc vs)
 (hne:∀ a,vd=some a->0<vs.length->some a.block≠some gu) (hg:g<4294967296) (hj:j+(vs.length+1)<=m) (hm:m<=2097152) :
 Calls Tryz.prog 197 #[.slice (some ⟨gu,j,none⟩) (vs.length+1:Nat) cw,.slice vd vs.length vc,.int .u64 g] w (TakesPost B0 gu m cap us vs g j (vs.length+1) w):=by
 have hwv:=words_of_rd hv
 have hlu:us.length=m:=by have:=hown.1;simpa using this
 have HV:=Lib.hid hv
 have HNE:=Lib.hid hne
 have HW:=Lib.hid hw
 have HWV:=Lib.hid hwv
 have HLU:=Lib.hid hlu
 clear hv hne hw hwv hlu
 obtain ⟨nv,hnv⟩:∃ nv,nv=vs.length:=⟨_,rfl⟩
 rw [<-hnv] at hj ⊢
 have HNV:=Lib.hid hnv
 clear hnv
 have hg0:(0:Int)<=(g:Int):=by omega
 have hg1:(g:Int)<=4294967295:=by omega
 go_enter Tryz.func197,Tryz.ntmps197
 go_wp2
 go_loopw [7,8,12] (fun c b i wr=>∃ (k:Nat) (cr bo:Int) (out:List Int),k<=nv+1/\i=.int .i64 k/\c=.int .u64 cr/\0<=cr/\cr<=4294967295/\b=.int .u32 bo/\0<=bo/\bo<=1 /\
  wr.ownsRow B0 145 1 (.slice (some ⟨gu,0,none⟩) m cap) m (out.map (Value.int .u32))/\Hid (Words out)/\Hid (SameOut us out j (nv+1)) /\
  Hid (bval out+4294967296 ^ j * (g * bval (vs.take k))=bval us+4294967296 ^ (j+k) * (cr.toNat+bo.toNat))/\Hid (k=nv+1->cr=0)/\Hid (w.grownBy wr (some gu)))
  (fun _ _ i _=>nv+1 - (intOf i).toNat)
 case atStart=>exact ⟨0,0,0,us,Nat.zero_le _,rfl,rfl,by omega,by omega,rfl,by omega,by omega,hown,HW.out,SameOut.refl _ _ _,by show _=_;simp [bval],(fun h=>by omega),World.grownBy.refl _ _⟩
 case round =>
  clear hown
  obtain ⟨k,cr,bo,out,hk,rfl,rfl,hc0,hc1,rfl,hb0,hb1,hown,HOW,HSO,hval,hlast,HG⟩:=hrel
  by_cases hlt:k<nv+1
  ·have hol:out.length=m:=by have:=hown.1;simpa using this
   have hin:j+k<m:=by omega
   have bo':=words_getD HOW.out (j+k)
   have hcell:wr.cell? ⟨gu,j+k,none⟩=some (.int .u32 (out.getD (j+k) 0)):=by
    rw [hown.cellAt (j+k) (by omega)]
    simp [List.getD,List.getElem?_eq_getElem (show j+k<out.length by omega)]
   have hfz:wr.frozen? ⟨gu,j+k,none⟩=false:=hown.frozenAt (j+k)
   obtain ⟨x,ex⟩:∃ o,o=out.getD (j+k) 0:=⟨_,rfl⟩
   rw [<-ex] at hcell bo'
   obtain ⟨bx0,bx1⟩:=bo'
   obtain ⟨by0,by1⟩:=words_getD HWV.out k
   obtain ⟨y,ey⟩:∃ y,y=vs.getD k 0:=⟨_,rfl⟩
   rw [<-ey] at by0 by1
   have hT:=take_step out vs (bval us) j k (g:Int) x y cr bo hg0 bx0 bx1 by0 hc0 hb0 hb1 (by omega) ex ey hval.out
   obtain ⟨mb0,mb1⟩:=mul_bound hg0 hg1 by0 by1
   have hmy:y=0->(g:Int) * y=0:=fun h=>by rw [h];simp
   obtain ⟨z,hz⟩:∃ z,z=(g:Int) * y:=⟨_,rfl⟩
   have hmul:(g:Int) * y=z:=hz.symm
   rw [hmul] at hT
   rw [<-hz] at mb0 mb1 hmy
   have EY:=Lib.hid ey
   have EX:=Lib.hid ex
   clear hz ex ey
   have hd0:0<=(cr+z) % 4294967296:=by omega
   have hd1:(cr+z) % 4294967296<=4294967295:=by omega
   have hq0:0<=(cr+z) / 4294967296:=by omega
   have hq1:(cr+z) / 4294967296<=4294967295:=by omega
   have hst:=hown.stored (j+k) (.int .u32 ((x - (cr+z) % 4294967296 - bo) % 4294967296))
   have hn0:0<=(x - (cr+z) % 4294967296 - bo) % 4294967296:=by omega
   have hn1:(x - (cr+z) % 4294967296 - bo) % 4294967296<=4294967295:=by omega
   have HON:Hid ((wr.setCell ⟨gu,j+k,none⟩ (.int .u32 ((x - (cr+z) % 4294967296 - bo) % 4294967296))).ownsRow B0 145 1 (.slice (some ⟨gu,0,none⟩) m cap) m ((out.set (j+k) ((x - (cr+z) % 4294967296 - bo) % 4294967296)).map (Value.int .u32))):=by
    show World.ownsRow _ _ _ _ _ _ _
    rw [List.map_set];exact hst.1
   have HGN:=Lib.hid (HG.out.trans hst.2)
   have hw3:=Lib.hid (words_set HOW.out (j+k) _ hn0 hn1)
   have hs3:=Lib.hid (HSO.out.set (j+k) ((x - (cr+z) % 4294967296 - bo) % 4294967296) (by omega) (by omega))
   obtain ⟨br0,br1⟩:=borrow_range x ((cr+z) % 4294967296) bo
   have HT:=Lib.hid hT
   have HRV:=Lib.hid (HV.out.grown HG.out HNE.out)
   clear hst hT hn0 hn1 hol hval hlast HOW HSO HG hown
   by_cases hky:k<nv
   ·obtain ⟨b2,o2,rfl,-,hcy⟩:=HRV.out.addr (by have:=HNV.out;omega)
    have hy:=hcy k (by have:=HNV.out;omega)
    rw [<-EY.out] at hy
    clear hcy hmy
    go_wp2_with fail
    refine (sub32_any x ((cr+z) % 4294967296) bo _ bx0 bx1 hd0 hd1 hb0 hb1).mono ?_
    rintro e w' ⟨rfl,rfl⟩
    go_wp2
    go_roundw
    case rel=>exact ⟨k+1,(cr+z) / 4294967296,borrowOf x ((cr+z) % 4294967296) bo,out.set (j+k) ((x - (cr+z) % 4294967296 - bo) % 4294967296),by omega,by go_num,rfl,hq0,hq1,rfl,br0,br1,HON.out,hw3,hs3,HT,(fun h=>by omega),HGN⟩
    case measure=>simp [intOf];omega
   ·obtain rfl:k=nv:=by omega
    have hy0:y=0:=by rw [EY.out];simp [List.getD,List.getElem?_eq_none (show vs.length<=k by have:=HNV.out;omega)]
    obtain rfl:=hmy hy0
    have hm1:(cr+0) % 4294967296=cr:=by omega
    have hm2:(cr+0) / 4294967296=0:=by omega
    rw [hm1] at HON HGN hw3 hs3 br0 br1 HT hd0 hd1
    rw [hm2] at HT
    clear hm1 hm2 hmul mb0 mb1 hy0 EY hq0 hq1 hmy
    go_wp2_with fail
    refine (sub32_any x cr bo _ bx0 bx1 hd0 hd1 hb0 hb1).mono ?_
    rintro e w' ⟨rfl,rfl⟩
    go_wp2
    go_roundw
    case rel=>exact ⟨k+1,0,borrowOf x cr bo,out.set (j+k) ((x - cr - bo) % 4294967296),by omega,by go_num,(by congr 1;omega),by omega,by omega,rfl,br0,br1,HON.out,hw3,hs3,HT,(fun h=>rfl),HGN⟩
    case measure=>simp [intOf]
  ·obtain rfl:k=nv+1:=by omega
   have hcz:=hlast.out rfl
   subst hcz
   have hfin:win out j (nv+1)+g * bval vs=win us j (nv+1)+4294967296 ^ (nv+1) * bo.toNat:=by
    have h1:=hval.out
    rw [List.take_of_length_le (by have:=HNV.out;omega)] at h1
    simp only [Int.toNat_zero,Nat.zero_add] at h1
    rw [Nat.pow_add,Nat.mul_assoc] at h1
    exact win_of us out j (nv+1) _ _ HSO.out (by rw [HLU.out];exact hj) h1
   have HF:=Lib.hid hfin
   have hown':=Lib.hid hown
   clear hfin hval hlast hown
   rcases kzb bo hb0 hb1 with ⟨rfl,h1,h2⟩|⟨rfl,h1,h2⟩
   ·go_wp2
    go_ret
    exact ⟨out,0,by omega,rfl,hown'.out,HOW.out,HSO.out,HF.out,HG.out⟩
   ·go_wp2
    go_ret
    exact ⟨out,1,by omega,rfl,hown'.out,HOW.out,HSO.out,HF.out,HG.out⟩
def GivesPost (B0 gu m cap:Nat) (us vs:List Int) (j k:Nat) (w:World) (e:Ending) (w':World):Prop :=
 ∃ (out:List Int) (c:Nat),c<=1/\e=.returned (.tuple #[])/\w'.ownsRow B0 145 1 (.slice (some ⟨gu,0,none⟩) m cap) m (out.map (Value.int .u32))/\Words out/\SameOut us out j k /\
  win out j k+4294967296 ^ k * c=win us j k+bval vs/\w.grownBy w' (some gu)
set_option maxHeartbeats 1000000 in
theorem gives_any (B0 gu m cap cw:Nat) (us vs:List Int) (j:Nat) (vd:Option Addr) (vc:Nat) (w:World) (hown:w.ownsRow B0 145 1 (.slice (some ⟨gu,0,none⟩) m cap) m (us.map (Value.int .u32))) (hw:Words us) (hv:Rd .u32 w vd vc vs)
 (hne:∀ a,vd=some a->0<vs.length->some a.block≠some gu) (hj:j+(vs.length+1)<=m) (hm:m<=2097152) :
 Calls Tryz.prog 198 #[.slice (some ⟨gu,j,none⟩) (vs.length+1:Nat) cw,.slice vd vs.length vc] w (GivesPost B0 gu m cap us vs j (vs.length+1) w):=by
 have hwv:=words_of_rd hv
 have hlu:us.length=m:=by have:=hown.1;simpa using this
 have HV:=Lib.hid hv
 have HNE:=Lib.hid hne
 have HW:=Lib.hid hw
 have HWV:=Lib.hid hwv
 have HLU:=Lib.hid hlu
 clear hv hne hw hwv hlu
 obtain ⟨nv,hnv⟩:∃ nv,nv=vs.length:=⟨_,rfl⟩
 rw [<-hnv] at hj ⊢
 have HNV:=Lib.hid hnv
 clear hnv
 go_enter Tryz.func198,Tryz.ntmps198
 go_wp2
 go_loopw [4,9] (fun b i wr=>∃ (k:Nat) (bo:Int) (out:List Int),k<=nv+1/\i=.int .i64 k/\b=.int .u32 bo/\0<=bo/\bo<=1 /\
  wr.ownsRow B0 145 1 (.slice (some ⟨gu,0,none⟩) m cap) m (out.map (Value.int .u32))/\Hid (Words out)/\Hid (SameOut us out j (nv+1)) /\
  Hid (bval out+4294967296 ^ (j+k) * bo.toNat=bval us+4294967296 ^ j * bval (vs.take k))/\Hid (w.grownBy wr (some gu)))
  (fun _ i _=>nv+1 - (intOf i).toNat)
 case atStart=>exact ⟨0,0,us,Nat.zero_le _,rfl,rfl,by omega,by omega,hown,HW.out,SameOut.refl _ _ _,by show _=_;simp [bval],World.grownBy.refl _ _⟩
 case round =>
  clear hown
  obtain ⟨k,bo,out,hk,rfl,rfl,hb0,hb1,hown,HOW,HSO,hval,HG⟩:=hrel
  by_cases hlt:k<nv+1
  ·have hol:out.length=m:=by have:=hown.1;simpa using this
   have hin:j+k<m:=by omega
   have bo':=words_getD HOW.out (j+k)
   have hcell:wr.cell? ⟨gu,j+k,none⟩=some (.int .u32 (out.getD (j+k) 0)):=by
    rw [hown.cellAt (j+k) (by omega)]
    simp [List.getD,List.getElem?_eq_getElem (show j+k<out.length by omega)]
   have hfz:wr.frozen? ⟨gu,j+k,none⟩=false:=hown.frozenAt (j+k)
   obtain ⟨x,ex⟩:∃ o,o=out.getD (j+k) 0:=⟨_,rfl⟩
   rw [<-ex] at hcell bo'
   obtain ⟨bx0,bx1⟩:=bo'
   obtain ⟨by0,by1⟩:=words_getD HWV.out k
   obtain ⟨y,ey⟩:∃ y,y=vs.getD k 0:=⟨_,rfl⟩
   rw [<-ey] at by0 by1
   have hT:=give_step out vs (bval us) j k x y bo bx0 by0 hb0 (by omega) ex ey hval.out
   have EY:=Lib.hid ey
   clear ex ey
   have hq0:0<=(x+y+bo) / 4294967296:=by omega
   have hq1:(x+y+bo) / 4294967296<=1:=by omega
   have hst:=hown.stored (j+k) (.int .u32 ((x+y+bo) % 4294967296))
   have HON:Hid ((wr.setCell ⟨gu,j+k,none⟩ (.int .u32 ((x+y+bo) % 4294967296))).ownsRow B0 145 1 (.slice (some ⟨gu,0,none⟩) m cap) m ((out.set (j+k) ((x+y+bo) % 4294967296)).map (Value.int .u32))):=by
    show World.ownsRow _ _ _ _ _ _ _
    rw [List.map_set];exact hst.1
   have HGN:=Lib.hid (HG.out.trans hst.2)
   have hw3:=Lib.hid (words_set HOW.out (j+k) ((x+y+bo) % 4294967296) (by omega) (by omega))
   have hs3:=Lib.hid (HSO.out.set (j+k) ((x+y+bo) % 4294967296) (by omega) (by omega))
   have HT:=Lib.hid hT
   have HRV:=Lib.hid (HV.out.grown HG.out HNE.out)
   clear hst hT hol hval HOW HSO HG hown
   by_cases hky:k<nv
   ·obtain ⟨b2,o2,rfl,-,hcy⟩:=HRV.out.addr (by have:=HNV.out;omega)
    have hy:=hcy k (by have:=HNV.out;omega)
    rw [<-EY.out] at hy
    clear hcy
    go_wp2_with fail
    refine (add32_any x y bo _ bx0 bx1 by0 by1 hb0 hb1).mono ?_
    rintro e w' ⟨rfl,rfl⟩
    go_wp2
    go_roundw
    case rel=>exact ⟨k+1,(x+y+bo) / 4294967296,out.set (j+k) ((x+y+bo) % 4294967296),by omega,by go_num,rfl,hq0,hq1,HON.out,hw3,hs3,HT,HGN⟩
    case measure=>simp [intOf];omega
   ·obtain rfl:k=nv:=by omega
    have hy0:y=0:=by rw [EY.out];simp [List.getD,List.getElem?_eq_none (show vs.length<=k by have:=HNV.out;omega)]
    subst hy0
    clear EY
    go_wp2_with fail
    refine (add32_any x 0 bo _ bx0 bx1 by0 by1 hb0 hb1).mono ?_
    rintro e w' ⟨rfl,rfl⟩
    simp only [Int.add_zero] at HON HGN hw3 hs3 HT hq0 hq1
    go_wp2
    go_roundw
    case rel=>exact ⟨k+1,(x+bo) / 4294967296,out.set (j+k) ((x+bo) % 4294967296),by omega,by go_num,(by first|rfl|simp),hq0,hq1,HON.out,hw3,hs3,HT,HGN⟩
    case measure=>simp [intOf]
  ·obtain rfl:k=nv+1:=by omega
   have hfin:win out j (nv+1)+4294967296 ^ (nv+1) * bo.toNat=win us j (nv+1)+bval vs:=by
    have h1:=hval.out
    rw [List.take_of_length_le (by have:=HNV.out;omega)] at h1
    rw [Nat.pow_add,Nat.mul_assoc] at h1
    exact win_of us out j (nv+1) _ _ HSO.out (by rw [HLU.out];exact hj) h1
   have HF:=Lib.hid hfin
   have hown':=Lib.hid hown
   clear hfin hval hown
   go_wp2
   go_end0
   exact ⟨out,bo.toNat,by omega,rfl,hown'.out,HOW.out,HSO.out,HF.out,HG.out⟩
set_option maxRecDepth 100000
set_option maxHeartbeats 1000000 in
theorem bigAdd_ge (ad bd:Option Addr) (ca cb:Nat) (xs ys:List Int) (w:World) (h:Rd .u32 w ad ca xs) (g:Rd .u32 w bd cb ys) (hl:xs.length<=1073741824) (hyx:ys.length<=xs.length) :
 Calls Tryz.prog 163 #[.slice ad xs.length ca,.slice bd ys.length cb] w (WordsPost (bval xs+bval ys) w):=by
 have hwx:=words_of_rd h
 have hwy:=words_of_rd g
 have H:=Lib.hid h
 have G:=Lib.hid g
 have HWX:=Lib.hid hwx
 have HWY:=Lib.hid hwy
 clear h g hwx hwy
 have hlt:decide ((xs.length:Int)<(ys.length:Int))=false:=by simp;omega
 go_enter Tryz.func163,Tryz.ntmps163
 obtain ⟨i0,hi,hz0,hz1,hz2⟩:=info_parts Tryz.info_u32
 have HI:=Lib.hid hi
 have HZ0:=Lib.hid hz0
 have HZ1:=Lib.hid hz1
 clear hi hz0 hz1
 go_wp2_with (first
  | (at_make;refine wpList_make_own _ rfl _ _ 169 rfl w.heap.size 145 i0 (.int .u32 0) 1 Tryz.underlying169 HI.out HZ0.out HZ1.out .i64 .i64 _ (xs.length+1) rfl rfl (by omega) (by rw [hz2];omega) (by unfold maxLen;omega) (Nat.le_refl _) ?_))
 intro w1 hown hg
 have hb:Below w.heap.size w w1:=Gx.grown_below hg (Nat.le_refl _) (by simp)
 clear hg
 obtain ⟨v0,hv0⟩:∃ v0,v0=Value.slice (some ⟨w.heap.size,0,none⟩) 0 (xs.length+1):=⟨_,rfl⟩
 rw [<-hv0] at hown ⊢
 clear hv0
 go_wp2
 go_loopw [5,6,23] (fun v c i wr=>∃ (k:Nat) (out:List Int) (cr:Int),k<=xs.length/\i=.int .i64 k/\c=.int .u32 cr/\0<=cr/\cr<=1 /\
  wr.ownsRow w.heap.size 145 1 v k (out.map (Value.int .u32))/\out.length=k/\Words out/\Hid (bval out+4294967296 ^ k * cr.toNat=bval (xs.take k)+bval (ys.take k))/\Below w.heap.size w wr)
  (fun _ _ i _=>xs.length - (intOf i).toNat)
 case atStart=>exact ⟨0,[],0,Nat.zero_le _,rfl,rfl,by omega,by omega,hown,rfl,fun x hx=>by simp at hx,rfl,hb⟩
 case round =>
  obtain ⟨k,out,cr,hk,rfl,rfl,hc0,hc1,hown1,hol,how,hval,hb1⟩:=hrel
  have HOL:=Lib.hid hol
  have HOW:=Lib.hid how
  clear hol how hown hb
  have hsz:=hb1.size
  by_cases hkx:k<xs.length
  ·obtain ⟨b1,o1,rfl,-,hcx⟩:=(H.out.keep hb1).addr (by omega)
   have hx:=hcx k hkx
   clear hcx
   have bx:=words_getD HWX.out k
   obtain ⟨x,ex⟩:∃ x,x=xs.getD k 0:=⟨_,rfl⟩
   rw [<-ex] at hx bx
   have EX:=Lib.hid ex;clear ex
   have by_:=words_getD HWY.out k
   obtain ⟨y,ey⟩:∃ y,y=ys.getD k 0:=⟨_,rfl⟩
   rw [<-ey] at by_
   have EY:=Lib.hid ey;clear ey
   obtain ⟨bx0,bx1⟩:=bx
   obtain ⟨by0,by1⟩:=by_
   have hs0:0<=(x+y+cr) % 4294967296:=by omega
   have hs1:(x+y+cr) % 4294967296<=4294967295:=by omega
   have hq0:0<=(x+y+cr) / 4294967296:=by omega
   have hq1:(x+y+cr) / 4294967296<=1:=by omega
   have hT:Hid (bval (out++[(x+y+cr) % 4294967296])+4294967296 ^ (k+1) * ((x+y+cr) / 4294967296).toNat=bval (xs.take (k+1))+bval (ys.take (k+1))):=by
    show _=_
    rw [bval_append,bval_take_succ,bval_take_succ,<-EX.out,<-EY.out,HOL.out,Nat.pow_succ]
    have hv:=hval.out
    have e1:x.toNat+y.toNat+cr.toNat=((x+y+cr) % 4294967296).toNat+4294967296 * ((x+y+cr) / 4294967296).toNat:=by omega
    simp only [bval,Nat.mul_zero,Nat.add_zero]
    generalize 4294967296 ^ k=q at *
    have e2:q * x.toNat+q * y.toNat+q * cr.toNat=q * ((x+y+cr) % 4294967296).toNat+q * 4294967296 * ((x+y+cr) / 4294967296).toNat:=by
     rw [Nat.mul_assoc,<-Nat.mul_add,<-Nat.mul_add,<-Nat.mul_add,e1]
    omega
   by_cases hky:k<ys.length
   ·obtain ⟨b2,o2,rfl,-,hcy⟩:=(G.out.keep hb1).addr (by omega)
    have hy:=hcy k hky
    clear hcy
    rw [<-EY.out] at hy
    go_wp2_with (first
     | (go_at_call 182;refine (add32_any x y cr _ bx0 bx1 by0 by1 hc0 hc1).mono ?_;rintro e w' ⟨rfl,rfl⟩)
     | (at_builtin;refine Gx.wpList_push wr rfl _ _ 169 rfl w.heap.size 145 (.int .u32 0) 1 4 Tryz.underlying169 Tryz.info_u32 rfl (by decide) _ _ _ [.int .u32 ((x+y+cr) % 4294967296)] _ rfl rfl (by exact hown1) rfl rfl ?a2 ?a3 ?a4 ?a5 ?_))
    case a2=>intro u hu;simp at hu;subst hu;rfl
    case a3=>omega
    case a4=>omega
    case a5=>omega
    intro v' w' hown2 hg2 _ _
    have hb2:Below w.heap.size w w':=hb1.grown hg2 hsz (fun k e=>(hown1.lt k e).1)
    have hown3:w'.ownsRow w.heap.size 145 1 v' (k+1) ((out++[(x+y+cr) % 4294967296]).map (Value.int .u32)):=by
     rw [List.map_append];exact hown2
    have hW2:Words (out++[(x+y+cr) % 4294967296]):=by
     intro z hz
     rcases List.mem_append.1 hz with hz|hz
     ·exact HOW.out z hz
     ·simp at hz;omega
    clear hown1 hown2 hg2
    go_wp2
    go_roundw
    case rel=>exact ⟨k+1,out++[(x+y+cr) % 4294967296],(x+y+cr) / 4294967296,by omega,by go_num,rfl,hq0,hq1,hown3,by simp [HOL.out],hW2,hT,hb2⟩
    case measure=>simp [intOf];omega
   ·have hy0:y=0:=by rw [EY.out];simp [List.getD,List.getElem?_eq_none (show ys.length<=k by omega)]
    subst hy0
    simp only [Int.add_zero] at hs0 hs1 hq0 hq1 hT
    go_wp2_with (first
     | (go_at_call 182;refine (add32_any x 0 cr _ bx0 bx1 by0 by1 hc0 hc1).mono ?_;rintro e w' ⟨rfl,rfl⟩)
     | (at_builtin;refine Gx.wpList_push wr rfl _ _ 169 rfl w.heap.size 145 (.int .u32 0) 1 4 Tryz.underlying169 Tryz.info_u32 rfl (by decide) _ _ _ [.int .u32 ((x+cr) % 4294967296)] _ rfl rfl (by exact hown1) rfl rfl ?b2 ?b3 ?b4 ?b5 ?_))
    case b2=>intro u hu;simp at hu;subst hu;rfl
    case b3=>omega
    case b4=>omega
    case b5=>omega
    intro v' w' hown2 hg2 _ _
    have hb2:Below w.heap.size w w':=hb1.grown hg2 hsz (fun k e=>(hown1.lt k e).1)
    have hown3:w'.ownsRow w.heap.size 145 1 v' (k+1) ((out++[(x+cr) % 4294967296]).map (Value.int .u32)):=by
     rw [List.map_append];exact hown2
    have hW2:Words (out++[(x+cr) % 4294967296]):=by
     intro z hz
     rcases List.mem_append.1 hz with hz|hz
     ·exact HOW.out z hz
     ·simp at hz;omega
    clear hown1 hown2 hg2
    go_wp2
    go_roundw
    case rel=>exact ⟨k+1,out++[(x+cr) % 4294967296],(x+cr) / 4294967296,by omega,by go_num,rfl,hq0,hq1,hown3,by simp [HOL.out],hW2,hT,hb2⟩
    case measure=>simp [intOf];omega
  ·obtain rfl:k=xs.length:=by omega
   go_wp2_with (first
    | (at_builtin;refine Gx.wpList_push wr rfl _ _ 169 rfl w.heap.size 145 (.int .u32 0) 1 4 Tryz.underlying169 Tryz.info_u32 rfl (by decide) _ _ _ [.int .u32 cr] _ rfl rfl (by exact hown1) rfl rfl ?d2 ?d3 ?d4 ?d5 ?_))
   case d2=>intro u hu;simp at hu;subst hu;rfl
   case d3=>omega
   case d4=>omega
   case d5=>omega
   intro v' w' hown2 hg2 _ _
   have hb2:Below w.heap.size w w':=hb1.grown hg2 hsz (fun k e=>(hown1.lt k e).1)
   have hW2:Words (out++[cr]):=by
    intro z hz
    rcases List.mem_append.1 hz with hz|hz
    ·exact HOW.out z hz
    ·simp at hz;omega
   obtain ⟨ad',cap',rfl,hr⟩:=Gx.Rd.own (k:=.u32) (xs:=out++[cr]) (by simpa using hown2) (wf_words hW2)
   have hlen:(out++[cr]).length=xs.length+1:=by simp [HOL.out]
   have hfin:bval (out++[cr])=bval xs+bval ys:=by
    rw [bval_append,HOL.out]
    have:=hval.out
    rw [List.take_of_length_le (Nat.le_refl _),List.take_of_length_le (by omega)] at this
    simp only [bval,Nat.mul_zero,Nat.add_zero]
    omega
   have HF:=Lib.hid hfin
   have HL:=Lib.hid hlen
   have HR:=Lib.hid hr
   clear hown1 hown2 hg2 hW2 hfin hlen hr
   generalize out++[cr]=zs at *
   go_wp2_with (first
    | (go_at_call 157;refine (trimmed_any ad' cap' zs _ HR.out (by rw [HL.out];omega)).mono ?_;rintro e w' ⟨rfl,rfl⟩))
   go_ret
   refine ⟨ad',cap',?_,?_,hb2⟩
   ·rw [<-HF.out];rfl
   ·rw [<-HF.out];exact HR.out.trim
set_option maxHeartbeats 1000000 in
theorem bigAdd_lt (ad bd:Option Addr) (ca cb:Nat) (xs ys:List Int) (w:World) (h:Rd .u32 w ad ca xs) (g:Rd .u32 w bd cb ys) (hl:ys.length<=1073741824) (hyx:xs.length<ys.length) :
 Calls Tryz.prog 163 #[.slice ad xs.length ca,.slice bd ys.length cb] w (WordsPost (bval xs+bval ys) w):=by
 have hwx:=words_of_rd g
 have hwy:=words_of_rd h
 have H:=Lib.hid g
 have G:=Lib.hid h
 have HWX:=Lib.hid hwx
 have HWY:=Lib.hid hwy
 clear h g hwx hwy
 have hlt:decide ((xs.length:Int)<(ys.length:Int))=true:=by simp;omega
 go_enter Tryz.func163,Tryz.ntmps163
 obtain ⟨i0,hi,hz0,hz1,hz2⟩:=info_parts Tryz.info_u32
 have HI:=Lib.hid hi
 have HZ0:=Lib.hid hz0
 have HZ1:=Lib.hid hz1
 clear hi hz0 hz1
 go_wp2_with (first
  | (at_make;refine wpList_make_own _ rfl _ _ 169 rfl w.heap.size 145 i0 (.int .u32 0) 1 Tryz.underlying169 HI.out HZ0.out HZ1.out .i64 .i64 _ (ys.length+1) rfl rfl (by omega) (by rw [hz2];omega) (by unfold maxLen;omega) (Nat.le_refl _) ?_))
 intro w1 hown hg
 have hb:Below w.heap.size w w1:=Gx.grown_below hg (Nat.le_refl _) (by simp)
 clear hg
 obtain ⟨v0,hv0⟩:∃ v0,v0=Value.slice (some ⟨w.heap.size,0,none⟩) 0 (ys.length+1):=⟨_,rfl⟩
 rw [<-hv0] at hown ⊢
 clear hv0
 go_wp2
 go_loopw [5,6,23] (fun v c i wr=>∃ (k:Nat) (out:List Int) (cr:Int),k<=ys.length/\i=.int .i64 k/\c=.int .u32 cr/\0<=cr/\cr<=1 /\
  wr.ownsRow w.heap.size 145 1 v k (out.map (Value.int .u32))/\out.length=k/\Words out/\Hid (bval out+4294967296 ^ k * cr.toNat=bval (ys.take k)+bval (xs.take k))/\Below w.heap.size w wr)
  (fun _ _ i _=>ys.length - (intOf i).toNat)
 case atStart=>exact ⟨0,[],0,Nat.zero_le _,rfl,rfl,by omega,by omega,hown,rfl,fun x hx=>by simp at hx,rfl,hb⟩
 case round =>
  obtain ⟨k,out,cr,hk,rfl,rfl,hc0,hc1,hown1,hol,how,hval,hb1⟩:=hrel
  have HOL:=Lib.hid hol
  have HOW:=Lib.hid how
  clear hol how hown hb
  have hsz:=hb1.size
  by_cases hkx:k<ys.length
  ·obtain ⟨b1,o1,rfl,-,hcx⟩:=(H.out.keep hb1).addr (by omega)
   have hx:=hcx k hkx
   clear hcx
   have bx:=words_getD HWX.out k
   obtain ⟨x,ex⟩:∃ x,x=ys.getD k 0:=⟨_,rfl⟩
   rw [<-ex] at hx bx
   have EX:=Lib.hid ex;clear ex
   have by_:=words_getD HWY.out k
   obtain ⟨y,ey⟩:∃ y,y=xs.getD k 0:=⟨_,rfl⟩
   rw [<-ey] at by_
   have EY:=Lib.hid ey;clear ey
   obtain ⟨bx0,bx1⟩:=bx
   obtain ⟨by0,by1⟩:=by_
   have hs0:0<=(x+y+cr) % 4294967296:=by omega
   have hs1:(x+y+cr) % 4294967296<=4294967295:=by omega
   have hq0:0<=(x+y+cr) / 4294967296:=by omega
   have hq1:(x+y+cr) / 4294967296<=1:=by omega
   have hT:Hid (bval (out++[(x+y+cr) % 4294967296])+4294967296 ^ (k+1) * ((x+y+cr) / 4294967296).toNat=bval (ys.take (k+1))+bval (xs.take (k+1))):=by
    show _=_
    rw [bval_append,bval_take_succ,bval_take_succ,<-EX.out,<-EY.out,HOL.out,Nat.pow_succ]
    have hv:=hval.out
    have e1:x.toNat+y.toNat+cr.toNat=((x+y+cr) % 4294967296).toNat+4294967296 * ((x+y+cr) / 4294967296).toNat:=by omega
    simp only [bval,Nat.mul_zero,Nat.add_zero]
    generalize 4294967296 ^ k=q at *
    have e2:q * x.toNat+q * y.toNat+q * cr.toNat=q * ((x+y+cr) % 4294967296).toNat+q * 4294967296 * ((x+y+cr) / 4294967296).toNat:=by
     rw [Nat.mul_assoc,<-Nat.mul_add,<-Nat.mul_add,<-Nat.mul_add,e1]
    omega
   by_cases hky:k<xs.length
   ·obtain ⟨b2,o2,rfl,-,hcy⟩:=(G.out.keep hb1).addr (by omega)
    have hy:=hcy k hky
    clear hcy
    rw [<-EY.out] at hy
    go_wp2_with (first
     | (go_at_call 182;refine (add32_any x y cr _ bx0 bx1 by0 by1 hc0 hc1).mono ?_;rintro e w' ⟨rfl,rfl⟩)
     | (at_builtin;refine Gx.wpList_push wr rfl _ _ 169 rfl w.heap.size 145 (.int .u32 0) 1 4 Tryz.underlying169 Tryz.info_u32 rfl (by decide) _ _ _ [.int .u32 ((x+y+cr) % 4294967296)] _ rfl rfl (by exact hown1) rfl rfl ?a2 ?a3 ?a4 ?a5 ?_))
    case a2=>intro u hu;simp at hu;subst hu;rfl
    case a3=>omega
    case a4=>omega
    case a5=>omega
    intro v' w' hown2 hg2 _ _
    have hb2:Below w.heap.size w w':=hb1.grown hg2 hsz (fun k e=>(hown1.lt k e).1)
    have hown3:w'.ownsRow w.heap.size 145 1 v' (k+1) ((out++[(x+y+cr) % 4294967296]).map (Value.int .u32)):=by
     rw [List.map_append];exact hown2
    have hW2:Words (out++[(x+y+cr) % 4294967296]):=by
     intro z hz
     rcases List.mem_append.1 hz with hz|hz
     ·exact HOW.out z hz
     ·simp at hz;omega
    clear hown1 hown2 hg2
    go_wp2
    go_roundw
    case rel=>exact ⟨k+1,out++[(x+y+cr) % 4294967296],(x+y+cr) / 4294967296,by omega,by go_num,rfl,hq0,hq1,hown3,by simp [HOL.out],hW2,hT,hb2⟩
    case measure=>simp [intOf];omega
   ·have hy0:y=0:=by rw [EY.out];simp [List.getD,List.getElem?_eq_none (show xs.length<=k by omega)]
    subst hy0
    simp only [Int.add_zero] at hs0 hs1 hq0 hq1 hT
    go_wp2_with (first
     | (go_at_call 182;refine (add32_any x 0 cr _ bx0 bx1 by0 by1 hc0 hc1).mono ?_;rintro e w' ⟨rfl,rfl⟩)
     | (at_builtin;refine Gx.wpList_push wr rfl _ _ 169 rfl w.heap.size 145 (.int .u32 0) 1 4 Tryz.underlying169 Tryz.info_u32 rfl (by decide) _ _ _ [.int .u32 ((x+cr) % 4294967296)] _ rfl rfl (by exact hown1) rfl rfl ?b2 ?b3 ?b4 ?b5 ?_))
    case b2=>intro u hu;simp at hu;subst hu;rfl
    case b3=>omega
    case b4=>omega
    case b5=>omega
    intro v' w' hown2 hg2 _ _
    have hb2:Below w.heap.size w w':=hb1.grown hg2 hsz (fun k e=>(hown1.lt k e).1)
    have hown3:w'.ownsRow w.heap.size 145 1 v' (k+1) ((out++[(x+cr) % 4294967296]).map (Value.int .u32)):=by
     rw [List.map_append];exact hown2
    have hW2:Words (out++[(x+cr) % 4294967296]):=by
     intro z hz
     rcases List.mem_append.1 hz with hz|hz
     ·exact HOW.out z hz
     ·simp at hz;omega
    clear hown1 hown2 hg2
    go_wp2
    go_roundw
    case rel=>exact ⟨k+1,out++[(x+cr) % 4294967296],(x+cr) / 4294967296,by omega,by go_num,rfl,hq0,hq1,hown3,by simp [HOL.out],hW2,hT,hb2⟩
    case measure=>simp [intOf];omega
  ·obtain rfl:k=ys.length:=by omega
   go_wp2_with (first
    | (at_builtin;refine Gx.wpList_push wr rfl _ _ 169 rfl w.heap.size 145 (.int .u32 0) 1 4 Tryz.underlying169 Tryz.info_u32 rfl (by decide) _ _ _ [.int .u32 cr] _ rfl rfl (by exact hown1) rfl rfl ?d2 ?d3 ?d4 ?d5 ?_))
   case d2=>intro u hu;simp at hu;subst hu;rfl
   case d3=>omega
   case d4=>omega
   case d5=>omega
   intro v' w' hown2 hg2 _ _
   have hb2:Below w.heap.size w w':=hb1.grown hg2 hsz (fun k e=>(hown1.lt k e).1)
   have hW2:Words (out++[cr]):=by
    intro z hz
    rcases List.mem_append.1 hz with hz|hz
    ·exact HOW.out z hz
    ·simp at hz;omega
   obtain ⟨ad',cap',rfl,hr⟩:=Gx.Rd.own (k:=.u32) (xs:=out++[cr]) (by simpa using hown2) (wf_words hW2)
   have hlen:(out++[cr]).length=ys.length+1:=by simp [HOL.out]
   have hfin:bval (out++[cr])=bval xs+bval ys:=by
    rw [bval_append,HOL.out]
    have:=hval.out
    rw [List.take_of_length_le (Nat.le_refl _),List.take_of_length_le (by omega)] at this
    simp only [bval,Nat.mul_zero,Nat.add_zero]
    omega
   have HF:=Lib.hid hfin
   have HL:=Lib.hid hlen
   have HR:=Lib.hid hr
   clear hown1 hown2 hg2 hW2 hfin hlen hr
   generalize out++[cr]=zs at *
   go_wp2_with (first
    | (go_at_call 157;refine (trimmed_any ad' cap' zs _ HR.out (by rw [HL.out];omega)).mono ?_;rintro e w' ⟨rfl,rfl⟩))
   go_ret
   refine ⟨ad',cap',?_,?_,hb2⟩
   ·rw [<-HF.out];rfl
   ·rw [<-HF.out];exact HR.out.trim
theorem bigAdd_any (ad bd:Option Addr) (ca cb:Nat) (xs ys:List Int) (w:World) (h:Rd .u32 w ad ca xs) (g:Rd .u32 w bd cb ys) (hl:xs.length<=1073741824) (hl2:ys.length<=1073741824) :
 Calls Tryz.prog 163 #[.slice ad xs.length ca,.slice bd ys.length cb] w (WordsPost (bval xs+bval ys) w):=by
 rcases Nat.lt_or_ge xs.length ys.length with hc|hc
 ·exact bigAdd_lt ad bd ca cb xs ys w h g hl2 hc
 ·exact bigAdd_ge ad bd ca cb xs ys w h g hl hc
set_option maxRecDepth 100000
theorem canon_of_big (a:List Int) (h:Words a) (hb:4294967296 ^ (a.length - 1)<=bval a):canon (bval a)=a:=by
 refine canon_bval a h ?_
 intro x hx h0
 subst h0
 obtain ⟨b,rfl⟩:=List.getLast?_eq_some_iff.1 hx
 rw [bval_append] at hb
 have:=bval_lt b (fun y hy=>h y (by simp [hy]))
 simp [bval] at hb
 omega
set_option maxHeartbeats 1000000 in
theorem bigLeft_any (ad:Option Addr) (ca v n:Nat) (w:World) (h:Rd .u32 w ad ca (canon v)) (hl:(canon v).length<=1048576) (hv:v≠0) (hn:n<=31) :
 Calls Tryz.prog 158 #[.slice ad (canon v).length ca,.int .i64 n] w (WordsPost (v * 2 ^ n) w):=by
 obtain ⟨xs,hxs⟩:∃ xs,xs=canon v:=⟨_,rfl⟩
 have hbv:bval xs=v:=by rw [hxs,bval_canon]
 have hgt:=canon_len_gt v hv
 rw [<-hxs] at h hl hgt ⊢
 have hwx:=words_of_rd h
 have H:=Lib.hid h
 have HWX:=Lib.hid hwx
 have HBV:=Lib.hid hbv
 have HGT:=Lib.hid hgt
 clear h hwx hxs hbv hgt
 go_enter Tryz.func158,Tryz.ntmps158
 obtain ⟨i0,hi,hz0,hz1,hz2⟩:=info_parts Tryz.info_u32
 have HI:=Lib.hid hi
 have HZ0:=Lib.hid hz0
 have HZ1:=Lib.hid hz1
 clear hi hz0 hz1
 go_wp2_with (first
  | (at_make;refine wpList_make_own _ rfl _ _ 169 rfl w.heap.size 145 i0 (.int .u32 0) 1 Tryz.underlying169 HI.out HZ0.out HZ1.out .i64 .i64 _ (xs.length+2) rfl rfl (by omega) (by rw [hz2];omega) (by unfold maxLen;omega) (Nat.le_refl _) ?_))
 intro w1 hown hg
 have hb:Below w.heap.size w w1:=Gx.grown_below hg (Nat.le_refl _) (by simp)
 clear hg
 obtain ⟨v0,hv0⟩:∃ v0,v0=Value.slice (some ⟨w.heap.size,0,none⟩) 0 (xs.length+2):=⟨_,rfl⟩
 rw [<-hv0] at hown ⊢
 clear hv0
 have a1:IntKind.u64.wrap (n:Int)=(n:Int):=by rw [IntKind.wrap_u64];omega
 have a2:IntKind.i64.wrap (32 - (n:Int))=((32 - n:Nat):Int):=by rw [IntKind.wrap_i64];omega
 have a3:IntKind.u64.wrap ((32 - n:Nat):Int)=((32 - n:Nat):Int):=by rw [IntKind.wrap_u64];omega
 have a4:(32:Int) - (n:Int)=((32 - n:Nat):Int):=by omega
 have a5:min n 32=n:=by omega
 have a6:min (32 - n) 64=32 - n:=by omega
 go_wp2
 go_loopw [5,6,15] (fun v c i wr=>∃ (k:Nat) (out:List Int) (low:Nat),k<=xs.length/\i=.int .i64 k/\c=.int .u32 low/\low<4294967296/\Hid (low<2 ^ n) /\
  wr.ownsRow w.heap.size 145 1 v k (out.map (Value.int .u32))/\Hid (out.length=k)/\Hid (Words out)/\Hid (bval out+4294967296 ^ k * low=bval (xs.take k) * 2 ^ n)/\Below w.heap.size w wr)
  (fun _ _ i _=>xs.length - (intOf i).toNat)
 case atStart=>exact ⟨0,[],0,Nat.zero_le _,rfl,rfl,by decide,Nat.two_pow_pos n,hown,rfl,fun x hx=>by simp at hx,by show _=_;simp [bval],hb⟩
 case round =>
  obtain ⟨k,out,low,hk,rfl,rfl,hlw,hln,hown1,hol,how,hval,hb1⟩:=hrel
  clear hown hb
  have hsz:=hb1.size
  by_cases hkx:k<xs.length
  ·obtain ⟨b1,o1,rfl,-,hcx⟩:=(H.out.keep hb1).addr (by omega)
   have hx:=hcx k hkx
   clear hcx
   obtain ⟨bx0,bx1⟩:=words_getD HWX.out k
   obtain ⟨x,ex⟩:∃ x:Nat,(x:Int)=xs.getD k 0:=⟨(xs.getD k 0).toNat,by omega⟩
   rw [<-ex] at hx bx1
   have EX:=Lib.hid ex
   clear ex bx0
   obtain ⟨e1,e2,e3,e4⟩:=left_word n x low hn (by omega) hln.out
   obtain ⟨y,hy⟩:∃ y,y=x * 2 ^ n % 4294967296+low:=⟨_,rfl⟩
   obtain ⟨z,hz⟩:∃ z,z=x / 2 ^ (32 - n):=⟨_,rfl⟩
   have hzi:(x:Int) / 2 ^ (32 - n)=(z:Int):=by rw [hz,Int.natCast_ediv,Int.natCast_pow];rfl
   have hzl:z<=x:=by rw [hz];exact Nat.div_le_self _ _
   rw [<-hy] at e1 e3 e4
   rw [<-hz] at e2 e4
   have e5:(z:Int) % 4294967296=(z:Int):=by omega
   have E2:=Lib.hid e2
   have E4:=Lib.hid e4
   clear hy hz e2 e4
   have hT:Hid (bval (out++[(y:Int)])+4294967296 ^ (k+1) * z=bval (xs.take (k+1)) * 2 ^ n):=by
    show _=_
    rw [bval_append,bval_take_succ,<-EX.out,hol.out,Nat.pow_succ,Nat.add_mul,<-hval.out]
    simp only [bval,Nat.mul_zero,Nat.add_zero,Int.toNat_natCast]
    have h4:=E4.out
    generalize 4294967296 ^ k=q at *
    have h5:q * y+q * 4294967296 * z=q * (x * 2 ^ n)+q * low:=by
     rw [Nat.mul_assoc,<-Nat.mul_add,<-Nat.mul_add,h4]
    rw [Nat.mul_assoc q x]
    omega
   have hW2:Words (out++[(y:Int)]):=by
    intro u hu
    rcases List.mem_append.1 hu with hu|hu
    ·exact how.out u hu
    ·simp at hu;omega
   have HW2:=Lib.hid hW2
   clear hW2
   go_wp2_with (first
    | (at_builtin;refine Gx.wpList_push wr rfl _ _ 169 rfl w.heap.size 145 (.int .u32 0) 1 4 Tryz.underlying169 Tryz.info_u32 rfl (by decide) _ _ _ [.int .u32 (y:Int)] _ rfl rfl (by exact hown1) rfl rfl ?a2 ?a3 ?a4 ?a5 ?_))
   case a2=>intro u hu;simp at hu;subst hu;rfl
   case a3=>omega
   case a4=>omega
   case a5=>omega
   intro v' w' hown2 hg2 _ _
   have hb2:Below w.heap.size w w':=hb1.grown hg2 hsz (fun k e=>(hown1.lt k e).1)
   have hown3:w'.ownsRow w.heap.size 145 1 v' (k+1) ((out++[(y:Int)]).map (Value.int .u32)):=by
    rw [List.map_append];exact hown2
   clear hown1 hown2 hg2
   go_wp2
   go_roundw
   case rel=>exact ⟨k+1,out++[(y:Int)],z,by omega,by go_num,rfl,by omega,E2,hown3,by simp [Hid,hol.out],HW2,hT,hb2⟩
   case measure=>simp [intOf];omega
  ·obtain rfl:k=xs.length:=by omega
   have hv:=hval.out
   rw [List.take_of_length_le (Nat.le_refl _),HBV.out] at hv
   have hvv:v<=v * 2 ^ n:=Nat.le_mul_of_pos_right _ (Nat.two_pow_pos n)
   by_cases h0:low=0
   ·subst h0
    have hc:canon (v * 2 ^ n)=out:=by
     rw [<-hv,Nat.mul_zero,Nat.add_zero]
     refine canon_of_big out how.out ?_
     have:=HGT.out
     rw [hol.out];omega
    have HC:=Lib.hid hc
    clear hc hv hvv
    obtain ⟨ad',cap',he,hrd⟩:=Gx.Rd.own (k:=.u32) (xs:=out) hown1 (wf_words how.out)
    have HR:=Lib.hid hrd
    clear hrd hown1
    rw [he]
    clear he
    go_wp2
    go_ret
    exact ⟨ad',cap',by rw [HC.out];rfl,by rw [HC.out];exact HR.out,hb1⟩
   ·have hpos:decide ((0:Int)<(low:Int))=true:=by simp;omega
    have hW2:Words (out++[(low:Int)]):=by
     intro u hu
     rcases List.mem_append.1 hu with hu|hu
     ·exact how.out u hu
     ·simp at hu;omega
    have hc:canon (v * 2 ^ n)=out++[(low:Int)]:=by
     have e:v * 2 ^ n=bval (out++[(low:Int)]):=by
      rw [bval_append,hol.out,<-hv];simp [bval]
     rw [e]
     refine canon_of_big _ hW2 ?_
     rw [<-e,<-hv,List.length_append,hol.out]
     simp only [List.length_cons,List.length_nil,Nat.zero_add,Nat.add_sub_cancel]
     have:4294967296 ^ xs.length * 1<=4294967296 ^ xs.length * low:=Nat.mul_le_mul_left _ (by omega)
     omega
    have HC:=Lib.hid hc
    have HW2:=Lib.hid hW2
    clear hc hv hvv hW2
    go_wp2_with (first
     | (at_builtin;refine Gx.wpList_push wr rfl _ _ 169 rfl w.heap.size 145 (.int .u32 0) 1 4 Tryz.underlying169 Tryz.info_u32 rfl (by decide) _ _ _ [.int .u32 (low:Int)] _ rfl rfl (by exact hown1) rfl rfl ?d2 ?d3 ?d4 ?d5 ?_))
    case d2=>intro u hu;simp at hu;subst hu;rfl
    case d3=>omega
    case d4=>omega
    case d5=>omega
    intro v' w' hown2 hg2 _ _
    have hb2:Below w.heap.size w w':=hb1.grown hg2 hsz (fun k e=>(hown1.lt k e).1)
    obtain ⟨ad',cap',he,hrd⟩:=Gx.Rd.own (k:=.u32) (xs:=out++[(low:Int)]) (by simpa using hown2) (wf_words HW2.out)
    have HR:=Lib.hid hrd
    clear hrd hown1 hown2 hg2
    rw [he]
    clear he
    go_wp2
    go_ret
    exact ⟨ad',cap',by rw [HC.out];rfl,by rw [HC.out];exact HR.out,hb2⟩
set_option maxRecDepth 100000
def OwnPostFl (n:Nat) (w:World) (e:Ending) (w':World):Prop :=
 ∃ vo vc,e=.returned (.slice vo (canon n).length vc)/\w'.ownsRow w.heap.size 145 1 (.slice vo (canon n).length vc) (canon n).length ((canon n).map (Value.int .u32))/\Below w.heap.size w w'
set_option maxHeartbeats 1000000 in
theorem bigLeft_own (ad:Option Addr) (ca v n:Nat) (w:World) (h:Rd .u32 w ad ca (canon v)) (hl:(canon v).length<=1048576) (hv:v≠0) (hn:n<=31) :
 Calls Tryz.prog 158 #[.slice ad (canon v).length ca,.int .i64 n] w (OwnPostFl (v * 2 ^ n) w):=by
 obtain ⟨xs,hxs⟩:∃ xs,xs=canon v:=⟨_,rfl⟩
 have hbv:bval xs=v:=by rw [hxs,bval_canon]
 have hgt:=canon_len_gt v hv
 rw [<-hxs] at h hl hgt ⊢
 have hwx:=words_of_rd h
 have H:=Lib.hid h
 have HWX:=Lib.hid hwx
 have HBV:=Lib.hid hbv
 have HGT:=Lib.hid hgt
 clear h hwx hxs hbv hgt
 go_enter Tryz.func158,Tryz.ntmps158
 obtain ⟨i0,hi,hz0,hz1,hz2⟩:=info_parts Tryz.info_u32
 have HI:=Lib.hid hi
 have HZ0:=Lib.hid hz0
 have HZ1:=Lib.hid hz1
 clear hi hz0 hz1
 go_wp2_with (first
  | (at_make;refine wpList_make_own _ rfl _ _ 169 rfl w.heap.size 145 i0 (.int .u32 0) 1 Tryz.underlying169 HI.out HZ0.out HZ1.out .i64 .i64 _ (xs.length+2) rfl rfl (by omega) (by rw [hz2];omega) (by unfold maxLen;omega) (Nat.le_refl _) ?_))
 intro w1 hown hg
 have hb:Below w.heap.size w w1:=Gx.grown_below hg (Nat.le_refl _) (by simp)
 clear hg
 obtain ⟨v0,hv0⟩:∃ v0,v0=Value.slice (some ⟨w.heap.size,0,none⟩) 0 (xs.length+2):=⟨_,rfl⟩
 rw [<-hv0] at hown ⊢
 clear hv0
 have a1:IntKind.u64.wrap (n:Int)=(n:Int):=by rw [IntKind.wrap_u64];omega
 have a2:IntKind.i64.wrap (32 - (n:Int))=((32 - n:Nat):Int):=by rw [IntKind.wrap_i64];omega
 have a3:IntKind.u64.wrap ((32 - n:Nat):Int)=((32 - n:Nat):Int):=by rw [IntKind.wrap_u64];omega
 have a4:(32:Int) - (n:Int)=((32 - n:Nat):Int):=by omega
 have a5:min n 32=n:=by omega
 have a6:min (32 - n) 64=32 - n:=by omega
 go_wp2
 go_loopw [5,6,15] (fun v c i wr=>∃ (k:Nat) (out:List Int) (low:Nat),k<=xs.length/\i=.int .i64 k/\c=.int .u32 low/\low<4294967296/\Hid (low<2 ^ n) /\
  wr.ownsRow w.heap.size 145 1 v k (out.map (Value.int .u32))/\Hid (out.length=k)/\Hid (Words out)/\Hid (bval out+4294967296 ^ k * low=bval (xs.take k) * 2 ^ n)/\Below w.heap.size w wr)
  (fun _ _ i _=>xs.length - (intOf i).toNat)
 case atStart=>exact ⟨0,[],0,Nat.zero_le _,rfl,rfl,by decide,Nat.two_pow_pos n,hown,rfl,fun x hx=>by simp at hx,by show _=_;simp [bval],hb⟩
 case round =>
  obtain ⟨k,out,low,hk,rfl,rfl,hlw,hln,hown1,hol,how,hval,hb1⟩:=hrel
  clear hown hb
  have hsz:=hb1.size
  by_cases hkx:k<xs.length
  ·obtain ⟨b1,o1,rfl,-,hcx⟩:=(H.out.keep hb1).addr (by omega)
   have hx:=hcx k hkx
   clear hcx
   obtain ⟨bx0,bx1⟩:=words_getD HWX.out k
   obtain ⟨x,ex⟩:∃ x:Nat,(x:Int)=xs.getD k 0:=⟨(xs.getD k 0).toNat,by omega⟩
   rw [<-ex] at hx bx1
   have EX:=Lib.hid ex
   clear ex bx0
   obtain ⟨e1,e2,e3,e4⟩:=left_word n x low hn (by omega) hln.out
   obtain ⟨y,hy⟩:∃ y,y=x * 2 ^ n % 4294967296+low:=⟨_,rfl⟩
   obtain ⟨z,hz⟩:∃ z,z=x / 2 ^ (32 - n):=⟨_,rfl⟩
   have hzi:(x:Int) / 2 ^ (32 - n)=(z:Int):=by rw [hz,Int.natCast_ediv,Int.natCast_pow];rfl
   have hzl:z<=x:=by rw [hz];exact Nat.div_le_self _ _
   rw [<-hy] at e1 e3 e4
   rw [<-hz] at e2 e4
   have e5:(z:Int) % 4294967296=(z:Int):=by omega
   have E2:=Lib.hid e2
   have E4:=Lib.hid e4
   clear hy hz e2 e4
   have hT:Hid (bval (out++[(y:Int)])+4294967296 ^ (k+1) * z=bval (xs.take (k+1)) * 2 ^ n):=by
    show _=_
    rw [bval_append,bval_take_succ,<-EX.out,hol.out,Nat.pow_succ,Nat.add_mul,<-hval.out]
    simp only [bval,Nat.mul_zero,Nat.add_zero,Int.toNat_natCast]
    have h4:=E4.out
    generalize 4294967296 ^ k=q at *
    have h5:q * y+q * 4294967296 * z=q * (x * 2 ^ n)+q * low:=by
     rw [Nat.mul_assoc,<-Nat.mul_add,<-Nat.mul_add,h4]
    rw [Nat.mul_assoc q x]
    omega
   have hW2:Words (out++[(y:Int)]):=by
    intro u hu
    rcases List.mem_append.1 hu with hu|hu
    ·exact how.out u hu
    ·simp at hu;omega
   have HW2:=Lib.hid hW2
   clear hW2
   go_wp2_with (first
    | (at_builtin;refine Gx.wpList_push wr rfl _ _ 169 rfl w.heap.size 145 (.int .u32 0) 1 4 Tryz.underlying169 Tryz.info_u32 rfl (by decide) _ _ _ [.int .u32 (y:Int)] _ rfl rfl (by exact hown1) rfl rfl ?a2 ?a3 ?a4 ?a5 ?_))
   case a2=>intro u hu;simp at hu;subst hu;rfl
   case a3=>omega
   case a4=>omega
   case a5=>omega
   intro v' w' hown2 hg2 _ _
   have hb2:Below w.heap.size w w':=hb1.grown hg2 hsz (fun k e=>(hown1.lt k e).1)
   have hown3:w'.ownsRow w.heap.size 145 1 v' (k+1) ((out++[(y:Int)]).map (Value.int .u32)):=by
    rw [List.map_append];exact hown2
   clear hown1 hown2 hg2
   go_wp2
   go_roundw
   case rel=>exact ⟨k+1,out++[(y:Int)],z,by omega,by go_num,rfl,by omega,E2,hown3,by simp [Hid,hol.out],HW2,hT,hb2⟩
   case measure=>simp [intOf];omega
  ·obtain rfl:k=xs.length:=by omega
   have hv:=hval.out
   rw [List.take_of_length_le (Nat.le_refl _),HBV.out] at hv
   have hvv:v<=v * 2 ^ n:=Nat.le_mul_of_pos_right _ (Nat.two_pow_pos n)
   by_cases h0:low=0
   ·subst h0
    have hc:canon (v * 2 ^ n)=out:=by
     rw [<-hv,Nat.mul_zero,Nat.add_zero]
     refine canon_of_big out how.out ?_
     have:=HGT.out
     rw [hol.out];omega
    have HC:=Lib.hid hc
    clear hc hv hvv
    obtain ⟨vo,vc,rfl⟩:=own_form hown1
    have HR:=Lib.hid hown1
    clear hown1
    have HE:=Lib.hid hol.out
    go_wp2
    go_ret
    exact ⟨vo,vc,by rw [HC.out,HE.out];rfl,by rw [HC.out,HE.out];exact HR.out,hb1⟩
   ·have hpos:decide ((0:Int)<(low:Int))=true:=by simp;omega
    have hW2:Words (out++[(low:Int)]):=by
     intro u hu
     rcases List.mem_append.1 hu with hu|hu
     ·exact how.out u hu
     ·simp at hu;omega
    have hc:canon (v * 2 ^ n)=out++[(low:Int)]:=by
     have e:v * 2 ^ n=bval (out++[(low:Int)]):=by
      rw [bval_append,hol.out,<-hv];simp [bval]
     rw [e]
     refine canon_of_big _ hW2 ?_
     rw [<-e,<-hv,List.length_append,hol.out]
     simp only [List.length_cons,List.length_nil,Nat.zero_add,Nat.add_sub_cancel]
     have:4294967296 ^ xs.length * 1<=4294967296 ^ xs.length * low:=Nat.mul_le_mul_left _ (by omega)
     omega
    have HC:=Lib.hid hc
    have HW2:=Lib.hid hW2
    clear hc hv hvv hW2
    go_wp2_with (first
     | (at_builtin;refine Gx.wpList_push wr rfl _ _ 169 rfl w.heap.size 145 (.int .u32 0) 1 4 Tryz.underlying169 Tryz.info_u32 rfl (by decide) _ _ _ [.int .u32 (low:Int)] _ rfl rfl (by exact hown1) rfl rfl ?d2 ?d3 ?d4 ?d5 ?_))
    case d2=>intro u hu;simp at hu;subst hu;rfl
    case d3=>omega
    case d4=>omega
    case d5=>omega
    intro v' w' hown2 hg2 _ _
    have hb2:Below w.heap.size w w':=hb1.grown hg2 hsz (fun k e=>(hown1.lt k e).1)
    have hown3:w'.ownsRow w.heap.size 145 1 v' (xs.length+1) ((out++[(low:Int)]).map (Value.int .u32)):=by rw [List.map_append];exact hown2
    obtain ⟨vo,vc,rfl⟩:=own_form hown3
    have HR:=Lib.hid hown3
    have HE:Hid ((out++[(low:Int)]).length=xs.length+1):=by show _=_;simp [hol.out]
    clear hown1 hown2 hown3 hg2
    go_wp2
    go_ret
    exact ⟨vo,vc,by rw [HC.out,HE.out];rfl,by rw [HC.out,HE.out];exact HR.out,hb2⟩
set_option maxRecDepth 100000
set_option maxHeartbeats 1000000 in
theorem bigRight_any (ad:Option Addr) (ca:Nat) (xs:List Int) (n:Nat) (w:World) (h:Rd .u32 w ad ca xs) (hl:xs.length<=1048576) (hn:n<=31) :
 Calls Tryz.prog 159 #[.slice ad xs.length ca,.int .i64 n] w (WordsPost (bval xs / 2 ^ n) w):=by
 have hwx:=words_of_rd h
 have H:=Lib.hid h
 have HWX:=Lib.hid hwx
 clear h hwx
 go_enter Tryz.func159,Tryz.ntmps159
 obtain ⟨i0,hi,hz0,hz1,hz2⟩:=info_parts Tryz.info_u32
 have HI:=Lib.hid hi
 have HZ0:=Lib.hid hz0
 have HZ1:=Lib.hid hz1
 clear hi hz0 hz1
 go_wp2_with (first
  | (at_make;refine wpList_make_full _ rfl _ _ 169 rfl w.heap.size 145 i0 (.int .u32 0) 1 Tryz.underlying169 HI.out HZ0.out HZ1.out .i64 .i64 _ _ xs.length rfl rfl (by omega) (by omega) (by rw [hz2];omega) (by unfold maxLen;omega) (Nat.le_refl _) ?_))
 intro w1 hown hg
 have hb:Below w.heap.size w w1:=Gx.grown_below hg (Nat.le_refl _) (by simp)
 rw [madeCells_one] at hown
 clear hg hz2 HI HZ0 HZ1
 obtain ⟨m,hm⟩:∃ m,m=xs.length:=⟨_,rfl⟩
 obtain ⟨gb,hgb⟩:∃ gb,gb=w.heap.size:=⟨_,rfl⟩
 rw [<-hm] at hown hl ⊢
 rw [show Value.slice (some ⟨w.heap.size,0,none⟩) m m=Value.slice (some ⟨gb,0,none⟩) m m from by rw [hgb]] at hown ⊢
 have HM:=Lib.hid hm;clear hm
 have HGB:=Lib.hid hgb;clear hgb
 have a1:IntKind.u64.wrap (n:Int)=(n:Int):=by rw [IntKind.wrap_u64];omega
 have a2:IntKind.i64.wrap (32 - (n:Int))=((32 - n:Nat):Int):=by rw [IntKind.wrap_i64];omega
 have a3:IntKind.u64.wrap ((32 - n:Nat):Int)=((32 - n:Nat):Int):=by rw [IntKind.wrap_u64];omega
 have a4:(32:Int) - (n:Int)=((32 - n:Nat):Int):=by omega
 have a5:min n 32=n:=by omega
 have a6:min (32 - n) 64=32 - n:=by omega
 go_wp2
 go_loopw [12] (fun i wr=>∃ (k:Nat) (out:List Int),k<=m/\i=.int .i64 k /\
  wr.ownsRow w.heap.size 145 1 (.slice (some ⟨gb,0,none⟩) m m) m (out.map (Value.int .u32))/\Hid (out.length=m)/\Hid (Words out)/\Hid (∀ j,j<k->(out.getD j 0).toNat=bval xs / 2 ^ n / 4294967296 ^ j % 4294967296)/\Below w.heap.size w wr)
  (fun i _=>m - (intOf i).toNat)
 case atStart =>
  refine ⟨0,List.replicate m 0,Nat.zero_le _,rfl,hown,by simp [Hid],fun x hx=>?_,fun j hj=>by omega,hb⟩
  have:=(List.mem_replicate.1 hx).2;omega
 case round =>
  clear hown hb
  obtain ⟨k,out,hk,rfl,hown1,hol,how,hval,hb1⟩:=hrel
  have hb3:=hb1.size
  have hgb:w.heap.size<=gb:=by rw [HGB.out];exact Nat.le_refl _
  by_cases hkx:k<m
  ·obtain ⟨b1,o1,rfl,hbl,-⟩:=H.out.addr (by have:=HM.out;omega)
   obtain ⟨b1',o1',he,-,hcx⟩:=(H.out.keep hb1).addr (by have:=HM.out;omega)
   obtain ⟨rfl,rfl⟩:b1=b1'/\o1=o1':=by simpa using he
   clear he
   have hx:=hcx k (by have:=HM.out;omega)
   obtain ⟨bx0,bx1⟩:=words_getD HWX.out k
   obtain ⟨x,ex⟩:∃ x:Nat,(x:Int)=xs.getD k 0:=⟨(xs.getD k 0).toNat,by omega⟩
   rw [<-ex] at hx bx1
   have EX:=Lib.hid ex
   clear ex bx0
   have hol':out.length=m:=hol.out
   have hcell:∃ y,wr.cell? ⟨gb,k,none⟩=some (.int .u32 y):=by
    rw [hown1.cellAt k (by omega)]
    exact ⟨out[k],by simp [List.getElem?_eq_getElem (show k<out.length by omega)]⟩
   obtain ⟨y0,hcell⟩:=hcell
   have hfz:wr.frozen? ⟨gb,k,none⟩=false:=hown1.frozenAt k
   have hxi:(x:Int) / 2 ^ n=((x / 2 ^ n:Nat):Int):=by rw [Int.natCast_ediv,Int.natCast_pow];rfl
   obtain ⟨q,hq⟩:∃ q,q=x / 2 ^ n:=⟨_,rfl⟩
   rw [<-hq] at hxi
   have HQ:=Lib.hid hq
   clear hq
   have hqx:q<=x:=by rw [HQ.out];exact Nat.div_le_self _ _
   have hst:=hown1.stored k (.int .u32 (q:Int))
   have hbn:Below w.heap.size w (wr.setCell ⟨gb,k,none⟩ (.int .u32 (q:Int))):=hb1.grown hst.2 hb3 (fun q e=>by cases e;exact hgb)
   have hon:(wr.setCell ⟨gb,k,none⟩ (.int .u32 (q:Int))).ownsRow w.heap.size 145 1 (.slice (some ⟨gb,0,none⟩) m m) m ((out.set k (q:Int)).map (Value.int .u32)):=by
    rw [List.map_set];exact hst.1
   have HON:=Lib.hid hon
   have HBN:=Lib.hid hbn
   have hw3:=Lib.hid (words_set how.out k (q:Int) (by omega) (by omega))
   have hl3:Hid ((out.set k (q:Int)).length=m):=by show _=_;rw [List.length_set];exact hol.out
   clear hst hbn hon hown1
   by_cases hk1:k+1<m
   ·have hy:=hcx (k+1) (by have:=HM.out;omega)
    clear hcx
    obtain ⟨by0,by1⟩:=words_getD HWX.out (k+1)
    obtain ⟨y,ey⟩:∃ y:Nat,(y:Int)=xs.getD (k+1) 0:=⟨(xs.getD (k+1) 0).toNat,by omega⟩
    rw [<-ey] at hy by1
    have EY:=Lib.hid ey
    clear ey by0
    obtain ⟨d1,d2⟩:=right_digit_next xs HWX.out n k x y hn (by rw [<-HM.out];exact hk1) EX.out EY.out
    have hor:=right_or n x y hn (by omega)
    rw [<-HQ.out] at d1 d2 hor
    have hyi:=right_wrap n y
    obtain ⟨z,hz⟩:∃ z,z=y * 2 ^ (32 - n) % 4294967296:=⟨_,rfl⟩
    rw [<-hz] at hyi hor d1 d2
    have D1:=Lib.hid d1
    have D2:=Lib.hid d2
    have hz4:z<4294967296:=by omega
    clear d1 d2 hz
    go_wp2
    have hne:b1≠gb:=by omega
    have hy2:(wr.setCell ⟨gb,k,none⟩ (.int .u32 (q:Int))).cell? ⟨b1,o1+(k+1),none⟩=some (.int .u32 (y:Int)):=by
     rw [World.cell?_setCell_other _ _ _ _ (by intro h;simp only [Addr.mk.injEq] at h;omega)];exact hy
    have hc2:(wr.setCell ⟨gb,k,none⟩ (.int .u32 (q:Int))).cell? ⟨gb,k,none⟩=some (.int .u32 (q:Int)):=World.cell?_setCell_same _ _ _ hcell
    obtain ⟨wz,hwz⟩:∃ wz:World,wz=wr.setCell ⟨gb,k,none⟩ (.int .u32 (q:Int)):=⟨_,rfl⟩
    rw [<-hwz] at hy2 hc2 HON HBN ⊢
    have hol3:(out.set k (q:Int)).length=m:=hl3.out
    have hfz2:wz.frozen? ⟨gb,k,none⟩=false:=HON.out.frozenAt k
    have hbz:=HBN.out.size
    have hst:=HON.out.stored k (.int .u32 ((q+z:Nat):Int))
    have hbn:Below w.heap.size w (wz.setCell ⟨gb,k,none⟩ (.int .u32 ((q+z:Nat):Int))):=HBN.out.grown hst.2 hbz (fun q e=>by cases e;exact hgb)
    have hon:(wz.setCell ⟨gb,k,none⟩ (.int .u32 ((q+z:Nat):Int))).ownsRow w.heap.size 145 1 (.slice (some ⟨gb,0,none⟩) m m) m (((out.set k (q:Int)).set k ((q+z:Nat):Int)).map (Value.int .u32)):=by
     rw [List.map_set];exact hst.1
    have HON2:=Lib.hid hon
    have HBN2:=Lib.hid hbn
    have hqz:=D2.out
    have hw4:=Lib.hid (words_set hw3.out k ((q+z:Nat):Int) (by omega) (by omega))
    have hl4:Hid (((out.set k (q:Int)).set k ((q+z:Nat):Int)).length=m):=by show _=_;rw [List.length_set];exact hl3.out
    have hT:Hid (∀ j,j<k+1->(((out.set k (q:Int)).set k ((q+z:Nat):Int)).getD j 0).toNat=bval xs / 2 ^ n / 4294967296 ^ j % 4294967296):=by
     refine digits_set _ k m _ (fun j=>bval xs / 2 ^ n / 4294967296 ^ j % 4294967296) hl3.out hkx (fun j hj=>?_) ?_
     ·rw [getD_set_ne _ _ _ _ (by omega)];exact hval.out j hj
     ·rw [D1.out,Int.toNat_natCast]
    have hor2:bits BinOp.or IntKind.u32 (q:Int) (IntKind.u64.wrap ((y:Int) * 2 ^ (32 - n)) % 4294967296)=((q+z:Nat):Int):=by rw [IntKind.wrap_u64,hyi];exact hor
    have HOR:=Lib.hid hor2
    clear hor2
    have i1:(0:Int)<=(k:Int)+1:=by omega
    have i2:(k:Int)+1<(m:Int):=by omega
    have i3:((k:Int)+1).toNat=k+1:=by omega
    have i4:IntKind.i64.wrap ((k:Int)+1)=(k:Int)+1:=by rw [IntKind.wrap_i64];omega
    have i5:(k:Int)<(m:Int):=by omega
    clear hst hbn hon hwz hx hcell hfz hol3 hol' hy hor
    go_region
    rw [HOR.out]
    go_wp2
    go_roundw
    case rel=>exact ⟨k+1,(out.set k (q:Int)).set k ((q+z:Nat):Int),by omega,by go_num,HON2.out.drew,hl4,hw4,hT,HBN2.out.drew⟩
    case measure=>simp [intOf];omega
   ·have hT:Hid (∀ j,j<k+1->((out.set k (q:Int)).getD j 0).toNat=bval xs / 2 ^ n / 4294967296 ^ j % 4294967296):=by
     refine digits_set out k m _ (fun j=>bval xs / 2 ^ n / 4294967296 ^ j % 4294967296) hol.out hkx hval.out ?_
     rw [right_digit_last xs HWX.out n k x hn (by have:=HM.out;omega) EX.out,Int.toNat_natCast,HQ.out]
    clear hcx
    go_wp2
    go_roundw
    case rel=>exact ⟨k+1,out.set k (q:Int),by omega,by go_num,HON.out,hl3,hw3,hT,HBN.out⟩
    case measure=>simp [intOf];omega
  ·obtain rfl:k=m:=by omega
   have hfin:bval out=bval xs / 2 ^ n:=right_end xs out HWX.out n (hol.out.trans HM.out) (by rw [<-HM.out];exact hval.out)
   have HF:=Lib.hid hfin
   obtain ⟨ad',cap',he,hrd⟩:=Gx.Rd.own (k:=.u32) (xs:=out) hown1 (wf_words how.out)
   have HR:=Lib.hid hrd
   have hlo:out.length<=1048576:=by have:=hol.out;omega
   clear hrd hown1 hfin hval
   rw [he]
   clear he
   go_wp2_with (first
    | (go_at_call 157;refine (trimmed_any ad' cap' out _ HR.out (by omega)).mono ?_;rintro e w' ⟨rfl,rfl⟩))
   go_ret
   refine ⟨ad',cap',?_,?_,hb1⟩
   ·rw [<-HF.out];rfl
   ·rw [<-HF.out];exact HR.out.trim
end Go.Proofs.YtldhmfkojaekfaaGreatDoor
