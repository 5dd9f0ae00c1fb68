/-
  Lemmas for the statement: plain laws, and what functions answer; the conditions stand in each.
-/
import Derived.Lib.ItoaNum
import Derived.Lib.TrimByte
import Derived.Lib.Strings
import Derived.Shelf.Strings.BuilderRune
import Derived.Test.YtldhmfkojaekfaaGreatDoorProg
import Derived.WalkLawsBesides
import Derived.Deep.DeepFit
import Derived.Lib.MapLaws
import Derived.Lib.QuoteLoop
import Derived.Lib.Bytealg
import Derived.Test.YtldhmfkojaekfaaGreatDoorShowBackAllPartI
set_option linter.unusedVariables false
set_option linter.unusedSimpArgs false
namespace Go.Proofs.YtldhmfkojaekfaaGreatDoor
set_option maxRecDepth 100000
theorem ten_ge (N D b:Nat) (top:Int) (T:Nat) (h1:N * T=fval b * D) (hD:0<D) (h:¬ Bel N D (top - 1)) :
 10 ^ 16 * (tenUp (top - (17:Nat)) * T)<=fval b * tenDn (top - (17:Nat)):=by
 unfold Bel at h
 have hs:=ten_shift (top - 1) 16
 rw [show top - 1 - ((16:Nat):Int)=top - ((17:Nat):Int) by omega] at hs
 obtain ⟨k,hk⟩:∃ k,k=top - ((17:Nat):Int):=⟨_,rfl⟩
 rw [<-hk] at hs ⊢
 have p0:=tenDn_pos (top - 1)
 have h2:=Nat.mul_le_mul_right (T * tenDn k) (Nat.le_of_not_lt h)
 generalize tenUp k=u at *
 generalize tenDn k=t at *
 generalize tenUp (top - 1)=U at *
 generalize tenDn (top - 1)=V at *
 generalize fval b=f at *
 generalize 10 ^ 16=c at *
 have e1:D * U * (T * t)=c * (u * T) * (V * D):=by
  have:D * U * (T * t)=D * T * (U * t):=by simp only [Nat.mul_assoc,Nat.mul_comm,Nat.mul_left_comm]
  rw [this,hs]
  simp only [Nat.mul_assoc,Nat.mul_comm,Nat.mul_left_comm]
 have e2:N * V * (T * t)=f * t * (V * D):=by
  have:N * V * (T * t)=N * T * (V * t):=by simp only [Nat.mul_assoc,Nat.mul_comm,Nat.mul_left_comm]
  rw [this,h1]
  simp only [Nat.mul_assoc,Nat.mul_comm,Nat.mul_left_comm]
 rw [e1,e2] at h2
 exact Nat.le_of_mul_le_mul_right h2 (Nat.mul_pos p0 hD)
theorem ten_small {u t f g:Nat} (h:10 ^ 16 * u<=f * t) (hf:f<=9007199254740992 * g) (hg:0<g) (ht:0<t):u<g * t:=by
 have h1:(10:Nat) ^ 16=10000000000000000:=by decide
 rw [h1] at h
 have h2:=Nat.mul_le_mul_right t hf
 rw [Nat.mul_assoc] at h2
 have h3:=Nat.mul_pos hg ht
 omega
theorem near_side {c u t f D Q P T b:Nat} (hD:0<D) (hb0:0<b) (hQ:Q * T=D * u) (hP:P * T=f * D * t) (hf:f=fval b) (hT:0<T) (ht:0<t)
 (h16:10 ^ 16 * u<=f * t) (h1:2 * (c * Q)<=2 * P+Q) (h2:2 * P<=2 * (c * Q)+Q) :
 t * fmid (b - 1)<2 * (c * u)/\2 * (c * u)<t * fmid b:=by
 obtain ⟨g,hg,eg,lg⟩:=gap_lo b hb0
 obtain ⟨g',hg',eg',lg'⟩:=gap_hi b
 rw [<-hf] at eg lg eg' lg'
 have s1:=ten_small h16 lg hg ht
 have s2:=ten_small h16 lg' hg' ht
 have a1:2 * (c * u)<=2 * (f * t)+u:=by
  have:=Nat.mul_le_mul_right T h1
  have e1:2 * (c * Q) * T=D * (2 * (c * u)):=by
   have:2 * (c * Q) * T=2 * c * (Q * T):=by simp only [Nat.mul_assoc,Nat.mul_comm,Nat.mul_left_comm]
   rw [this,hQ];simp only [Nat.mul_assoc,Nat.mul_comm,Nat.mul_left_comm]
  have e2:(2 * P+Q) * T=D * (2 * (f * t)+u):=by
   rw [Nat.add_mul,hQ,Nat.mul_assoc,hP,Nat.mul_add]
   congr 1
   simp only [Nat.mul_assoc,Nat.mul_comm,Nat.mul_left_comm]
  rw [e1,e2] at this
  exact Nat.le_of_mul_le_mul_left this hD
 have a2:2 * (f * t)<=2 * (c * u)+u:=by
  have:=Nat.mul_le_mul_right T h2
  have e1:2 * P * T=D * (2 * (f * t)):=by
   rw [Nat.mul_assoc,hP]
   simp only [Nat.mul_assoc,Nat.mul_comm,Nat.mul_left_comm]
  have e2:(2 * (c * Q)+Q) * T=D * (2 * (c * u)+u):=by
   have:2 * (c * Q) * T=2 * c * (Q * T):=by simp only [Nat.mul_assoc,Nat.mul_comm,Nat.mul_left_comm]
   rw [Nat.add_mul,this,hQ,Nat.mul_add]
   congr 1
   simp only [Nat.mul_assoc,Nat.mul_comm,Nat.mul_left_comm]
  rw [e1,e2] at this
  exact Nat.le_of_mul_le_mul_left this hD
 refine ⟨?_,?_⟩
 ·unfold fmid
  rw [show b - 1+1=b by omega,<-hf]
  have e:t * (fval (b - 1)+f)+g * t=2 * (f * t):=by
   rw [eg];simp only [Nat.mul_add,Nat.add_mul,Nat.mul_comm t];omega
  omega
 ·unfold fmid
  rw [<-hf,eg']
  have e:t * (f+(f+g'))=2 * (f * t)+g' * t:=by
   simp only [Nat.mul_add,Nat.add_mul,Nat.mul_comm t];omega
  omega
theorem seventeen {N D b:Nat} {top:Int} (hF:IsFrac b N D) (hb:b<9218868437227405312) (hb0:0<b) (h:¬ Bel N D (top - 1)) :
 Hits (lowOf N D (top - (17:Nat))) (top - (17:Nat)) b\/Hits (highOf N D (top - (17:Nat))) (top - (17:Nat)) b:=by
 obtain ⟨h1,hD⟩:=hF
 rw [Nat.mod_eq_of_lt (by omega)] at h1
 obtain ⟨K,hK⟩:∃ K:Nat,K=1074:=⟨_,rfl⟩
 rw [x74_of N K hK] at h1
 have h16:=ten_ge N D b top (2 ^ K) h1 hD h
 obtain ⟨k,hk⟩:∃ k,k=top - ((17:Nat):Int):=⟨_,rfl⟩
 rw [<-hk] at h16 ⊢
 have ht:=tenDn_pos k
 have hQ0:=Nat.mul_pos hD (tenUp_pos k)
 have hQ:D * tenUp k * 2 ^ K=D * (tenUp k * 2 ^ K):=Nat.mul_assoc _ _ _
 have hP:N * tenDn k * 2 ^ K=fval b * D * tenDn k:=by rw [Nat.mul_right_comm,h1]
 have key:∀ c,2 * (c * (D * tenUp k))<=2 * (N * tenDn k)+D * tenUp k->2 * (N * tenDn k)<=2 * (c * (D * tenUp k))+D * tenUp k->Hits c k b:=by
  intro c c1 c2
  obtain ⟨g1,g2⟩:=near_side hD hb0 hQ hP rfl (Nat.two_pow_pos K) ht h16 c1 c2
  have e:Y75 (c * tenUp k)=2 * (c * (tenUp k * 2 ^ K)):=by rw [y75_x74,x74_of _ K hK,Nat.mul_assoc]
  unfold Hits
  rw [e]
  exact ⟨by omega,.inr (.inl g1),.inr (.inl g2)⟩
 unfold highOf
 have hl:lowOf N D k=N * tenDn k / (D * tenUp k):=rfl
 have m1:=Nat.div_add_mod (N * tenDn k) (D * tenUp k)
 have m2:=Nat.mod_lt (N * tenDn k) hQ0
 rw [<-hl] at m1
 generalize lowOf N D k=low at *
 generalize N * tenDn k % (D * tenUp k)=r at *
 generalize N * tenDn k=P at *
 generalize D * tenUp k=Q at *
 rw [Nat.mul_comm] at m1
 rcases Nat.lt_or_ge Q (2 * r) with hc|hc
 ·right
  rw [if_neg (by omega)]
  refine key _ ?_ ?_
  ·rw [Nat.add_mul,Nat.one_mul];omega
  ·rw [Nat.add_mul,Nat.one_mul];omega
 ·left
  exact key _ (by omega) (by omega)
end Go.Proofs.YtldhmfkojaekfaaGreatDoor
namespace Go.Proofs.YtldhmfkojaekfaaGreatDoor
open Go.RowKit Gx
set_option maxRecDepth 100000
def eOf (B:Nat):Nat:=B / 4503599627370496 - 1
def mOf (B:Nat):Nat:=if B<4503599627370496 then B else B % 4503599627370496+4503599627370496
def numOf (B:Nat):Nat:=mOf B * 2 ^ (eOf B - 1074)
def denOf (B:Nat):Nat:=2 ^ (1074 - eOf B)
theorem parts_of {B m E:Nat} (hB:B=E * 4503599627370496+m) (hm:m<9007199254740992) (h2:E=0\/4503599627370496<=m):eOf B=E/\mOf B=m:=by
 unfold eOf mOf
 rcases h2 with rfl|h2
 ·refine ⟨by omega,?_⟩
  by_cases h:B<4503599627370496
  ·rw [if_pos h];omega
  ·rw [if_neg h];omega
 ·rw [if_neg (by omega)]
  refine ⟨?_,by omega⟩
  have e0:B=(m - 4503599627370496)+(E+1) * 4503599627370496:=by rw [Nat.add_mul,Nat.one_mul];omega
  rw [e0,Nat.add_mul_div_right _ _ (by decide:0<4503599627370496),Nat.div_eq_of_lt (by omega)];omega
theorem num_dn {B m E n:Nat} (hB:B=E * 4503599627370496+m) (hm:m<9007199254740992) (h2:E=0\/4503599627370496<=m) (hn:E+n=1074):m=numOf B/\2 ^ n=denOf B:=by
 obtain ⟨e1,e2⟩:=parts_of hB hm h2
 unfold numOf denOf
 rw [e1,e2,show E - 1074=0 by omega,show 1074 - E=n by omega,Nat.pow_zero,Nat.mul_one]
 exact ⟨rfl,rfl⟩
theorem num_up {B m E n:Nat} (hB:B=E * 4503599627370496+m) (hm:m<9007199254740992) (h2:E=0\/4503599627370496<=m) (hn:E=n+1074):m * 2 ^ n=numOf B/\1=denOf B:=by
 obtain ⟨e1,e2⟩:=parts_of hB hm h2
 unfold numOf denOf
 rw [e1,e2,show E - 1074=n by omega,show 1074 - E=0 by omega,Nat.pow_zero]
 exact ⟨rfl,rfl⟩
def ShortIs (B c:Nat) (kk:Int):Prop:=∃ (N D:Nat) (top:Int) (n0:Nat),IsFrac B N D/\Bel N D top/\¬ Bel N D (top - 1)/\1<=n0/\n0<=17/\(-400<=top/\N=numOf B/\D=denOf B/\Pick (lowOf N D kk) (highOf N D kk) kk B (halfOf N D kk) c)/\top<=400/\kk=top - (n0:Int) /\
 (c=lowOf N D kk\/c=highOf N D kk)/\Hits c kk B/\∀ i:Nat,1<=i->i<n0->¬ Hits (lowOf N D (top - (i:Int))) (top - (i:Int)) B/\¬ Hits (highOf N D (top - (i:Int))) (top - (i:Int)) B
def ShortPost (b:Nat) (w:World) (e:Ending) (w':World):Prop :=
 ((b / 4503599627370496 % 2048=2047\/b % 9223372036854775808=0)/\e=.returned (.tuple #[.string ⟨#[]⟩,.int .i64 0,.int .i64 1])/\Below w.heap.size w w') \/
 (b / 4503599627370496 % 2048≠2047/\b % 9223372036854775808≠0/\∃ c kk,ShortIs (b % 9223372036854775808) c kk/\e=.returned (.tuple #[.string ⟨(shortOf c).toArray⟩,.int .i64 (kk+((decText c).length:Int) - ((shortOf c).length:Int)),.int .i64 0])/\Below w.heap.size w w')
theorem frac_mod {b A B:Nat} (h:IsFrac b A B):IsFrac (b % 9223372036854775808) A B:=by
 obtain ⟨h1,h2⟩:=h
 exact ⟨by rw [h1,Nat.mod_mod],h2⟩
theorem ten_big (n K:Nat) (h:K<=3 * n):2 ^ K<=10 ^ n:=by
 have h1:2 ^ (3 * n)=8 ^ n:=by rw [Nat.pow_mul]
 have h2:=Nat.pow_le_pow_right (show 2 > 0 by decide) h
 have h3:=Nat.pow_le_pow_left (show 8<=10 by decide) n
 omega
theorem frac_bounds {B N D m E:Nat} (h:IsFrac B N D) (hB:B % 9223372036854775808=E * 4503599627370496+m) (hm:m<9007199254740992) (hm0:0<m) (hE:E<=2045) (h2:E=0\/4503599627370496<=m):Bel N D 400/\¬ Bel N D (-400):=by
 obtain ⟨h1,hD⟩:=h
 obtain ⟨K,hK⟩:∃ K:Nat,K=1074:=⟨_,rfl⟩
 obtain ⟨n,hn⟩:∃ n:Nat,n=400:=⟨_,rfl⟩
 rw [x74_of N K hK,hB,fval_of m E hm h2] at h1
 have e1:(400:Int)=(n:Int):=by omega
 rw [e1]
 unfold Bel tenUp tenDn
 rw [show (-(n:Int)).toNat=0 by omega,show (n:Int).toNat=n by omega,show (- -(n:Int)).toNat=n by omega]
 simp only [Nat.pow_zero,Nat.mul_one]
 refine ⟨?_,?_⟩
 ·have a1:m * 2 ^ E<2 ^ (53+E):=by
   have h53:(2:Nat) ^ 53=9007199254740992:=by decide
   rw [Nat.pow_add,h53]
   exact Nat.mul_lt_mul_of_pos_right hm (Nat.two_pow_pos E)
  have a2:=Nat.pow_le_pow_right (show 2 > 0 by decide) (show 53+E<=1024+K by omega)
  obtain ⟨J,hJ⟩:∃ J:Nat,J=1024:=⟨_,rfl⟩
  rw [<-hJ,Nat.pow_add 2 J K] at a2
  have a3:=ten_big n J (by omega)
  have a4:N * 2 ^ K<10 ^ n * D * 2 ^ K:=by
   rw [h1]
   have b1:m * 2 ^ E * D<2 ^ J * 2 ^ K * D:=Nat.mul_lt_mul_of_pos_right (by omega) hD
   have b2:2 ^ J * 2 ^ K * D<=10 ^ n * 2 ^ K * D:=Nat.mul_le_mul_right _ (Nat.mul_le_mul_right _ a3)
   rw [Nat.mul_right_comm (10 ^ n)]
   omega
  have a5:=Nat.lt_of_mul_lt_mul_right a4
  rw [Nat.mul_comm]
  exact a5
 ·have a3:=ten_big n K (by omega)
  have a1:D<=N * 2 ^ K:=by
   rw [h1]
   have:=Nat.mul_le_mul_right D (Nat.mul_pos hm0 (Nat.two_pow_pos E))
   rw [Nat.succ_mul,Nat.zero_mul,Nat.zero_add] at this
   exact this
  have a2:=Nat.mul_le_mul_left N a3
  omega
theorem blen_shl (m n K:Nat) (hm:m<9007199254740992) (h:53+n<=K):blen (m * 2 ^ n)<=K:=by
 refine blen_le _ _ ?_
 have h53:(2:Nat) ^ 53=9007199254740992:=by decide
 have a1:m * 2 ^ n<2 ^ (53+n):=by
  rw [Nat.pow_add,h53]
  exact Nat.mul_lt_mul_of_pos_right hm (Nat.two_pow_pos n)
 have a2:=Nat.pow_le_pow_right (show 2 > 0 by decide) h
 omega
theorem low_small {N D:Nat} {top:Int} {n:Nat} (hD:0<D) (h:Bel N D top) (hn:n<=17):lowOf N D (top - (n:Int))<1000000000000000000:=by
 have h1:=low_lt (n:=n) hD h
 have h2:=Nat.pow_le_pow_right (show 10 > 0 by decide) hn
 have h3:(10:Nat) ^ 17=100000000000000000:=by decide
 omega
set_option maxHeartbeats 4000000 in
theorem short_any (b:Nat) (w:World) (hb:b<18446744073709551616) :
 Calls Tryz.prog 115 #[.int .u64 b] w (ShortPost b w):=by
 have hp:=parts_anyFl b w hb
 have ha:=andnot_sign b hb
 have hfin:∀ e w',ShortPost b w e w'->ShortPost b w e w':=fun _ _ h=>h
 unfold PartsPostFl at hp
 by_cases hs:b / 4503599627370496 % 2048=2047
 ·have hp2:=hp.mono (R':=fun e w'=>∃ x k:Int,0<k/\e=.returned (.tuple #[.int .u64 0,.int .i64 x,.int .i64 k])/\w=w') (by
   rintro e w' ⟨m,x,k,rfl,⟨-,rfl,h⟩|⟨h1,-⟩,rfl⟩
   ·exact ⟨x,k,by omega,rfl,rfl⟩
   ·exact absurd hs h1)
  have HP:=Lib.hid hp2
  have hres:=Lib.hid (show ShortPost b w (.returned (.tuple #[.string ⟨#[]⟩,.int .i64 0,.int .i64 1])) w from .inl ⟨.inl hs,rfl,Below.refl _ _⟩)
  generalize ShortPost b w=POST at *
  clear hp hp2 ha hfin hs hb
  go_enter Tryz.func115,Tryz.ntmps115
  go_wp2_with fail
  refine HP.out.mono ?_
  rintro e0 w1 ⟨x,k,hk,rfl,rfl⟩
  have t0:decide (0<k)=true:=decide_eq_true hk
  go_wp2
  go_ret3
  exact hres.out
 by_cases hz:b % 9223372036854775808=0
 ·have hp2:=hp.mono (R':=fun e w'=>∃ x:Int,e=.returned (.tuple #[.int .u64 0,.int .i64 x,.int .i64 0])/\w=w') (by
   rintro e w' ⟨m,x,k,rfl,h|⟨h1,rfl,h3,E,rfl,h5,h6,h7⟩,rfl⟩
   ·exact absurd h.1 hs
   ·obtain rfl:m=0:=by omega
    exact ⟨_,rfl,rfl⟩)
  have HP:=Lib.hid hp2
  have hres:=Lib.hid (show ShortPost b w (.returned (.tuple #[.string ⟨#[]⟩,.int .i64 0,.int .i64 1])) w from .inl ⟨.inr hz,rfl,Below.refl _ _⟩)
  generalize ShortPost b w=POST at *
  clear hp hp2 ha hfin hs hz hb
  go_enter Tryz.func115,Tryz.ntmps115
  go_wp2_with fail
  refine HP.out.mono ?_
  rintro e0 w1 ⟨x,rfl,rfl⟩
  go_wp2
  go_ret3
  exact hres.out
 have hp3:=hp.mono (R':=fun e w'=>∃ m E:Nat,e=.returned (.tuple #[.int .u64 m,.int .i64 ((E:Int) - 1074),.int .i64 0])/\m<9007199254740992/\E<=2045/\(E=0\/4503599627370496<=m)/\b % 9223372036854775808=E * 4503599627370496+m/\w=w') (by
  rintro e w' ⟨m,x,k,rfl,h|⟨h1,rfl,h3,E,rfl,h5,h6,h7⟩,rfl⟩
  ·exact absurd h.1 hs
  ·exact ⟨m,E,rfl,h3,h5,h6,h7,rfl⟩)
 have HP:=Lib.hid hp3
 have hB9:b % 9223372036854775808<9218868437227405312:=by omega
 have HPOST:=Lib.hid (show ∀ e w' c kk,ShortIs (b % 9223372036854775808) c kk->e=.returned (.tuple #[.string ⟨(shortOf c).toArray⟩,.int .i64 (kk+((decText c).length:Int) - ((shortOf c).length:Int)),.int .i64 0])->Below w.heap.size w w'->ShortPost b w e w' from
  fun e w' c kk h1 h2 h3=>.inr ⟨hs,hz,c,kk,h1,h2,h3⟩)
 generalize ShortPost b w=POST at *
 clear hp hp3 hfin hs hb
 obtain ⟨B,hB⟩:∃ B,B=b % 9223372036854775808:=⟨_,rfl⟩
 have hfr:∀ N D,IsFrac b N D->IsFrac B N D:=fun N D h=>by rw [hB];exact frac_mod h
 rw [<-hB] at ha hz hB9 HPOST
 have HFR:=Lib.hid hfr
 have HB:=Lib.hid hB
 have HZ:=Lib.hid (Nat.pos_of_ne_zero hz)
 have HB9:=Lib.hid hB9
 clear hfr hB hz hB9
 go_enter Tryz.func115,Tryz.ntmps115
 go_wp2_with fail
 refine HP.out.mono ?_
 rintro e0 w1 ⟨m,E,rfl,hm,hE,h2,h7,rfl⟩
 have hm0:0<m:=by have:=HZ.out;have:=HB.out;omega
 have tm:((m:Int)==0)=false:=by rw [beq_eq_false_iff_ne];omega
 have tm2:decide ((m:Int)=0)=false:=decide_eq_false (by omega)
 have HN:=Lib.hid (nat_any m w (by omega))
 unfold WordsPost at HN
 go_wp2_with fail
 refine HN.out.mono ?_
 rintro e0 w2 ⟨mo,mc,rfl,hr,hb⟩
 have M2:=Lib.hid hr
 have B2:=Lib.hid hb
 clear hr hb HN HP
 have hal:=(Below.refl w2.heap.size w2).alloc (Nat.le_refl _) (.cells #[.int .u32 1] 145)
 have hone:=one_rd w2
 have hc1:canon 1=[1]:=rfl
 rw [hc1] at hone
 have AL:=Lib.hid hal
 have ONE:=Lib.hid hone
 have M3:=Lib.hid (M2.out.keep hal)
 have B3:=Lib.hid (B2.out.trans (hal.mono B2.out.size))
 clear hal hone hc1 M2 B2
 rcases Int.lt_or_le (E:Int) 1074 with he|he
 ·obtain ⟨n,hn⟩:∃ n:Nat,E+n=1074:=⟨1074 - E,by omega⟩
  have FRAC:=Lib.hid (HFR.out _ _ (frac_dn b m E h7 hm h2 n hn))
  have ND:=Lib.hid (num_dn (B:=B) (HB.out.trans h7) hm h2 hn)
  have bnds:=frac_bounds FRAC.out (by rw [HB.out,Nat.mod_mod];exact h7) hm hm0 hE h2
  have HS:=Lib.hid (shift_left' _ _ _ n 1 _ ONE.out rfl (by show 1<=_;omega) (by omega))
  rw [Nat.one_mul] at HS
  unfold SubPost at HS
  have LX:Hid ((canon m).length<=60):=Nat.le_trans (fits_two m hm).len (by decide)
  have LY:Hid ((canon (2 ^ n)).length<=60):=(two_fitsK n 60 (by omega)).len
  have VX:Hid (bval (canon m)=m):=bval_canon _
  have VY:Hid (bval (canon (2 ^ n))=2 ^ n):=bval_canon _
  have MG0:=fun w0 xo xc yo yc (h:Rd .u32 w0 xo xc (canon m)) (g:Rd .u32 w0 yo yc (canon (2 ^ n)))=>magnitude_any xo yo xc yc (canon m) (canon (2 ^ n)) m (2 ^ n) w0 h g VX.out VY.out LX.out LY.out (by have:=blen_shl m 0 60 hm (by omega);rw [Nat.pow_zero,Nat.mul_one] at this;omega) (by exact Nat.le_trans (blen_le _ (n+1) (Nat.pow_lt_pow_right (by decide) (by omega))) (by omega)) bnds.1 bnds.2
  unfold MagPost at MG0
  have MG1:=Lib.hid MG0
  have tE:decide (0<=(E:Int) - 1074)=false:=decide_eq_false (by omega)
  have eE:-((E:Int) - 1074)=(n:Int):=by omega
  have EE:=Lib.hid eE
  clear hn h7 h2 hm hE MG0 bnds eE hm0
  go_wp2_with fail
  rw [EE.out]
  refine HS.out.mono ?_
  rintro e0 w4 ⟨so,sc,rfl,hr,hb⟩
  have Y4:=Lib.hid hr
  have X4:=Lib.hid (M3.out.keep hb)
  have B4:=Lib.hid (B3.out.trans (hb.mono B3.out.size))
  have MG:=Lib.hid (MG1.out w4 _ _ _ _ X4.out Y4.out)
  clear hr hb M3 B3 HS MG1 AL ONE EE
  go_wp2_with fail
  refine MG.out.mono ?_
  rintro e0 w5 ⟨top,rfl,t1,t2,hbel,hnb,hb⟩
  have X5:=Lib.hid (X4.out.keep hb)
  have Y5:=Lib.hid (Y4.out.keep hb)
  have B5:=Lib.hid (B4.out.trans (hb.mono B4.out.size))
  have HNE:=Lib.hid (fun w0 (hb:Below w5.heap.size w5 w0) (j:Nat) (g1:1<=j) (g17:j<=17)=>nearest_any mo so mc sc (canon m) (canon (2 ^ n)) m (2 ^ n) (top - (j:Int)) B w0 (X5.out.keep hb) (Y5.out.keep hb) VX.out VY.out LX.out LY.out (by omega) (by omega) (Nat.pos_iff_ne_zero.1 FRAC.out.2) (low_small FRAC.out.2 hbel g17))
  have SEV:=Lib.hid (seventeen FRAC.out HB9.out HZ.out hnb)
  unfold NearestPost at HNE
  have HIN:=Lib.hid (show ∀ (j:Nat) c,1<=j->j<=17->(c=lowOf m (2 ^ n) (top - (j:Int))\/c=highOf m (2 ^ n) (top - (j:Int)))->Pick (lowOf m (2 ^ n) (top - (j:Int))) (highOf m (2 ^ n) (top - (j:Int))) (top - (j:Int)) B (halfOf m (2 ^ n) (top - (j:Int))) c->Hits c (top - (j:Int)) B->(∀ i:Nat,1<=i->i<j->¬ Hits (lowOf m (2 ^ n) (top - (i:Int))) (top - (i:Int)) B/\¬ Hits (highOf m (2 ^ n) (top - (i:Int))) (top - (i:Int)) B)->ShortIs B c (top - (j:Int)) from
   fun j c g1 g2 g3 gp g4 g5=>⟨m,(2 ^ n),top,j,FRAC.out,hbel,hnb,g1,g2,⟨t1,ND.out.1,ND.out.2,gp⟩,t2,rfl,g3,g4,g5⟩)
  obtain ⟨HI,hHI⟩:∃ HI:Int->Prop,HI=fun k=>Hits (lowOf m (2 ^ n) k) k B:=⟨_,rfl⟩
  obtain ⟨HJ,hHJ⟩:∃ HJ:Int->Prop,HJ=fun k=>Hits (highOf m (2 ^ n) k) k B:=⟨_,rfl⟩
  have i1:∀ k,HI k=Hits (lowOf m (2 ^ n) k) k B:=fun k=>by rw [hHI]
  have i2:∀ k,HJ k=Hits (highOf m (2 ^ n) k) k B:=fun k=>by rw [hHJ]
  simp only [<-i1,<-i2] at HNE SEV HIN
  generalize lowOf m (2 ^ n)=LO at *
  generalize highOf m (2 ^ n)=HG at *
  clear hb X4 Y4 B4 MG hbel hnb X5 Y5 i1 i2 hHI hHJ VX VY LX LY FRAC ND
  go_wp2_with fail
  go_loopw [11,12,13,14] (fun nv a1 a2 a3 wr=>∃ n:Nat,nv=.int .i64 n/\1<=n/\n<=17/\Hid (∀ i:Nat,1<=i->i<n->¬ HI (top - (i:Int))/\¬ HJ (top - (i:Int)))/\Below w5.heap.size w5 wr) (fun nv _ _ _ _=>18 - (intOf nv).toNat)
  case atStart=>exact ⟨1,rfl,by omega,by omega,(fun i h1 h2=>absurd h1 (by omega)),Below.refl _ _⟩
  case round =>
   obtain ⟨n,rfl,n1,n2,hprev,hb⟩:=hrel
   have HC:=Lib.hid (HNE.out wr hb n n1 n2)
   go_wp2_with fail
   refine HC.out.mono ?_
   rintro e0 w6 (⟨c,hc,hpk,hit,rfl,hb2⟩|⟨z1,z2,rfl,hb2⟩)
   ·have B6:=Lib.hid (B5.out.trans ((hb.trans (hb2.mono hb.size)).mono B5.out.size))
    have IN:=Lib.hid (HIN.out n c n1 n2 hc hpk hit hprev.out)
    clear hb hb2 hc hpk hit HC
    have hfin:=Lib.hid (HPOST.out _ w6 c _ IN.out rfl B6.out)
    generalize shortOf c=st at *
    generalize decText c=dt at *
    go_wp2
    go_ret3
    exact hfin.out
   ·have B6:=Lib.hid (hb.trans (hb2.mono hb.size))
    have hlt:n<17:=by
     apply Classical.byContradiction
     intro hc
     obtain rfl:n=17:=by omega
     exact SEV.out.elim z1 z2
    have HPR:Hid (∀ i:Nat,1<=i->i<n+1->¬ HI (top - (i:Int))/\¬ HJ (top - (i:Int))):=by
     intro i g1 g2
     rcases Nat.lt_or_ge i n with g3|g3
     ·exact hprev.out i g1 g3
     ·obtain rfl:i=n:=by omega
      exact ⟨z1,z2⟩
    clear hb hb2 HC z1 z2 hprev
    go_wp2_with fail
    go_roundw
    case rel=>exact ⟨n+1,by congr 1<;>omega,by omega,by omega,HPR,B6.out⟩
    case measure=>simp [intOf];omega
 ·obtain ⟨n,hn⟩:∃ n:Nat,E=n+1074:=⟨E - 1074,by omega⟩
  have FRAC:=Lib.hid (HFR.out _ _ (frac_up b m E h7 hm h2 n hn))
  have ND:=Lib.hid (num_up (B:=B) (HB.out.trans h7) hm h2 hn)
  have bnds:=frac_bounds FRAC.out (by rw [HB.out,Nat.mod_mod];exact h7) hm hm0 hE h2
  have HS:=Lib.hid (shift_left' _ _ _ n m _ M3.out (bval_canon _) (Nat.le_trans (fits_two m hm).len (by decide)) (by omega))
  unfold SubPost at HS
  have LX:Hid ((canon (m * 2 ^ n)).length<=60):=((fits_two m hm).mul (two_fitsK n 58 (by omega))).len
  have LY:Hid (([1]:List Int).length<=60):=by show 1<=60;omega
  have VX:Hid (bval (canon (m * 2 ^ n))=m * 2 ^ n):=bval_canon _
  have VY:Hid (bval [1]=1):=rfl
  have b1:blen 1<=1100:=Nat.le_trans (blen_le 1 1 (by decide)) (by omega)
  have MG0:=fun w0 xo xc yo (h:Rd .u32 w0 xo xc (canon (m * 2 ^ n))) (g:Rd .u32 w0 yo 1 [1])=>magnitude_any xo yo xc 1 (canon (m * 2 ^ n)) [1] (m * 2 ^ n) 1 w0 h g VX.out VY.out LX.out LY.out (blen_shl m n 1100 hm (by omega)) b1 bnds.1 bnds.2
  unfold MagPost at MG0
  have MG1:=Lib.hid MG0
  have tE:decide (0<=(E:Int) - 1074)=true:=decide_eq_true (by omega)
  have eE:((E:Int) - 1074)=(n:Int):=by omega
  have EE:=Lib.hid eE
  clear hn h7 h2 hm hE MG0 bnds eE hm0 b1
  go_wp2_with fail
  rw [EE.out]
  refine HS.out.mono ?_
  rintro e0 w4 ⟨so,sc,rfl,hr,hb⟩
  have X4:=Lib.hid hr
  have Y4:=Lib.hid (ONE.out.keep hb)
  have B4:=Lib.hid (B3.out.trans (hb.mono B3.out.size))
  have MG:=Lib.hid (MG1.out w4 _ _ _ X4.out Y4.out)
  clear hr hb M3 B3 HS MG1 AL ONE EE
  go_wp2_with fail
  refine MG.out.mono ?_
  rintro e0 w5 ⟨top,rfl,t1,t2,hbel,hnb,hb⟩
  have X5:=Lib.hid (X4.out.keep hb)
  have Y5:=Lib.hid (Y4.out.keep hb)
  have B5:=Lib.hid (B4.out.trans (hb.mono B4.out.size))
  have HNE:=Lib.hid (fun w0 (hb:Below w5.heap.size w5 w0) (j:Nat) (g1:1<=j) (g17:j<=17)=>nearest_any so _ sc 1 (canon (m * 2 ^ n)) [1] (m * 2 ^ n) 1 (top - (j:Int)) B w0 (X5.out.keep hb) (Y5.out.keep hb) VX.out VY.out LX.out LY.out (by omega) (by omega) (Nat.pos_iff_ne_zero.1 FRAC.out.2) (low_small FRAC.out.2 hbel g17))
  have SEV:=Lib.hid (seventeen FRAC.out HB9.out HZ.out hnb)
  unfold NearestPost at HNE
  have HIN:=Lib.hid (show ∀ (j:Nat) c,1<=j->j<=17->(c=lowOf (m * 2 ^ n) 1 (top - (j:Int))\/c=highOf (m * 2 ^ n) 1 (top - (j:Int)))->Pick (lowOf (m * 2 ^ n) 1 (top - (j:Int))) (highOf (m * 2 ^ n) 1 (top - (j:Int))) (top - (j:Int)) B (halfOf (m * 2 ^ n) 1 (top - (j:Int))) c->Hits c (top - (j:Int)) B->(∀ i:Nat,1<=i->i<j->¬ Hits (lowOf (m * 2 ^ n) 1 (top - (i:Int))) (top - (i:Int)) B/\¬ Hits (highOf (m * 2 ^ n) 1 (top - (i:Int))) (top - (i:Int)) B)->ShortIs B c (top - (j:Int)) from
   fun j c g1 g2 g3 gp g4 g5=>⟨(m * 2 ^ n),1,top,j,FRAC.out,hbel,hnb,g1,g2,⟨t1,ND.out.1,ND.out.2,gp⟩,t2,rfl,g3,g4,g5⟩)
  obtain ⟨HI,hHI⟩:∃ HI:Int->Prop,HI=fun k=>Hits (lowOf (m * 2 ^ n) 1 k) k B:=⟨_,rfl⟩
  obtain ⟨HJ,hHJ⟩:∃ HJ:Int->Prop,HJ=fun k=>Hits (highOf (m * 2 ^ n) 1 k) k B:=⟨_,rfl⟩
  have i1:∀ k,HI k=Hits (lowOf (m * 2 ^ n) 1 k) k B:=fun k=>by rw [hHI]
  have i2:∀ k,HJ k=Hits (highOf (m * 2 ^ n) 1 k) k B:=fun k=>by rw [hHJ]
  simp only [<-i1,<-i2] at HNE SEV HIN
  generalize lowOf (m * 2 ^ n) 1=LO at *
  generalize highOf (m * 2 ^ n) 1=HG at *
  clear hb X4 Y4 B4 MG hbel hnb X5 Y5 i1 i2 hHI hHJ VX VY LX LY FRAC ND
  go_wp2_with fail
  go_loopw [11,12,13,14] (fun nv a1 a2 a3 wr=>∃ n:Nat,nv=.int .i64 n/\1<=n/\n<=17/\Hid (∀ i:Nat,1<=i->i<n->¬ HI (top - (i:Int))/\¬ HJ (top - (i:Int)))/\Below w5.heap.size w5 wr) (fun nv _ _ _ _=>18 - (intOf nv).toNat)
  case atStart=>exact ⟨1,rfl,by omega,by omega,(fun i h1 h2=>absurd h1 (by omega)),Below.refl _ _⟩
  case round =>
   obtain ⟨n,rfl,n1,n2,hprev,hb⟩:=hrel
   have HC:=Lib.hid (HNE.out wr hb n n1 n2)
   go_wp2_with fail
   refine HC.out.mono ?_
   rintro e0 w6 (⟨c,hc,hpk,hit,rfl,hb2⟩|⟨z1,z2,rfl,hb2⟩)
   ·have B6:=Lib.hid (B5.out.trans ((hb.trans (hb2.mono hb.size)).mono B5.out.size))
    have IN:=Lib.hid (HIN.out n c n1 n2 hc hpk hit hprev.out)
    clear hb hb2 hc hpk hit HC
    have hfin:=Lib.hid (HPOST.out _ w6 c _ IN.out rfl B6.out)
    generalize shortOf c=st at *
    generalize decText c=dt at *
    go_wp2
    go_ret3
    exact hfin.out
   ·have B6:=Lib.hid (hb.trans (hb2.mono hb.size))
    have hlt:n<17:=by
     apply Classical.byContradiction
     intro hc
     obtain rfl:n=17:=by omega
     exact SEV.out.elim z1 z2
    have HPR:Hid (∀ i:Nat,1<=i->i<n+1->¬ HI (top - (i:Int))/\¬ HJ (top - (i:Int))):=by
     intro i g1 g2
     rcases Nat.lt_or_ge i n with g3|g3
     ·exact hprev.out i g1 g3
     ·obtain rfl:i=n:=by omega
      exact ⟨z1,z2⟩
    clear hb hb2 HC z1 z2 hprev
    go_wp2_with fail
    go_roundw
    case rel=>exact ⟨n+1,by congr 1<;>omega,by omega,by omega,HPR,B6.out⟩
    case measure=>simp [intOf];omega
end Go.Proofs.YtldhmfkojaekfaaGreatDoor
namespace Go.Proofs.YtldhmfkojaekfaaGreatDoor
set_option maxRecDepth 100000
theorem dec_lt (n:Nat):n<10 ^ (decText n).length:=by
 by_cases h:n=0
 ·subst h;decide
 ·have h1:=dig_len_lt n
  have h2:(decText n).length=(dig n).length:=by
   unfold decText;rw [if_neg h,List.length_map,List.length_reverse]
  rw [h2];exact h1
theorem trimRight_snoc (l:List UInt8):Lib.trimRightB (l++[48]) 48=Lib.trimRightB l 48:=by
 unfold Lib.trimRightB
 rw [List.reverse_append]
 simp
theorem shortOf_ten (c:Nat) (h:c≠0):shortOf (c * 10)=shortOf c:=by
 unfold shortOf
 rw [text_big (c * 10) (by omega),show c * 10 / 10=c by omega,show c * 10 % 10=0 by omega]
 exact trimRight_snoc _
theorem short_pow (n:Nat):shortOf (10 ^ n)=shortOf 1:=by
 induction n with
 | zero=>rfl
 | succ n ih=>rw [Nat.pow_succ,shortOf_ten _ (Nat.pos_iff_ne_zero.1 (Nat.pow_pos (by decide))),ih]
theorem short_le (c n:Nat) (h:c<=10 ^ n) (hn:1<=n):(shortOf c).length<=n:=by
 rcases Nat.lt_or_ge c (10 ^ n) with h1|h1
 ·exact Nat.le_trans (trimRight_len _ _) (decText_len c n h1 hn)
 ·have:c=10 ^ n:=by omega
  rw [this,short_pow]
  have h2:=trimRight_len (decText 1) 48
  rw [text_small 1 (by decide)] at h2
  unfold shortOf
  rw [text_small 1 (by decide)]
  exact Nat.le_trans h2 hn
theorem high_le_low (N D:Nat) (k:Int):highOf N D k<=lowOf N D k+1:=by
 unfold highOf;split<;>omega
theorem shortIs_len {B c:Nat} {kk:Int} (h:ShortIs B c kk):c<=100000000000000000/\(shortOf c).length<=17:=by
 obtain ⟨N,D,top,n0,hF,hb,hnb,h1,h17,-,-,rfl,hc,-,-⟩:=h
 have a1:=low_lt (n:=n0) hF.2 hb
 have a2:=high_le_low N D (top - (n0:Int))
 have a3:c<=10 ^ n0:=by rcases hc with rfl|rfl<;>omega
 have a4:=Nat.pow_le_pow_right (show 10 > 0 by decide) h17
 have a5:(10:Nat) ^ 17=100000000000000000:=by decide
 have a6:=short_le c n0 a3 h1
 omega
end Go.Proofs.YtldhmfkojaekfaaGreatDoor
namespace Go.Proofs.YtldhmfkojaekfaaGreatDoor
set_option maxRecDepth 100000
theorem trimRight_other (l:List UInt8) (b:UInt8) (h:b≠48):Lib.trimRightB (l++[b]) 48=l++[b]:=by
 unfold Lib.trimRightB
 rw [List.reverse_append]
 simp [h]
theorem byteOf_ne (d:Nat) (h:d<10) (h0:d≠0):byteOf d≠48:=by
 intro hc
 have h1:=byteOf_nat d h
 rw [hc] at h1
 have h2:(48:UInt8).toNat=48:=rfl
 omega
theorem short_parts (c:Nat) (h:c≠0):∃ (m z:Nat),c=m * 10 ^ z/\m % 10≠0/\shortOf c=decText m/\(decText c).length=(decText m).length+z:=by
 induction c using Nat.strongRecOn with
 | ind c ih =>
   by_cases h0:c % 10=0
   ·have hq:c / 10≠0:=by omega
    obtain ⟨m,z,h1,h2,h3,h4⟩:=ih (c / 10) (by omega) hq
    have hc:c=c / 10 * 10:=by omega
    refine ⟨m,z+1,?_,h2,?_,?_⟩
    ·rw [Nat.pow_succ,<-Nat.mul_assoc,<-h1];exact hc
    ·rw [hc,shortOf_ten _ hq];exact h3
    ·rw [text_big c (by omega),List.length_append,h4];simp;omega
   ·refine ⟨c,0,by simp,h0,?_,by simp⟩
    have hb:byteOf (c % 10)≠48:=byteOf_ne _ (by omega) h0
    unfold shortOf
    by_cases hs:c<10
    ·rw [text_small c hs]
     have e:c % 10=c:=Nat.mod_eq_of_lt hs
     rw [e] at hb
     exact trimRight_other [] _ hb
    ·rw [text_big c (by omega)]
     exact trimRight_other _ _ hb
theorem shortIs_pos {B c:Nat} {kk:Int} (h:ShortIs B c kk) (hB:B≠0):c≠0:=by
 obtain ⟨N,D,top,n0,hF,hb,hnb,h1,h17,-,-,rfl,hc,hit,-⟩:=h
 intro h0
 subst h0
 have h2:Hits 0 (top - (n0:Int)) 0:=by
  unfold Hits
  rw [Nat.zero_mul]
  exact rnd_zero75 _ (tenDn_pos _)
 exact hB (hit.uniq h2)
end Go.Proofs.YtldhmfkojaekfaaGreatDoor
namespace Go.Proofs.YtldhmfkojaekfaaGreatDoor
open Go.RowKit Gx
set_option maxRecDepth 100000
theorem dec_head (m:Nat) (h:m≠0):(decText m).head?≠some 48:=by
 intro hc
 have h1:=(decOk_text m).2.2 hc
 by_cases hs:m<10
 ·rw [text_small m hs] at hc
  exact byteOf_ne m hs h (by simpa using hc)
 ·rw [text_big m (by omega),List.length_append] at h1
  have:=text_pos (m / 10)
  simp only [List.length_cons,List.length_nil] at h1
  omega
end Go.Proofs.YtldhmfkojaekfaaGreatDoor
namespace Go.Proofs.YtldhmfkojaekfaaGreatDoor
open Go
set_option maxRecDepth 100000
theorem decDigits_text (u:Nat):Lib.decDigits u=decText u:=by
 induction u using Nat.strongRecOn with
 | ind u ih =>
   rw [Lib.decDigits]
   by_cases h:u<10
   ·rw [dif_pos h,text_small u h];rfl
   ·rw [dif_neg h,text_big u (by omega),ih (u / 10) (by omega)];rfl
def pointOf (d:List UInt8) (k:Int):List UInt8 :=
 if -3<=(d.length:Int)+k/\(d.length:Int)+k<=0 then [48,46]++List.replicate (-((d.length:Int)+k)).toNat 48++d
 else if 0<(d.length:Int)+k/\(d.length:Int)+k<d.length then d.take ((d.length:Int)+k).toNat++46::d.drop ((d.length:Int)+k).toNat
 else if (d.length:Int)<=(d.length:Int)+k/\(d.length:Int)+k<=17 then d++List.replicate ((d.length:Int)+k - d.length).toNat 48++[46,48]
 else d.take 1++(if 1<d.length then 46::d.drop 1 else [])++101::Lib.itoa ((d.length:Int)+k - 1)
def fracOf (s:List UInt8):Option (List UInt8×List UInt8) :=
 if s.head?=some 46 then
  if s.tail.takeWhile isDigit=[] then none else some (s.tail.takeWhile isDigit,s.tail.dropWhile isDigit)
 else some ([],s)
def expVal (e:List UInt8):Nat:=e.foldl (fun x b=>min (x * 10+(b.toNat - 48)) 100000) 0
def signOf (s:List UInt8):Bool×List UInt8:=if s.head?=some 45 then (true,s.tail) else if s.head?=some 43 then (false,s.tail) else (false,s)
def expEnd (m:Bool×List UInt8):Option Int :=
 if m.2.takeWhile isDigit=[]\/m.2.dropWhile isDigit≠[] then none
 else some (if m.1 then -(expVal (m.2.takeWhile isDigit):Int) else (expVal (m.2.takeWhile isDigit):Int))
def expOf (s:List UInt8):Option Int:=if s=[] then some 0 else if s.head?≠some 101 then none else expEnd (signOf s.tail)
def litEnd (whole:List UInt8) (f:List UInt8×List UInt8):Option (List UInt8×Int):=(expOf f.2).map fun x=>(whole++f.1,x - (f.1.length:Int))
def litOf (s:List UInt8):Option (List UInt8×Int) :=
 if s.takeWhile isDigit=[]\/((s.takeWhile isDigit).head?=some 48/\1<(s.takeWhile isDigit).length)\/s.dropWhile isDigit=[] then none
 else (fracOf (s.dropWhile isDigit)).bind (litEnd (s.takeWhile isDigit))
theorem tw_split:∀ (l r:List UInt8),(∀ b∈l,isDigit b=true)->(∀ b,r.head?=some b->isDigit b=false)->(l++r).takeWhile isDigit=l/\(l++r).dropWhile isDigit=r
 | [],r,_,hr=>by
   cases r with
   | nil=>exact ⟨rfl,rfl⟩
   | cons b t=>have:=hr b rfl;simp [this]
 | a::l,r,h,hr=>by
   have ha:=h a (by simp)
   obtain ⟨e1,e2⟩:=tw_split l r (fun b hb=>h b (by simp [hb])) hr
   simp [ha,e1,e2]
theorem tw_all (l:List UInt8) (h:∀ b∈l,isDigit b=true):l.takeWhile isDigit=l/\l.dropWhile isDigit=[]:=by
 have:=tw_split l [] h (by simp)
 simpa using this
theorem litOf_parts (whole rest f r:List UInt8) (x:Int) (h1:∀ b∈whole,isDigit b=true) (h2:whole≠[]) (h3:whole.head?=some 48->whole.length=1)
 (h4:∀ b,rest.head?=some b->isDigit b=false) (h5:rest≠[]) (h6:fracOf rest=some (f,r)) (h7:expOf r=some x) :
 litOf (whole++rest)=some (whole++f,x - (f.length:Int)):=by
 obtain ⟨e1,e2⟩:=tw_split whole rest h1 h4
 unfold litOf
 rw [e1,e2,if_neg,h6]
 ·simp [litEnd,h7]
 ·rintro (h|⟨h,h'⟩|h)
  ·exact h2 h
  ·have:=h3 h;omega
  ·exact h5 h
theorem fracOf_dot (f r:List UInt8) (h1:∀ b∈f,isDigit b=true) (h2:f≠[]) (h3:∀ b,r.head?=some b->isDigit b=false):fracOf (46::(f++r))=some (f,r):=by
 obtain ⟨e1,e2⟩:=tw_split f r h1 h3
 unfold fracOf
 simp [e1,e2,h2]
theorem expF:∀ (l:List UInt8) (a c:Nat),c=min a 100000->l.foldl (fun x (b:UInt8)=>min (x * 10+(b.toNat - 48)) 100000) c=min (l.foldl (fun x (b:UInt8)=>x * 10+(b.toNat - 48)) a) 100000
 | [],a,c,h=>h
 | b::l,a,c,h=>by
   rw [List.foldl_cons,List.foldl_cons]
   exact expF l _ _ (by subst h;omega)
theorem expVal_text (u:Nat) (h:u<=100000):expVal (decText u)=u:=by
 have e:=expF (decText u) 0 0 rfl
 have e2:=decVal_text u
 unfold decVal at e2
 unfold expVal
 rw [e,e2];omega
theorem text_digits (m:Nat):∀ b∈decText m,isDigit b=true:=(decOk_text m).2.1
theorem text_ne (m:Nat):decText m≠[]:=(decOk_text m).1
theorem expOf_itoa (y:Int) (h1:-100000<=y) (h2:y<=100000):expOf (101::Lib.itoa y)=some y:=by
 unfold expOf
 rw [if_neg (by simp),if_neg (by simp)]
 show expEnd (signOf (Lib.itoa y))=_
 have hs:signOf (Lib.itoa y)=(decide (y<0),decText y.natAbs):=by
  unfold Lib.itoa
  by_cases hy:y<0
  ·rw [if_pos hy,decDigits_text,decide_eq_true hy];rfl
  ·rw [if_neg hy,decDigits_text,decide_eq_false hy,show y.toNat=y.natAbs by omega]
   have hd:=text_digits y.natAbs
   cases ht:decText y.natAbs with
   | nil=>exact absurd ht (text_ne _)
   | cons a t =>
     rw [ht] at hd
     have ha:=hd a (by simp)
     have n1:a≠45:=by intro h;subst h;exact absurd ha (by decide)
     have n2:a≠43:=by intro h;subst h;exact absurd ha (by decide)
     unfold signOf
     simp [n1,n2]
 rw [hs]
 obtain ⟨e1,e2⟩:=tw_all (decText y.natAbs) (text_digits _)
 unfold expEnd
 simp only
 rw [e1,e2,if_neg (by rintro (h|h);exact text_ne _ h;exact h rfl),expVal_text _ (by omega)]
 by_cases hy:y<0
 ·simp only [decide_eq_true hy,if_true];congr 1;omega
 ·rw [decide_eq_false hy];simp;omega
theorem rep_digits (n:Nat):∀ b∈List.replicate n (48:UInt8),isDigit b=true:=by
 intro b hb
 rw [List.mem_replicate] at hb
 rw [hb.2];decide
theorem head_take (l:List UInt8) (n:Nat) (hn:0<n):(l.take n).head?=l.head?:=by
 cases l with
 | nil=>simp
 | cons a t=>cases n with
   | zero=>omega
   | succ n=>rfl
theorem dot_head (t:List UInt8):∀ b,(46::t).head?=some b->isDigit b=false:=by
 intro b hb
 have:b=46:=by simpa using hb.symm
 subst this;decide
theorem lit_point (d:List UInt8) (k:Int) (h1:∀ b∈d,isDigit b=true) (h2:d≠[]) (h0:d.head?≠some 48) (h3:d.length<=17) (h4:-2000<=k) (h5:k<=2000) :
 ∃ a z:Nat,litOf (pointOf d k)=some (List.replicate a 48++d++List.replicate z 48,k - (z:Int))/\z<=18:=by
 have hl:0<d.length:=List.length_pos_iff.2 h2
 obtain ⟨n,hn⟩:∃ n,n=d.length:=⟨_,rfl⟩
 unfold pointOf
 rw [<-hn] at h3 hl ⊢
 by_cases c1:-3<=(n:Int)+k/\(n:Int)+k<=0
 ·rw [if_pos c1]
  obtain ⟨j,hj⟩:∃ j,j=(-((n:Int)+k)).toNat:=⟨_,rfl⟩
  rw [<-hj]
  refine ⟨j+1,0,?_,by omega⟩
  have e:[48,46]++List.replicate j 48++d=[48]++(46::((List.replicate j 48++d)++[])):=by simp
  have hf:∀ b∈List.replicate j 48++d,isDigit b=true:=fun b hb=>(List.mem_append.1 hb).elim (rep_digits j b) (h1 b)
  rw [e,litOf_parts [48] _ (List.replicate j 48++d) [] 0 (by decide) (by decide) (by decide) (dot_head _) (by simp)
   (fracOf_dot _ _ hf (by simp [h2]) (by simp)) rfl]
  congr 1
  have e2:[48]++(List.replicate j 48++d)=List.replicate (j+1) 48++d++List.replicate 0 48:=by simp [List.replicate_succ]
  rw [e2]
  congr 1
  simp only [List.length_append,List.length_replicate,<-hn]
  omega
 rw [if_neg c1]
 by_cases c2:0<(n:Int)+k/\(n:Int)+k<n
 ·rw [if_pos c2]
  obtain ⟨p,hp⟩:∃ p,p=((n:Int)+k).toNat:=⟨_,rfl⟩
  rw [<-hp]
  refine ⟨0,0,?_,by omega⟩
  have e:d.take p++46::d.drop p=d.take p++(46::(d.drop p++[])):=by simp
  rw [e,litOf_parts (d.take p) _ (d.drop p) [] 0 (fun b hb=>h1 b (List.mem_of_mem_take hb)) (by intro h;have:=congrArg List.length h;rw [List.length_take,List.length_nil] at this;omega)
   (by rw [head_take d p (by omega)];exact fun h=>absurd h h0) (dot_head _) (by simp)
   (fracOf_dot _ _ (fun b hb=>h1 b (List.mem_of_mem_drop hb)) (by intro h;have:=congrArg List.length h;rw [List.length_drop,List.length_nil] at this;omega) (by simp)) rfl]
  rw [List.take_append_drop]
  congr 1
  simp only [List.length_drop,<-hn,List.replicate_zero,List.nil_append,List.append_nil]
  congr 1
  omega
 rw [if_neg c2]
 by_cases c3:(n:Int)<=(n:Int)+k/\(n:Int)+k<=17
 ·rw [if_pos c3]
  obtain ⟨j,hj⟩:∃ j,j=((n:Int)+k - n).toNat:=⟨_,rfl⟩
  rw [<-hj]
  refine ⟨0,j+1,?_,by omega⟩
  have e:d++List.replicate j 48++[46,48]=(d++List.replicate j 48)++(46::([48]++[])):=by simp
  have hd:∀ b∈d++List.replicate j 48,isDigit b=true:=fun b hb=>(List.mem_append.1 hb).elim (h1 b) (rep_digits j b)
  have hh:(d++List.replicate j 48).head?=d.head?:=by
   cases d with
   | nil=>exact absurd rfl h2
   | cons a t=>rfl
  rw [e,litOf_parts (d++List.replicate j 48) _ [48] [] 0 hd (by simp [h2]) (by rw [hh];exact fun h=>absurd h h0) (dot_head _) (by simp)
   (fracOf_dot _ _ (by decide) (by decide) (by simp)) rfl]
  congr 1
  have e2:d++List.replicate j 48++[48]=List.replicate 0 48++d++List.replicate (j+1) 48:=by simp [List.replicate_succ']
  rw [e2]
  congr 1
  simp only [List.length_cons,List.length_nil]
  omega
 rw [if_neg c3]
 refine ⟨0,0,?_,by omega⟩
 have hex:=expOf_itoa ((n:Int)+k - 1) (by omega) (by omega)
 have hne:∀ b,(101::Lib.itoa ((n:Int)+k - 1)).head?=some b->isDigit b=false:=by
  intro b hb;have:b=101:=by simpa using hb.symm
  subst this;decide
 by_cases c4:1<n
 ·rw [if_pos c4]
  have e:d.take 1++46::d.drop 1++101::Lib.itoa ((n:Int)+k - 1)=d.take 1++(46::(d.drop 1++(101::Lib.itoa ((n:Int)+k - 1)))):=by simp
  rw [e,litOf_parts (d.take 1) _ (d.drop 1) _ _ (fun b hb=>h1 b (List.mem_of_mem_take hb)) (by intro h;have:=congrArg List.length h;rw [List.length_take,List.length_nil] at this;omega)
   (by rw [head_take d 1 (by omega)];exact fun h=>absurd h h0) (dot_head _) (by simp)
   (fracOf_dot _ _ (fun b hb=>h1 b (List.mem_of_mem_drop hb)) (by intro h;have:=congrArg List.length h;rw [List.length_drop,List.length_nil] at this;omega) hne) hex]
  rw [List.take_append_drop]
  congr 1
  simp only [List.length_drop,<-hn,List.replicate_zero,List.nil_append,List.append_nil]
  congr 1
  omega
 ·rw [if_neg c4,List.append_nil]
  have e:d.take 1=d:=List.take_of_length_le (by omega)
  rw [e,litOf_parts d _ [] _ _ h1 h2 (fun h=>absurd h h0) hne (by simp) (by unfold fracOf;rw [if_neg (by simp)]) hex]
  congr 1
  simp only [List.length_nil,List.replicate_zero,List.nil_append,List.append_nil]
  congr 1
  omega
theorem itoa_len (y:Int) (h1:-10000<y) (h2:y<10000):(Lib.itoa y).length<=5:=by
 unfold Lib.itoa
 split
 ·rw [decDigits_text,List.length_cons]
  have:=decText_len y.natAbs 4 (by omega) (by omega)
  omega
 ·rw [decDigits_text]
  have:=decText_len y.toNat 4 (by omega) (by omega)
  omega
theorem point_len (d:List UInt8) (k:Int) (h3:d.length<=17) (h4:-2000<=k) (h5:k<=2000):(pointOf d k).length<=29:=by
 unfold pointOf
 split
 ·simp only [List.length_append,List.length_cons,List.length_nil,List.length_replicate];omega
 split
 ·simp only [List.length_append,List.length_cons,List.length_take,List.length_drop];omega
 split
 ·simp only [List.length_append,List.length_cons,List.length_nil,List.length_replicate];omega
 ·have:=itoa_len ((d.length:Int)+k - 1) (by omega) (by omega)
  simp only [List.length_append,List.length_cons,List.length_take]
  split<;>simp<;>omega
theorem point_head (d:List UInt8) (k:Int) (h1:∀ b∈d,isDigit b=true) (h2:d≠[]):∃ c t,pointOf d k=c::t/\isDigit c=true:=by
 cases d with
 | nil=>exact absurd rfl h2
 | cons a t =>
   have ha:=h1 a (by simp)
   unfold pointOf
   split
   ·exact ⟨48,_,rfl,by decide⟩
   split
   ·rename_i hc
    obtain ⟨p,hp⟩:∃ p,(((a::t).length:Int)+k).toNat=p+1:=⟨_,(Nat.succ_pred_eq_of_pos (by omega)).symm⟩
    rw [hp]
    exact ⟨a,_,rfl,ha⟩
   split
   ·exact ⟨a,_,rfl,ha⟩
   ·exact ⟨a,_,rfl,ha⟩
theorem trimLeft_point (d:List UInt8) (a z:Nat) (h2:d≠[]) (h0:d.head?≠some 48):Lib.trimLeftB (List.replicate a 48++d++List.replicate z 48) 48=d++List.replicate z 48:=by
 unfold Lib.trimLeftB
 induction a with
 | zero =>
   cases d with
   | nil=>exact absurd rfl h2
   | cons b t =>
     have:b≠48:=by intro h;apply h0;simp [h]
     simp [this]
 | succ a ih=>rw [List.replicate_succ];simpa using ih
theorem decVal_noughts (d:List UInt8) (z:Nat):decVal (d++List.replicate z 48)=decVal d * 10 ^ z:=by
 induction z with
 | zero=>simp
 | succ z ih =>
   rw [List.replicate_succ',<-List.append_assoc,decVal_snoc,ih,Nat.pow_succ,<-Nat.mul_assoc]
   simp
end Go.Proofs.YtldhmfkojaekfaaGreatDoor
namespace Go.Proofs.YtldhmfkojaekfaaGreatDoor
open Go.RowKit Gx
set_option maxRecDepth 100000
def infTxt:List UInt8:=[105,110,102]
def nanTxt:List UInt8:=[110,97,110]
def signBit (b:Bool):Nat:=if b then 9223372036854775808 else 0
def NumIs (l:List UInt8) (x:Nat) (er:Int) (m:Bool):Prop :=
 (litOf l=none/\x=0/\er≠0) \/
 (∃ d e b,litOf l=some (d,e)/\Hits (decVal (Lib.trimLeftB d 48)) (max (min e 1000) (-1000)) b/\((b=9218868437227405312/\x=0/\er≠0)\/(b<9218868437227405312/\x=b+signBit m/\er=0)))
def ReadIs (l:List UInt8) (x:Nat) (er:Int):Prop :=
 (80<l.length/\x=0/\er≠0)\/(l.length<=80 /\
  ((l=nanTxt/\x=9221120237041090561/\er=0)\/(l≠nanTxt/\Lib.trimPrefix l [45]=infTxt/\x=9218868437227405312+signBit (Lib.hasPrefix l [45])/\er=0) \/
   (l≠nanTxt/\Lib.trimPrefix l [45]≠infTxt/\NumIs (Lib.trimPrefix l [45]) x er (Lib.hasPrefix l [45]))))
theorem tw_digs:∀ (l:List UInt8),∀ b∈l.takeWhile isDigit,isDigit b=true
 | [],b,hb=>by simp at hb
 | a::l,b,hb=>by
   cases ha:isDigit a with
   | false=>simp [ha] at hb
   | true =>
     rw [List.takeWhile_cons,if_pos ha] at hb
     rcases List.mem_cons.1 hb with rfl|hb
     ·exact ha
     ·exact tw_digs l b hb
theorem frac_some {s f r:List UInt8} (h:fracOf s=some (f,r)):(∀ b∈f,isDigit b=true)/\f.length<=s.length:=by
 unfold fracOf at h
 split at h
 ·split at h
  ·cases h
  ·obtain ⟨rfl,rfl⟩:=Prod.mk.inj (Option.some.inj h)
   exact ⟨tw_digs _,by have:=(List.takeWhile_sublist isDigit (l:=s.tail)).length_le;rw [List.length_tail] at this;omega⟩
 ·obtain ⟨rfl,rfl⟩:=Prod.mk.inj (Option.some.inj h)
  exact ⟨fun b hb=>by simp at hb,by simp⟩
theorem litOf_some {l d:List UInt8} {x:Int} (h:litOf l=some (d,x)):(∀ b∈d,isDigit b=true)/\d≠[]/\d.length<=2 * l.length:=by
 unfold litOf at h
 split at h
 ·cases h
 ·rename_i hc
  have hne:l.takeWhile isDigit≠[]:=fun h=>hc (.inl h)
  have l1:=(List.takeWhile_sublist isDigit (l:=l)).length_le
  have l2:=(List.dropWhile_sublist isDigit (l:=l)).length_le
  have htw:=tw_digs l
  obtain ⟨⟨f,r⟩,hf,he⟩:=Option.bind_eq_some_iff.1 h
  unfold litEnd at he
  obtain ⟨a,-,ha⟩:=Option.map_eq_some_iff.1 he
  obtain ⟨rfl,-⟩:=Prod.mk.inj ha
  obtain ⟨g1,g2⟩:=frac_some hf
  refine ⟨fun b hb=>(List.mem_append.1 hb).elim (htw b) (g1 b),fun h=>hne (List.append_eq_nil_iff.1 h).1,?_⟩
  show (l.takeWhile isDigit++f).length<=_
  rw [List.length_append];omega
theorem trim_ok {d:List UInt8} (h:∀ b∈d,isDigit b=true) (hne:Lib.trimLeftB d 48≠[]):decOk (Lib.trimLeftB d 48):=by
 have hsub:∀ b∈Lib.trimLeftB d 48,isDigit b=true:=fun b hb=>h b ((List.dropWhile_sublist _).subset hb)
 refine ⟨hne,hsub,?_⟩
 intro hh
 exfalso
 unfold Lib.trimLeftB at hh
 have:=List.head?_dropWhile_not (fun x:UInt8=>x==48) d
 rw [hh] at this
 simp at this
theorem trim_len (d:List UInt8):(Lib.trimLeftB d 48).length<=d.length:=(List.dropWhile_sublist _).length_le
theorem decVal_lt {l:List UInt8} (h:decOk l):decVal l<10 ^ l.length:=by
 have h1:=dec_lt (decVal l)
 rwa [text_decVal l h] at h1
def sgOf (b:Nat):List UInt8:=if 9223372036854775808<=b then [45] else []
def TextIs (b:Nat) (t:List UInt8):Prop :=
 (b / 4503599627370496 % 2048=2047/\b % 4503599627370496≠0/\t=nanTxt)\/(b / 4503599627370496 % 2048=2047/\b % 4503599627370496=0/\t=sgOf b++infTxt) \/
 (b / 4503599627370496 % 2048≠2047/\b % 9223372036854775808=0/\t=sgOf b++[48,46,48]) \/
 (b / 4503599627370496 % 2048≠2047/\b % 9223372036854775808≠0/\∃ (c m z:Nat) (kk:Int),ShortIs (b % 9223372036854775808) c kk/\c=m * 10 ^ z/\m % 10≠0/\m≠0/\(decText m).length<=17/\-500<=kk+(z:Int)/\kk+(z:Int)<=500/\t=sgOf b++pointOf (decText m) (kk+(z:Int)))
theorem same_num (m z y:Nat) (kk k:Int) (hk:k=kk+(z:Int)):m * 10 ^ y * tenUp (k - (y:Int)) * tenDn kk=m * 10 ^ z * tenUp kk * tenDn (k - (y:Int)):=by
 have h1:=ten_shift k z
 have h2:=ten_shift k y
 rw [show k - (z:Int)=kk by omega] at h1
 have hp:=tenDn_pos k
 generalize tenUp k=A at *
 generalize tenDn kk=B at *
 generalize tenUp kk=C at *
 generalize tenDn k=D at *
 generalize tenDn (k - (y:Int))=E at *
 generalize tenUp (k - (y:Int))=F at *
 generalize 10 ^ z=P at *
 generalize 10 ^ y=Q at *
 apply Nat.eq_of_mul_eq_mul_right hp
 calc m * Q * F * B * D=m * B * (Q * F * D):=by ac_rfl
  _=m * B * (A * E):=by rw [h2]
  _=m * E * (A * B):=by ac_rfl
  _=m * E * (P * C * D):=by rw [h1]
  _=m * P * C * E * D:=by ac_rfl
theorem hits_same {c m z y B b:Nat} {kk k:Int} (h:Hits c kk B) (hc:c=m * 10 ^ z) (hk:k=kk+(z:Int)) (g:Hits (m * 10 ^ y) (k - (y:Int)) b):b=B:=by
 refine Rnd.uniq g h (tenDn_pos _) (tenDn_pos _) (y75_mul _ _ _ _ ?_)
 rw [hc]
 exact same_num m z y kk k hk
theorem sg_facts (b:Nat) (c:UInt8) (t:List UInt8) (hc:c≠45):Lib.hasPrefix (sgOf b++c::t) [45]=decide (9223372036854775808<=b)/\Lib.trimPrefix (sgOf b++c::t) [45]=c::t/\(c≠110->sgOf b++c::t≠nanTxt)/\(sgOf b).length<=1:=by
 have hp:∀ a t,Lib.hasPrefix (a::t) [45]=(45==a):=fun a t=>by unfold Lib.hasPrefix;simp [List.isPrefixOf]
 unfold sgOf
 by_cases h:9223372036854775808<=b
 ·rw [if_pos h,decide_eq_true h]
  refine ⟨rfl,rfl,fun _=>?_,by simp⟩
  intro h2
  cases h2
 ·rw [if_neg h,decide_eq_false h]
  have e:Lib.hasPrefix (c::t) [45]=false:=by rw [hp];simpa using fun h=>hc h.symm
  refine ⟨e,?_,fun h2 h3=>h2 (List.cons.inj h3).1,by simp⟩
  unfold Lib.trimPrefix
  rw [List.nil_append,e];rfl
theorem text_back {b x:Nat} {t:List UInt8} {er:Int} (hb:b<18446744073709551616) (ht:TextIs b t) (hr:ReadIs t x er) (hn:¬ (b / 4503599627370496 % 2048=2047/\b % 4503599627370496≠0)):x=b/\er=0/\t.length<=30:=by
 have hs:b=b % 9223372036854775808+signBit (decide (9223372036854775808<=b)):=by
  unfold signBit
  by_cases h:9223372036854775808<=b
  ·rw [decide_eq_true h,if_pos rfl];omega
  ·rw [decide_eq_false h,if_neg (by decide)];omega
 rcases ht with ⟨h1,h2,-⟩|⟨h1,h2,rfl⟩|⟨h1,h2,rfl⟩|⟨h1,h2,c,m,z,kk,hS,hc,hm,hm0,hl,k1,k2,rfl⟩
 ·exact absurd ⟨h1,h2⟩ hn
 ·obtain ⟨f1,f2,f3,f4⟩:=sg_facts b 105 [110,102] (by decide)
  have e:sgOf b++infTxt=sgOf b++105::[110,102]:=rfl
  have hlen:(sgOf b++infTxt).length<=30:=by rw [List.length_append];have:infTxt.length=3:=rfl;omega
  rcases hr with ⟨h,-⟩|⟨-,⟨h,-⟩|⟨-,h3,h4,h5⟩|⟨-,h3,-⟩⟩
  ·omega
  ·rw [e] at h;exact absurd h (f3 (by decide))
  ·rw [e,f1] at h4
   refine ⟨?_,h5,hlen⟩
   have:b % 9223372036854775808=9218868437227405312:=by omega
   omega
  ·exact absurd (by rw [e,f2];rfl) h3
 ·obtain ⟨f1,f2,f3,f4⟩:=sg_facts b 48 [46,48] (by decide)
  have hlen:(sgOf b++[48,46,48]).length<=30:=by rw [List.length_append];simp;omega
  rcases hr with ⟨h,-⟩|⟨-,⟨h,-⟩|⟨-,h3,-⟩|⟨-,-,h6⟩⟩
  ·omega
  ·exact absurd h (f3 (by decide))
  ·rw [f2] at h3;cases h3
  ·rw [f1,f2] at h6
   have e:litOf [48,46,48]=some ([48,48],-1):=rfl
   rcases h6 with ⟨h,-⟩|⟨d,ex,b',hd,hh,h7⟩
   ·rw [e] at h;cases h
   ·rw [e] at hd
    obtain ⟨rfl,rfl⟩:=Prod.mk.inj (Option.some.inj hd)
    have e2:decVal (Lib.trimLeftB [48,48] 48)=0:=rfl
    rw [e2] at hh
    have h0:Hits 0 (max (min (-1) 1000) (-1000)) 0:=by
     unfold Hits
     rw [Nat.zero_mul]
     exact rnd_zero75 _ (tenDn_pos _)
    obtain rfl:=hh.uniq h0
    rcases h7 with ⟨h,-⟩|⟨-,h8,h9⟩
    ·cases h
    ·exact ⟨by omega,h9,hlen⟩
 ·obtain ⟨hd,tl,hp,hdig⟩:=point_head (decText m) (kk+(z:Int)) (text_digits m) (text_ne m)
  have hpl:=point_len (decText m) (kk+(z:Int)) hl (by omega) (by omega)
  obtain ⟨a,y,hlit,hy⟩:=lit_point (decText m) (kk+(z:Int)) (text_digits m) (text_ne m) (dec_head m hm0) hl (by omega) (by omega)
  have hd45:hd≠45:=by rintro rfl;revert hdig;decide
  have hd110:hd≠110:=by rintro rfl;revert hdig;decide
  have hd105:hd≠105:=by rintro rfl;revert hdig;decide
  obtain ⟨f1,f2,f3,f4⟩:=sg_facts b hd tl hd45
  have hlen:(sgOf b++pointOf (decText m) (kk+(z:Int))).length<=30:=by rw [List.length_append];omega
  refine ⟨?_,?_,hlen⟩<;>rw [hp] at hr hlen hlit
  all_goals
   rcases hr with ⟨h,-⟩|⟨-,⟨h,-⟩|⟨-,h3,-⟩|⟨-,-,h6⟩⟩
   ·omega
   ·exact absurd h (f3 hd110)
   ·rw [f2] at h3;exact absurd (List.cons.inj h3).1 hd105
   ·rw [f1,f2] at h6
    rcases h6 with ⟨h,-⟩|⟨d,ex,b',hdd,hh,h7⟩
    ·rw [hlit] at h;cases h
    ·rw [hlit] at hdd
     obtain ⟨rfl,rfl⟩:=Prod.mk.inj (Option.some.inj hdd)
     rw [trimLeft_point _ _ _ (text_ne m) (dec_head m hm0),decVal_noughts,decVal_text,show max (min (kk+(z:Int) - (y:Int)) 1000) (-1000)=kk+(z:Int) - (y:Int) by omega] at hh
     have hit:Hits c kk (b % 9223372036854775808):=by
      obtain ⟨N,D,top,n0,-,-,-,-,-,-,-,rfl,-,g,-⟩:=hS
      exact g
     obtain rfl:=hits_same hit hc rfl hh
     rcases h7 with ⟨h,-⟩|⟨-,h8,h9⟩
     ·exfalso;omega
     ·first|exact h9|omega
theorem shortIs_uniq {B c d:Nat} {kk jj:Int} (h:ShortIs B c kk) (g:ShortIs B d jj):c=d/\kk=jj:=by
 obtain ⟨N,D,top,n0,hF,hb,hnb,h1,h17,⟨-,rfl,rfl,hp⟩,-,rfl,hc,hit,hprev⟩:=h
 obtain ⟨N',D',top',n0',hF',hb',hnb',h1',h17',⟨-,rfl,rfl,hp'⟩,-,rfl,hc',hit',hprev'⟩:=g
 have ht:top=top':=by
  rcases Int.lt_trichotomy top top' with h|h|h
  ·exact absurd (hb.mono (by omega)) hnb'
  ·exact h
  ·exact absurd (hb'.mono (by omega)) hnb
 subst ht
 have hn:n0=n0':=by
  rcases Nat.lt_trichotomy n0 n0' with h|h|h
  ·have:=hprev' n0 h1 h
   rcases hc with rfl|rfl
   ·exact absurd hit this.1
   ·exact absurd hit this.2
  ·exact h
  ·have:=hprev n0' h1' h
   rcases hc' with rfl|rfl
   ·exact absurd hit' this.1
   ·exact absurd hit' this.2
 subst hn
 exact ⟨hp.uniq hp',rfl⟩
theorem ten_free {m n z y:Nat} (h:m * 10 ^ z=n * 10 ^ y) (hm:m % 10≠0) (hn:n % 10≠0):m=n/\z=y:=by
 have key:∀ (m n z y:Nat),m * 10 ^ z=n * 10 ^ y->m % 10≠0->z<=y->m=n/\z=y:=by
  intro m n z y h hm hzy
  obtain ⟨j,rfl⟩:∃ j,y=z+j:=⟨y - z,by omega⟩
  rw [Nat.pow_add,Nat.mul_comm (10 ^ z),<-Nat.mul_assoc] at h
  have h2:=Nat.eq_of_mul_eq_mul_right (Nat.pow_pos (show 0<10 by decide)) h
  cases j with
  | zero=>simpa using h2
  | succ j =>
    exfalso
    rw [Nat.pow_succ,<-Nat.mul_assoc] at h2
    omega
 rcases Nat.le_total z y with h1|h1
 ·exact key m n z y h hm h1
 ·obtain ⟨e1,e2⟩:=key n m y z h.symm hn h1
  exact ⟨e1.symm,e2.symm⟩
theorem read_kind {l:List UInt8} {x:Nat} {er:Int} (hr:ReadIs l x er):x<18446744073709551616/\(er≠0->x=0)/\(x=9221120237041090561\/¬ (x / 4503599627370496 % 2048=2047/\x % 4503599627370496≠0)):=by
 have hsb:∀ m,signBit m=0\/signBit m=9223372036854775808:=fun m=>by cases m;exact .inl rfl;exact .inr rfl
 rcases hr with ⟨-,rfl,h⟩|⟨-,⟨-,rfl,h⟩|⟨-,-,rfl,h⟩|⟨-,-,⟨-,rfl,h⟩|⟨d,e,b,-,-,⟨-,rfl,h⟩|⟨hb,rfl,h⟩⟩⟩⟩
 ·exact ⟨by omega,fun _=>rfl,.inr (by omega)⟩
 ·exact ⟨by omega,fun h2=>absurd h h2,.inl rfl⟩
 ·rcases hsb (Lib.hasPrefix l [45]) with h2|h2<;>rw [h2]<;>exact ⟨by omega,fun h2=>absurd h h2,.inr (by omega)⟩
 ·exact ⟨by omega,fun _=>rfl,.inr (by omega)⟩
 ·exact ⟨by omega,fun _=>rfl,.inr (by omega)⟩
 ·rcases hsb (Lib.hasPrefix l [45]) with h2|h2<;>rw [h2]<;>exact ⟨by omega,fun h2=>absurd h h2,.inr (by omega)⟩
def good (r:Int):Bool:=decide (0<=r) && decide (r<=1114111) && !(decide (55296<=r) && decide (r<=57343))
def runeSize (r:Int):Int:=if good r then (if r<128 then 1 else if r<2048 then 2 else if r<65536 then 3 else 4) else 0
theorem good_iff (r:Int):good r=true↔0<=r/\r<=1114111/\(r<55296\/57343<r):=by
 unfold good
 simp only [Bool.and_eq_true,Bool.not_eq_true',Bool.and_eq_false_iff,decide_eq_true_eq,decide_eq_false_iff_not]
 omega
def SizePost (r:Int) (w:World) (e:Ending) (w':World):Prop:=e=.returned (.int .i64 (runeSize r))/\w=w'
set_option maxHeartbeats 400000 in
theorem size_any (r:Int) (w:World):Calls Tryz.prog 139 #[.int .i32 r] w (SizePost r w):=by
 by_cases h0:r<0
 ·have e:runeSize r=0:=by unfold runeSize;rw [if_neg (by rw [good_iff];omega)]
  go_enter Tryz.func139,Tryz.ntmps139
  go_wp2
  go_ret
  exact ⟨by rw [e];rfl,rfl⟩
 by_cases h1:1114111<r
 ·have e:runeSize r=0:=by unfold runeSize;rw [if_neg (by rw [good_iff];omega)]
  go_enter Tryz.func139,Tryz.ntmps139
  go_wp2
  go_ret
  exact ⟨by rw [e];rfl,rfl⟩
 by_cases h2:55296<=r/\r<=57343
 ·have e:runeSize r=0:=by unfold runeSize;rw [if_neg (by rw [good_iff];omega)]
  obtain ⟨h2,h3⟩:=h2
  go_enter Tryz.func139,Tryz.ntmps139
  go_wp2
  go_ret
  exact ⟨by rw [e];rfl,rfl⟩
 have hg:good r=true:=by rw [good_iff];omega
 have e:runeSize r=if r<128 then 1 else if r<2048 then 2 else if r<65536 then 3 else 4:=by unfold runeSize;rw [if_pos hg]
 have E:=Lib.hid e
 clear e hg
 by_cases h3:55296<=r
 ·have h4:57343<r:=by omega
  clear h2
  by_cases h5:r<65536
  ·have e:runeSize r=3:=by rw [E.out,if_neg (by omega),if_neg (by omega),if_pos h5]
   go_enter Tryz.func139,Tryz.ntmps139
   go_wp2
   go_ret
   exact ⟨by rw [e];rfl,rfl⟩
  ·have e:runeSize r=4:=by rw [E.out,if_neg (by omega),if_neg (by omega),if_neg h5]
   go_enter Tryz.func139,Tryz.ntmps139
   go_wp2
   go_ret
   exact ⟨by rw [e];rfl,rfl⟩
 ·clear h2
  by_cases h5:r<128
  ·have e:runeSize r=1:=by rw [E.out,if_pos h5]
   go_enter Tryz.func139,Tryz.ntmps139
   go_wp2
   go_ret
   exact ⟨by rw [e];rfl,rfl⟩
  by_cases h6:r<2048
  ·have e:runeSize r=2:=by rw [E.out,if_neg h5,if_pos h6]
   go_enter Tryz.func139,Tryz.ntmps139
   go_wp2
   go_ret
   exact ⟨by rw [e];rfl,rfl⟩
  ·have e:runeSize r=3:=by rw [E.out,if_neg h5,if_neg h6,if_pos (by omega)]
   go_enter Tryz.func139,Tryz.ntmps139
   go_wp2
   go_ret
   exact ⟨by rw [e];rfl,rfl⟩
def TruePost (w:World) (e:Ending) (w':World):Prop:=e=.returned (.bool true)/\Below w.heap.size w w'
def encs (l:List Int):List UInt8:=l.flatMap Lib.encodeRune
def textOf (l:List Int):List UInt8:=if l.all good then encs l else []
def textErr (l:List Int):Int:=if l.all good then 0 else 3
theorem byteNat (z:Int) (h0:0<=z) (h1:z<256):(z.toNat.toUInt8).toNat=z.toNat:=by
 show z.toNat % 256=z.toNat
 omega
theorem dN2 (n b2 b3 r:Nat) (h0:128<=r) (h1:r<=2047) (hn:1<n):Lib.decodeN n (192+r / 64) (128+r % 64) b2 b3=(r,2):=by
 unfold Lib.decodeN
 rw [if_neg (by omega),if_pos (by omega),if_pos (by omega)]
 congr 1;omega
theorem dN3 (n b3 r:Nat) (h0:2048<=r) (h1:r<=65535) (h2:r<55296\/57343<r) (hn:2<n):Lib.decodeN n (224+r / 4096) (128+r / 64 % 64) (128+r % 64) b3=(r,3):=by
 have e:(224+r / 4096) % 16 * 4096+(128+r / 64 % 64) % 64 * 64+(128+r % 64) % 64=r:=by omega
 unfold Lib.decodeN
 rw [if_neg (by omega),if_neg (by omega),if_pos (by omega),e,if_pos (by omega)]
theorem dN4 (n r:Nat) (h0:65536<=r) (h1:r<=1114111) (hn:3<n):Lib.decodeN n (240+r / 262144) (128+r / 4096 % 64) (128+r / 64 % 64) (128+r % 64)=(r,4):=by
 have e:(240+r / 262144) % 8 * 262144+(128+r / 4096 % 64) % 64 * 4096+(128+r / 64 % 64) % 64 * 64+(128+r % 64) % 64=r:=by omega
 unfold Lib.decodeN
 rw [if_neg (by omega),if_neg (by omega),if_neg (by omega),if_pos (by omega),e,if_pos (by omega)]
theorem decode_enc (r:Int) (hg:good r=true) (x:List UInt8):Lib.decodeL (Lib.encodeRune r++x)=(r.toNat,(Lib.encodeRune r).length):=by
 rw [good_iff] at hg
 obtain ⟨r,rfl⟩:=Int.eq_ofNat_of_zero_le hg.1
 rw [Lib.decodeL_N,Int.toNat_natCast]
 unfold Lib.encodeRune
 by_cases r1:(r:Int)<=127
 ·rw [Lib.encodeRuneZ_one hg.1 r1]
  simp only [List.map_cons,List.map_nil,List.cons_append,List.nil_append,List.getD_cons_zero,List.length_cons,List.length_nil]
  rw [byteNat _ (by omega) (by omega),Lib.decodeN_ascii _ _ _ _ _ (by omega)]
  simp
 by_cases r2:(r:Int)<=2047
 ·rw [Lib.encodeRuneZ_two (by omega) r2]
  simp only [List.map_cons,List.map_nil,List.cons_append,List.nil_append,List.getD_cons_zero,List.getD_cons_succ,List.length_cons,List.length_nil]
  rw [byteNat _ (by omega) (by omega),byteNat _ (by omega) (by omega),show (192+(r:Int) / 64).toNat=192+r / 64 by omega,show (128+(r:Int) % 64).toNat=128+r % 64 by omega]
  exact dN2 _ _ _ r (by omega) (by omega) (by omega)
 by_cases r3:(r:Int)<=65535
 ·rw [Lib.encodeRuneZ_three (by omega)]
  simp only [List.map_cons,List.map_nil,List.cons_append,List.nil_append,List.getD_cons_zero,List.getD_cons_succ,List.length_cons,List.length_nil]
  rw [byteNat _ (by omega) (by omega),byteNat _ (by omega) (by omega),byteNat _ (by omega) (by omega),show (224+(r:Int) / 4096).toNat=224+r / 4096 by omega,
   show (128+(r:Int) / 64 % 64).toNat=128+r / 64 % 64 by omega,show (128+(r:Int) % 64).toNat=128+r % 64 by omega]
  exact dN3 _ _ r (by omega) (by omega) (by omega) (by omega)
 ·rw [Lib.encodeRuneZ_four (by omega) (by omega)]
  simp only [List.map_cons,List.map_nil,List.cons_append,List.nil_append,List.getD_cons_zero,List.getD_cons_succ,List.length_cons,List.length_nil]
  rw [byteNat _ (by omega) (by omega),byteNat _ (by omega) (by omega),byteNat _ (by omega) (by omega),byteNat _ (by omega) (by omega),show (240+(r:Int) / 262144).toNat=240+r / 262144 by omega,
   show (128+(r:Int) / 4096 % 64).toNat=128+r / 4096 % 64 by omega,show (128+(r:Int) / 64 % 64).toNat=128+r / 64 % 64 by omega,show (128+(r:Int) % 64).toNat=128+r % 64 by omega]
  exact dN4 _ r (by omega) (by omega) (by omega)
theorem enc_len (r:Int):1<=(Lib.encodeRune r).length/\(Lib.encodeRune r).length<=4:=by
 unfold Lib.encodeRune
 rw [List.length_map]
 exact Lib.encodeRuneZ_length r
theorem not_bad (r:Int) (hg:good r=true) (x:List UInt8):Lib.decodeL (Lib.encodeRune r++x)≠(65533,1):=by
 rw [decode_enc r hg]
 intro h
 obtain ⟨h1,h2⟩:=Prod.mk.inj h
 rw [good_iff] at hg
 have:r=65533:=by omega
 subst this
 rw [show (Lib.encodeRune 65533).length=3 from by decide] at h2
 omega
def okText (l:List UInt8):Prop:=∃ rs:List Int,rs.all good=true/\l=encs rs
theorem encs_cons (r:Int) (rs:List Int):encs (r::rs)=Lib.encodeRune r++encs rs:=rfl
theorem encs_append (a b:List Int):encs (a++b)=encs a++encs b:=by unfold encs;rw [List.flatMap_append]
theorem okText_nil:okText []:=⟨[],rfl,rfl⟩
theorem encs_nil {rs:List Int} (h:encs rs=[]):rs=[]:=by
 cases rs with
 | nil=>rfl
 | cons r rs =>
   rw [encs_cons] at h
   have:=(enc_len r).1
   rw [(List.append_eq_nil_iff.1 h).1] at this
   simp at this
theorem okText_code (r:Int) (hg:good r=true) (x:List UInt8):okText (Lib.encodeRune r++x)↔okText x:=by
 constructor
 ·rintro ⟨rs,h1,h2⟩
  cases rs with
  | nil =>
    have:=(enc_len r).1
    rw [(List.append_eq_nil_iff.1 h2).1] at this
    simp at this
  | cons r2 rs =>
    rw [List.all_cons,Bool.and_eq_true] at h1
    rw [encs_cons] at h2
    have d1:=decode_enc r hg x
    have d2:=decode_enc r2 h1.1 (encs rs)
    rw [h2,d2] at d1
    obtain ⟨e1,e2⟩:=Prod.mk.inj d1
    have:=(List.append_inj h2 e2.symm).2
    exact ⟨rs,h1.2,this⟩
 ·rintro ⟨rs,h1,h2⟩
  exact ⟨r::rs,by rw [List.all_cons,hg,h1];rfl,by rw [encs_cons,h2]⟩
theorem decodeL_pos (l:List UInt8):1<=(Lib.decodeL l).2:=by rw [Lib.decodeL_N];exact Lib.decodeN_ge1 _ _ _ _ _
theorem okText_step (l:List UInt8) (hne:l≠[]):okText l↔Lib.decodeL l≠(65533,1)/\okText (l.drop (Lib.decodeL l).2):=by
 constructor
 ·rintro ⟨rs,h1,rfl⟩
  cases rs with
  | nil=>exact absurd rfl hne
  | cons r rs =>
    rw [List.all_cons,Bool.and_eq_true] at h1
    rw [encs_cons]
    refine ⟨not_bad r h1.1 _,?_⟩
    rw [decode_enc r h1.1,List.drop_left]
    exact ⟨rs,h1.2,rfl⟩
 ·rintro ⟨h1,h2⟩
  have he:=Lib.encode_decode l hne (fun h=>h1 (Prod.ext h.1 h.2))
  have hv:=Lib.decodeN_valid l.length (l.getD 0 0).toNat (l.getD 1 0).toNat (l.getD 2 0).toNat (l.getD 3 0).toNat (UInt8.toNat_lt _)
  rw [<-Lib.decodeL_N] at hv
  have hg:good ((Lib.decodeL l).1:Int)=true:=by rw [good_iff];omega
  have e:l=Lib.encodeRune ((Lib.decodeL l).1:Int)++l.drop (Lib.decodeL l).2:=by rw [he,List.take_append_drop]
  rw [e]
  exact (okText_code _ hg _).2 h2
def begins:List Int->Int->Bool
 | [],_=>false
 | r::rs,k=>(k==0) || begins rs (k - ((Lib.encodeRune r).length:Int))
theorem inner (r:Int) (hg:good r=true) (k:Nat) (h0:0<k) (h1:k<(Lib.encodeRune r).length):∃ b t,(Lib.encodeRune r).drop k=b::t/\b.toNat / 64=2:=by
 rw [good_iff] at hg
 have key:∀ z:Int,0<=z->z<64->((128+z).toNat.toUInt8).toNat / 64=2:=by
  intro z z0 z1
  rw [byteNat _ (by omega) (by omega)];omega
 unfold Lib.encodeRune at h1 ⊢
 by_cases r1:r<=127
 ·rw [Lib.encodeRuneZ_one hg.1 r1] at h1;simp at h1;omega
 by_cases r2:r<=2047
 ·rw [Lib.encodeRuneZ_two (by omega) r2] at h1 ⊢
  simp at h1
  obtain rfl:k=1:=by omega
  exact ⟨_,_,rfl,key _ (by omega) (by omega)⟩
 by_cases r3:r<=65535
 ·rw [Lib.encodeRuneZ_three (by omega)] at h1 ⊢
  simp at h1
  obtain rfl|rfl:k=1\/k=2:=by omega
  ·exact ⟨_,_,rfl,key _ (by omega) (by omega)⟩
  ·exact ⟨_,_,rfl,key _ (by omega) (by omega)⟩
 ·rw [Lib.encodeRuneZ_four (by omega) (by omega)] at h1 ⊢
  simp at h1
  obtain rfl|rfl|rfl:k=1\/k=2\/k=3:=by omega
  ·exact ⟨_,_,rfl,key _ (by omega) (by omega)⟩
  ·exact ⟨_,_,rfl,key _ (by omega) (by omega)⟩
  ·exact ⟨_,_,rfl,key _ (by omega) (by omega)⟩
end Go.Proofs.YtldhmfkojaekfaaGreatDoor
namespace Go.Proofs.YtldhmfkojaekfaaGreatDoor
open Go
def digB (d:Nat):UInt8:=if d<10 then UInt8.ofNat (48+d) else UInt8.ofNat (87+d)
def digF:Nat->Nat->Nat->List UInt8
 | 0,_,_=>[]
 | f+1,b,u=>if u<b then [digB u] else digF f b (u / b)++[digB (u % b)]
def ints (l:List UInt8):List Int:=l.map fun b=>(b.toNat:Int)
theorem ints_append (a b:List UInt8):ints (a++b)=ints a++ints b:=by unfold ints;rw [List.map_append]
def hexOf (c:UInt8):Option Nat:=if 48<=c.toNat/\c.toNat<=57 then some (c.toNat - 48) else if 97<=c.toNat/\c.toNat<=102 then some (c.toNat - 87) else if 65<=c.toNat/\c.toNat<=70 then some (c.toNat - 55) else none
def hexVal:List UInt8->Nat->Option Nat
 | [],n=>some n
 | c::t,n=>match hexOf c with
   | none=>none
   | some d=>hexVal t (n * 16+d)
theorem hexOf_lt {c:UInt8} {d:Nat} (h:hexOf c=some d):d<16:=by
 unfold hexOf at h
 split at h
 ·have:=Option.some.inj h;omega
 split at h
 ·have:=Option.some.inj h;omega
 split at h
 ·have:=Option.some.inj h;omega
 ·cases h
theorem hexVal_lt:∀ (l:List UInt8) (n v:Nat),hexVal l n=some v->v<(n+1) * 16 ^ l.length
 | [],n,v,h=>by
   have:=Option.some.inj h
   simp;omega
 | c::t,n,v,h=>by
   unfold hexVal at h
   split at h
   ·cases h
   ·rename_i d hd
    have h1:=hexVal_lt t _ v h
    have h2:=hexOf_lt hd
    rw [List.length_cons,Nat.pow_succ,Nat.mul_comm (16 ^ t.length) 16,<-Nat.mul_assoc]
    exact Nat.lt_of_lt_of_le h1 (Nat.mul_le_mul_right _ (by omega))
def hexText (n:Nat):List UInt8:=digF (n+1) 16 n
theorem hexText_facts (n:Nat) (h:n<128):hexVal (hexText n) 0=some n/\1<=(hexText n).length/\(hexText n).length<=2/\(∀ c∈hexText n,c.toNat<128/\c≠125/\c≠10):=by
 have key:∀ e:Fin 128,hexVal (hexText e.val) 0=some e.val/\1<=(hexText e.val).length/\(hexText e.val).length<=2/\(∀ c∈hexText e.val,c.toNat<128/\c≠125/\c≠10):=by decide +kernel
 exact key ⟨n,h⟩
theorem indexByte_skip (c:UInt8):∀ (a y:List UInt8),(∀ x∈a,x≠c)->Lib.indexByte (a++c::y) c=(a.length:Int)
 | [],y,_=>by simp [Lib.indexByte]
 | b::a,y,h=>by
   have hb:(b==c)=false:=by simpa using h b (by simp)
   have ih:=indexByte_skip c a y (fun x hx=>h x (by simp [hx]))
   rw [List.cons_append,Lib.indexByte,hb,ih]
   have:(((a.length:Nat):Int)==-1)=false:=by rw [beq_eq_false_iff_ne];omega
   rw [this]
   simp
theorem indexByte_bound (c:UInt8):∀ (l:List UInt8),-1<=Lib.indexByte l c/\Lib.indexByte l c<l.length
 | []=>by simp [Lib.indexByte]
 | b::l=>by
   have ih:=indexByte_bound c l
   unfold Lib.indexByte
   rw [List.length_cons]
   split
   ·omega
   ·split<;>omega
end Go.Proofs.YtldhmfkojaekfaaGreatDoor
