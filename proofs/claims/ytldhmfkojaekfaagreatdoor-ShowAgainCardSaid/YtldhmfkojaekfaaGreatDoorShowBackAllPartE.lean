/-
  Lemmas for the statement: plain laws, and what functions answer; the conditions stand in each.
-/
import Derived.Test.YtldhmfkojaekfaaGreatDoorProg
import Derived.WalkLawsBesides
import Derived.Deep.DeepFit
import Derived.Laws.BitsAllLaws
import Derived.Laws.Bits64b
import Derived.Test.YtldhmfkojaekfaaGreatDoorShowBackAllPartD
set_option linter.unusedVariables false
set_option linter.unusedSimpArgs false
namespace Go.Proofs.YtldhmfkojaekfaaGreatDoor
def fval (b:Nat):Nat:=if b<4503599627370496 then b else (b % 4503599627370496+4503599627370496) * 2 ^ (b / 4503599627370496 - 1)
theorem fval_of (n E:Nat) (h:n<9007199254740992) (h2:E=0\/4503599627370496<=n):fval (E * 4503599627370496+n)=n * 2 ^ E:=by
 unfold fval
 rcases h2 with rfl|h2
 ·by_cases hn:n<4503599627370496
  ·rw [if_pos (by omega)];simp
  ·rw [if_neg (by omega)]
   have e1:(0 * 4503599627370496+n) % 4503599627370496+4503599627370496=n:=by omega
   have e2:(0 * 4503599627370496+n) / 4503599627370496 - 1=0:=by omega
   rw [e1,e2]
 ·rw [if_neg (by omega)]
  have e0:E * 4503599627370496+n=(n - 4503599627370496)+(E+1) * 4503599627370496:=by rw [Nat.add_mul,Nat.one_mul];omega
  have hlt:n - 4503599627370496<4503599627370496:=by omega
  have e1:(E * 4503599627370496+n) % 4503599627370496+4503599627370496=n:=by
   rw [e0,Nat.add_mul_mod_self_right,Nat.mod_eq_of_lt hlt];omega
  have e2:(E * 4503599627370496+n) / 4503599627370496 - 1=E:=by
   rw [e0,Nat.add_mul_div_right _ _ (by decide:0<4503599627370496),Nat.div_eq_of_lt hlt];omega
  rw [e1,e2]
theorem fbitsFl (b:Nat):∃ n E,b=E * 4503599627370496+n/\n<9007199254740992/\(E=0\/4503599627370496<=n)/\fval b=n * 2 ^ E/\(E=b / 4503599627370496 - 1):=by
 by_cases hb:b<4503599627370496
 ·exact ⟨b,0,by simp,by omega,.inl rfl,by have h:=fval_of b 0 (by omega) (.inl rfl);rw [Nat.zero_mul,Nat.zero_add] at h;exact h,by omega⟩
 ·have h1:=Nat.div_add_mod b 4503599627370496
  have h2:=Nat.mod_lt b (show 4503599627370496 > 0 by decide)
  have h3:1<=b / 4503599627370496:=by omega
  have e:b=(b / 4503599627370496 - 1) * 4503599627370496+(b % 4503599627370496+4503599627370496):=by
   obtain ⟨q,hq⟩:∃ q,b / 4503599627370496=q+1:=⟨b / 4503599627370496 - 1,by omega⟩
   rw [hq] at h1 ⊢
   rw [Nat.add_sub_cancel]
   rw [Nat.mul_add,Nat.mul_one,Nat.mul_comm] at h1
   omega
  refine ⟨b % 4503599627370496+4503599627370496,b / 4503599627370496 - 1,e,by omega,.inr (by omega),?_,rfl⟩
  conv=>lhs;rw [e]
  rw [fval_of _ _ (by omega) (.inr (by omega))]
theorem fval_succ (b:Nat):fval (b+1)=fval b+2 ^ (b / 4503599627370496 - 1):=by
 obtain ⟨n,E,hb,hn,hE,hv,he⟩:=fbitsFl b
 rw [hv,<-he]
 by_cases h:n+1<9007199254740992
 ·rw [show b+1=E * 4503599627370496+(n+1) by omega,fval_of (n+1) E h (by omega),Nat.add_mul,Nat.one_mul]
 ·have hn2:n=9007199254740991:=by omega
  have e:b+1=(E+1) * 4503599627370496+4503599627370496:=by rw [Nat.add_mul,Nat.one_mul];omega
  rw [e,fval_of 4503599627370496 (E+1) (by decide) (.inr (Nat.le_refl _)),hn2,Nat.pow_succ]
  have:4503599627370496 * (2 ^ E * 2)=9007199254740992 * 2 ^ E:=by
   rw [Nat.mul_comm (2 ^ E) 2,<-Nat.mul_assoc,Nat.mul_comm 4503599627370496 2]
  rw [this]
  have h3:9007199254740992=9007199254740991+1:=by decide
  conv=>lhs;rw [h3]
  rw [Nat.add_mul,Nat.one_mul]
theorem fval_lt {a b:Nat} (h:a<b):fval a<fval b:=by
 induction b with
 | zero=>omega
 | succ b ih =>
   have h1:=fval_succ b
   have h2:=Nat.two_pow_pos (b / 4503599627370496 - 1)
   rcases Nat.lt_or_ge a b with h3|h3
   ·have:=ih h3;omega
   ·have:a=b:=by omega
    subst this;omega
def fmid (b:Nat):Nat:=fval b+fval (b+1)
theorem fmid_lt {a b:Nat} (h:a<b):fmid a<fmid b:=by
 have h1:=fval_lt h
 have h2:=fval_lt (show a+1<b+1 by omega)
 unfold fmid;omega
theorem fmid_le {a b:Nat} (h:a<=b):fmid a<=fmid b:=by
 rcases Nat.lt_or_ge a b with h1|h1
 ·exact Nat.le_of_lt (fmid_lt h1)
 ·rw [show a=b by omega];exact Nat.le_refl _
theorem fmid_of (n E:Nat) (h:n<9007199254740992) (h2:E=0\/4503599627370496<=n):fmid (E * 4503599627370496+n)=(2 * n+1) * 2 ^ E:=by
 obtain ⟨m,F,hb,hm,hF,hv,he⟩:=fbitsFl (E * 4503599627370496+n)
 have e1:E=(E * 4503599627370496+n) / 4503599627370496 - 1:=by
  rcases h2 with rfl|h2
  ·omega
  ·have e0:E * 4503599627370496+n=(n - 4503599627370496)+(E+1) * 4503599627370496:=by rw [Nat.add_mul,Nat.one_mul];omega
   rw [e0,Nat.add_mul_div_right _ _ (by decide:0<4503599627370496),Nat.div_eq_of_lt (by omega)];omega
 unfold fmid
 rw [fval_succ,<-e1,fval_of n E h h2,Nat.add_mul,Nat.one_mul]
 have:2 * n * 2 ^ E=n * 2 ^ E+n * 2 ^ E:=by rw [Nat.mul_assoc,Nat.two_mul]
 omega
theorem fmid_below (n E:Nat) (h:n<9007199254740992) (h2:E=0\/4503599627370496<=n) (h3:0<E * 4503599627370496+n):fmid (E * 4503599627370496+n - 1)=if E=0\/4503599627370496<n then (2 * n - 1) * 2 ^ E else 18014398509481983 * 2 ^ (E - 1):=by
 by_cases hc:E=0\/4503599627370496<n
 ·rw [if_pos hc]
  have hn:0<n:=by
   rcases hc with rfl|hc
   ·simpa using h3
   ·omega
  have e:E * 4503599627370496+n - 1=E * 4503599627370496+(n - 1):=by omega
  rw [e,fmid_of (n - 1) E (by omega) (by omega)]
  congr 1
  omega
 ·rw [if_neg hc]
  have hE:E≠0:=fun h=>hc (.inl h)
  have hn:n=4503599627370496:=by
   have:=h2.resolve_left hE
   have:¬ 4503599627370496<n:=fun h=>hc (.inr h)
   omega
  subst hn
  obtain ⟨k,rfl⟩:∃ k,E=k+1:=⟨E - 1,by omega⟩
  have e:(k+1) * 4503599627370496+4503599627370496 - 1=k * 4503599627370496+9007199254740991:=by rw [Nat.add_mul,Nat.one_mul];omega
  rw [e,fmid_of 9007199254740991 k (by decide) (.inr (by decide)),Nat.add_sub_cancel]
structure Rnd (Y D b:Nat):Prop where
 le:b<=9218868437227405312
 lo:b=0\/D * fmid (b - 1)<Y\/(D * fmid (b - 1)=Y/\b % 2=0)
 hi:b=9218868437227405312\/Y<D * fmid b\/(Y=D * fmid b/\b % 2=0)
theorem Rnd.mono {Y D b Z C c:Nat} (h:Rnd Y D b) (g:Rnd Z C c) (hD:0<D) (hC:0<C) (hle:Y * C<=Z * D):b<=c:=by
 apply Classical.byContradiction
 intro hcb
 have hb0:b≠0:=by omega
 have hc0:c≠9218868437227405312:=by have:=h.le;omega
 have h1:=h.lo.resolve_left hb0
 have g1:=g.hi.resolve_left hc0
 have hm:=fmid_le (show c<=b - 1 by omega)
 have a1:D * fmid (b - 1)<=Y:=by omega
 have a2:Z<=C * fmid c:=by omega
 have b1:D * fmid (b - 1) * C<=Y * C:=Nat.mul_le_mul_right _ a1
 have b2:Z * D<=C * fmid c * D:=Nat.mul_le_mul_right _ a2
 have b3:C * fmid c * D<=C * fmid (b - 1) * D:=Nat.mul_le_mul_right _ (Nat.mul_le_mul_left _ hm)
 have e:D * fmid (b - 1) * C=C * fmid (b - 1) * D:=by rw [Nat.mul_comm D,Nat.mul_comm C,Nat.mul_assoc,Nat.mul_assoc,Nat.mul_comm D C]
 have c1:D * fmid (b - 1) * C=Y * C:=by omega
 have c2:Z * D=C * fmid c * D:=by omega
 have c3:C * fmid c * D=C * fmid (b - 1) * D:=by omega
 have d1:=Nat.eq_of_mul_eq_mul_right hC c1
 have d2:=Nat.eq_of_mul_eq_mul_right hD c2
 have d3:=Nat.eq_of_mul_eq_mul_left hC (Nat.eq_of_mul_eq_mul_right hD c3)
 have p1:b % 2=0:=by rcases h1 with h1|h1;omega;exact h1.2
 have p2:c % 2=0:=by rcases g1 with g1|g1;omega;exact g1.2
 rcases Nat.lt_or_ge c (b - 1) with h5|h5
 ·have:=fmid_lt h5;omega
 ·omega
theorem Rnd.uniq {Y D b Z C c:Nat} (h:Rnd Y D b) (g:Rnd Z C c) (hD:0<D) (hC:0<C) (he:Y * C=Z * D):b=c :=
 Nat.le_antisymm (h.mono g hD hC (Nat.le_of_eq he)) (g.mono h hC hD (Nat.le_of_eq he.symm))
theorem rnd_zero (D:Nat) (hD:0<D):Rnd 0 D 0:=by
 refine ⟨by decide,.inl rfl,.inr (.inl ?_)⟩
 have:fmid 0=1:=by decide
 rw [this];omega
structure Rhe (P Q n:Nat):Prop where
 lo:n=0\/(2 * n - 1) * Q<2 * P\/((2 * n - 1) * Q=2 * P/\n % 2=0)
 hi:2 * P<(2 * n+1) * Q\/(2 * P=(2 * n+1) * Q/\n % 2=0)
theorem rhe_of (P Q:Nat) (hQ:0<Q):Rhe P Q (P / Q+if Q<2 * (P % Q)\/(2 * (P % Q)=Q/\P / Q % 2=1) then 1 else 0):=by
 have h1:=Nat.div_add_mod P Q
 have h2:=Nat.mod_lt P hQ
 generalize P / Q=q at *
 generalize P % Q=r at *
 have e1:2 * P=2 * q * Q+2 * r:=by rw [<-h1,Nat.mul_add,<-Nat.mul_assoc,Nat.mul_assoc,Nat.mul_comm Q q,<-Nat.mul_assoc]
 by_cases hc:Q<2 * r\/(2 * r=Q/\q % 2=1)
 ·rw [if_pos hc]
  have e2:(2 * (q+1) - 1) * Q=2 * q * Q+Q:=by rw [show 2 * (q+1) - 1=2 * q+1 by omega,Nat.add_mul,Nat.one_mul]
  have e3:(2 * (q+1)+1) * Q=2 * q * Q+3 * Q:=by rw [show 2 * (q+1)+1=2 * q+3 by omega,Nat.add_mul]
  refine ⟨.inr ?_,.inl ?_⟩
  ·rw [e1,e2]
   rcases hc with hc|hc
   ·left;omega
   ·right;exact ⟨by omega,by omega⟩
  ·rw [e1,e3];omega
 ·rw [if_neg hc,Nat.add_zero]
  have hc1:2 * r<Q\/(2 * r=Q/\q % 2=0):=by
   rcases Nat.lt_or_ge (2 * r) Q with h|h
   ·exact .inl h
   ·right
    have h5:¬ Q<2 * r:=fun h=>hc (.inl h)
    have h6:2 * r=Q:=by omega
    exact ⟨h6,by have:¬ q % 2=1:=fun h=>hc (.inr ⟨h6,h⟩);omega⟩
  have e3:(2 * q+1) * Q=2 * q * Q+Q:=by rw [Nat.add_mul,Nat.one_mul]
  refine ⟨?_,?_⟩
  ·rcases Nat.eq_zero_or_pos q with h0|h0
   ·exact .inl h0
   ·right;left
    have e2:(2 * q - 1) * Q+Q=2 * q * Q:=by
     obtain ⟨k,rfl⟩:∃ k,q=k+1:=⟨q - 1,by omega⟩
     rw [show 2 * (k+1) - 1=2 * k+1 by omega,show 2 * (k+1)=2 * k+1+1 by omega,Nat.add_mul (2 * k+1),Nat.one_mul]
    rw [e1];omega
  ·rw [e1,e3]
   rcases hc1 with h|h
   ·left;omega
   ·right;exact ⟨by omega,h.2⟩
theorem Rhe.turn {P Q Y T n:Nat} (h:Rhe P Q n) (hQ:0<Q) (hT:0<T) (he:2 * P * T=Y * Q) :
 (n=0\/(2 * n - 1) * T<Y\/((2 * n - 1) * T=Y/\n % 2=0))/\(Y<(2 * n+1) * T\/(Y=(2 * n+1) * T/\n % 2=0)):=by
 have turn:∀ k,(k * Q<2 * P->k * T<Y)/\(k * Q=2 * P->k * T=Y)/\(2 * P<k * Q->Y<k * T):=by
  intro k
  have e:k * T * Q=k * Q * T:=by rw [Nat.mul_assoc,Nat.mul_comm T,Nat.mul_assoc]
  refine ⟨fun h=>?_,fun h=>?_,fun h=>?_⟩
  ·have:=Nat.mul_lt_mul_of_pos_right h hT
   rw [he,<-e] at this
   exact Nat.lt_of_mul_lt_mul_right this
  ·have:=congrArg (fun x=>x * T) h
   rw [he,<-e] at this
   exact Nat.eq_of_mul_eq_mul_right hQ this
  ·have:=Nat.mul_lt_mul_of_pos_right h hT
   rw [he,<-e] at this
   exact Nat.lt_of_mul_lt_mul_right this
 refine ⟨?_,?_⟩
 ·rcases h.lo with h1|h1|h1
  ·exact .inl h1
  ·exact .inr (.inl ((turn _).1 h1))
  ·exact .inr (.inr ⟨(turn _).2.1 h1.1,h1.2⟩)
 ·rcases h.hi with h1|h1
  ·exact .inl ((turn _).2.2 h1)
  ·exact .inr ⟨((turn _).2.1 h1.1.symm).symm,h1.2⟩
theorem turn4 (K P D:Nat):K * (D * (P * 2))=2 * (D * (K * P)):=by
 rw [Nat.mul_left_comm K D,<-Nat.mul_assoc K P 2,Nat.mul_comm (K * P) 2,Nat.mul_left_comm D 2]
theorem near_law {Y D n E:Nat} (hD:0<D) (hn:n<9007199254740992) (hE:E=0\/4503599627370496<=n) (hE2:E<=2048)
 (hlo:n=0\/(2 * n - 1) * (D * 2 ^ E)<Y\/((2 * n - 1) * (D * 2 ^ E)=Y/\n % 2=0)) (hhi:Y<(2 * n+1) * (D * 2 ^ E)\/(Y=(2 * n+1) * (D * 2 ^ E)/\n % 2=0))
 (hq:E=0\/18014398509481983 * (D * 2 ^ E)<=2 * Y):Rnd Y D (if 9218868437227405312<=E * 4503599627370496+n then 9218868437227405312 else E * 4503599627370496+n):=by
 have em:∀ k,D * (k * 2 ^ E)=k * (D * 2 ^ E):=fun k=>by rw [<-Nat.mul_assoc,Nat.mul_comm D k,Nat.mul_assoc]
 have hpar:(E * 4503599627370496+n) % 2=n % 2:=by omega
 have hlow:E * 4503599627370496+n=0\/D * fmid (E * 4503599627370496+n - 1)<Y\/(D * fmid (E * 4503599627370496+n - 1)=Y/\(E * 4503599627370496+n) % 2=0):=by
  rcases Nat.eq_zero_or_pos (E * 4503599627370496+n) with h0|h0
  ·exact .inl h0
  ·right
   rw [fmid_below n E hn hE h0,hpar]
   by_cases hc:E=0\/4503599627370496<n
   ·rw [if_pos hc,em]
    rcases hlo with h1|h1|h1
    ·exfalso
     rcases hc with h2|h2
     ·subst h1 h2;simp at h0
     ·omega
    ·exact .inl h1
    ·exact .inr h1
   ·rw [if_neg hc]
    have hE0:E≠0:=fun h=>hc (.inl h)
    have hnF:n=4503599627370496:=by
     have h5:¬ 4503599627370496<n:=fun h=>hc (.inr h)
     have:=hE.resolve_left hE0
     omega
    have h6:=hq.resolve_left hE0
    have hpe:n % 2=0:=by omega
    obtain ⟨K,hK⟩:∃ K:Nat,K=18014398509481983:=⟨_,rfl⟩
    rw [<-hK] at h6 ⊢
    clear hK hlo hhi hq em hpar
    obtain ⟨k,rfl⟩:∃ k,E=k+1:=⟨E - 1,by omega⟩
    rw [Nat.add_sub_cancel]
    have e2:K * (D * 2 ^ (k+1))=2 * (D * (K * 2 ^ k)):=by
     rw [Nat.pow_succ];exact turn4 _ _ _
    rw [e2] at h6
    have h7:D * (K * 2 ^ k)<=Y:=Nat.le_of_mul_le_mul_left h6 (by decide)
    exact (Nat.lt_or_eq_of_le h7).imp id (fun h=>⟨h,hpe⟩)
 by_cases hinf:9218868437227405312<=E * 4503599627370496+n
 ·rw [if_pos hinf]
  refine ⟨Nat.le_refl _,?_,.inl rfl⟩
  right
  have h1:=hlow.resolve_left (by omega)
  rcases Nat.lt_or_ge 9218868437227405312 (E * 4503599627370496+n) with h2|h2
  ·left
   have h3:fmid (9218868437227405312 - 1)<fmid (E * 4503599627370496+n - 1):=fmid_lt (by omega)
   have h4:=Nat.mul_lt_mul_of_pos_left h3 hD
   omega
  ·have h3:E * 4503599627370496+n=9218868437227405312:=by omega
   rw [h3] at h1
   exact h1
 ·rw [if_neg hinf]
  refine ⟨by omega,hlow,.inr ?_⟩
  rw [fmid_of n E hn hE,em,hpar]
  exact hhi
end Go.Proofs.YtldhmfkojaekfaaGreatDoor
namespace Go.Proofs.YtldhmfkojaekfaaGreatDoor.Gx
open Go Go.RowKit
structure Rd (k:IntKind) (w:World) (ad:Option Addr) (cap:Nat) (xs:List Int):Prop where
 ncap:xs.length<=cap
 cap63:cap<=9223372036854775807
 wf:∀ x∈xs,(Lit.int k x).wf=true
 none_:ad=none->cap=0
 at_:∀ a,ad=some a->0<xs.length->a.spot=none/\a.block<w.heap.size/\∀ j,j<xs.length->w.cell? ⟨a.block,a.off+j,none⟩=some (.int k (xs.getD j 0))
variable {k:IntKind} {w w':World} {ad:Option Addr} {cap:Nat} {xs:List Int}
theorem Rd.keep (h:Rd k w ad cap xs) (hb:Below w.heap.size w w'):Rd k w' ad cap xs:=by
 refine ⟨h.ncap,h.cap63,h.wf,h.none_,fun a ha hp=>?_⟩
 obtain ⟨h1,h2,h3⟩:=h.at_ a ha hp
 exact ⟨h1,Nat.lt_of_lt_of_le h2 hb.size,fun j hj=>(hb.cell (p:=⟨a.block,a.off+j,none⟩) h2).trans (h3 j hj)⟩
theorem Rd.addr (h:Rd k w ad cap xs) (hp:0<xs.length):∃ b off,ad=some ⟨b,off,none⟩/\b<w.heap.size/\∀ j,j<xs.length->w.cell? ⟨b,off+j,none⟩=some (.int k (xs.getD j 0)):=by
 cases ad with
 | none=>have:=h.none_ rfl;have:=h.ncap;omega
 | some a =>
   obtain ⟨h1,h2,h3⟩:=h.at_ a rfl hp
   obtain ⟨b,off,spot⟩:=a
   simp only at h1
   subst h1
   exact ⟨b,off,rfl,h2,h3⟩
theorem getD_take (xs:List Int) (m j:Nat) (h:j<m):(xs.take m).getD j 0=xs.getD j 0:=by
 simp [List.getD,h]
theorem Rd.front (h:Rd k w ad cap xs) (m:Nat) (hm:m<=xs.length):Rd k w ad cap (xs.take m):=by
 have hl:(xs.take m).length=m:=by simp;omega
 refine ⟨by rw [hl];have:=h.ncap;omega,h.cap63,fun x hx=>h.wf x (List.mem_of_mem_take hx),h.none_,fun a ha hp=>?_⟩
 obtain ⟨h1,h2,h3⟩:=h.at_ a ha (by omega)
 refine ⟨h1,h2,fun j hj=>?_⟩
 rw [h3 j (by omega),getD_take xs m j (by omega)]
theorem Rd.nil (k:IntKind) (w:World) (ad:Option Addr) (cap:Nat) (h1:cap<=9223372036854775807) (h2:ad=none->cap=0):Rd k w ad cap [] :=
 ⟨by simp,h1,fun x hx=>by simp at hx,h2,fun a _ hp=>by simp at hp⟩
theorem Rd.row {len:Nat} {zs:List Int} (h:IsRow k w ad len cap zs):(zs.take len).length=len/\Rd k w ad cap (zs.take len):=by
 rcases h with ⟨rfl,rfl,rfl,rfl⟩|⟨x,rfl,hl,hm,hz,hc,hw⟩
 ·exact ⟨rfl,Rd.nil _ _ _ _ (by omega) (fun _=>rfl)⟩
 ·have hlen:(zs.take len).length=len:=by simp;omega
  refine ⟨hlen,by omega,by unfold maxLen at hm;omega,fun y hy=>hw y (List.mem_of_mem_take hy),fun h=>by simp at h,fun a ha hp=>?_⟩
  obtain rfl:=Option.some.inj ha
  have h0:=hc 0 (by omega)
  have hspot:x.spot=none:=by
   have:=World.cell?_spot h0
   simpa [Addr.add] using this
  obtain ⟨b,off,spot⟩:=x
  simp only at hspot
  subst hspot
  refine ⟨rfl,World.block_lt_of_cell? w ⟨b,off,none⟩ (by simpa [Addr.add] using h0),fun j hj=>?_⟩
  have:=hc j (by omega)
  rw [Addr.add_lit] at this
  rw [this,getD_take zs len j (by omega)]
theorem Rd.own {base:Nat} {e:TypeId} {v:Value} {n:Nat} (h:w.ownsRow base e 1 v n (xs.map (Value.int k))) (hw:∀ x∈xs,(Lit.int k x).wf=true) :
 ∃ ad cap,v=.slice ad xs.length cap/\Rd k w ad cap xs:=by
 have hn:xs.length=n:=by have:=h.1;simpa using this
 have hc:=fun g=>h.cells (g:=g)
 rcases h.2 with ⟨rfl,rfl⟩|⟨g,cap,cur,rfl,hb,hg,hnc,hcm,_⟩
 ·have:xs=[]:=List.eq_nil_of_length_eq_zero hn
  subst this
  exact ⟨none,0,rfl,Rd.nil _ _ _ _ (by omega) (fun _=>rfl)⟩
 ·subst hn
  refine ⟨some ⟨g,0,none⟩,cap,rfl,hnc,by unfold maxLen at hcm;omega,hw,fun h=>by simp at h,fun a ha hp=>?_⟩
  obtain rfl:=Option.some.inj ha
  refine ⟨rfl,(Array.getElem?_eq_some_iff.1 hg).1,fun j hj=>?_⟩
  have:=hc g rfl j (.int k (xs.getD j 0)) (by simp [List.getD,List.getElem?_eq_getElem hj])
  rwa [Addr.add_lit] at this
theorem Rd.own' {base:Nat} {e:TypeId} {v:Value} {n:Nat} (h:w.ownsRow base e 1 v n (xs.map (Value.int k))) (hw:∀ x∈xs,(Lit.int k x).wf=true) :
 ∃ ad cap,v=.slice ad xs.length cap/\Rd k w ad cap xs/\∀ a,ad=some a->base<=a.block:=by
 obtain ⟨ad,cap,rfl,hr⟩:=Rd.own h hw
 refine ⟨ad,cap,rfl,hr,fun a ha=>?_⟩
 subst ha
 exact (h.lt a.block rfl).1
theorem Rd.grown {row:Option Nat} (h:Rd k w ad cap xs) (hg:w.grownBy w' row) (hne:∀ a,ad=some a->0<xs.length->some a.block≠row):Rd k w' ad cap xs:=by
 refine ⟨h.ncap,h.cap63,h.wf,h.none_,fun a ha hp=>?_⟩
 obtain ⟨h1,h2,h3⟩:=h.at_ a ha hp
 exact ⟨h1,Nat.lt_of_lt_of_le h2 hg.size,fun j hj=>hg.cell (h3 j hj) (hne a ha hp)⟩
theorem Rd.src (h:Rd k w ad cap xs):(xs.map (Value.int k)).length=xs.length * 1/\(ad=none->xs.length=0/\cap=0) /\
 (∀ a,ad=some a->∀ j u,(xs.map (Value.int k))[j]?=some u->w.cell? (a.add j)=some u)/\∀ u∈xs.map (Value.int k),u.oneCell'=true:=by
 refine ⟨by simp,fun e=>⟨by have:=h.none_ e;have:=h.ncap;omega,h.none_ e⟩,fun a ha j u hu=>?_,ints_oneCell k xs⟩
 have hj:j<xs.length:=by
  have:=(List.getElem?_eq_some_iff.1 hu).1
  simpa using this
 obtain ⟨h1,h2,h3⟩:=h.at_ a ha (by omega)
 obtain ⟨b,off,spot⟩:=a
 simp only at h1
 subst h1
 rw [Addr.add_lit,h3 j hj]
 simp [List.getElem?_eq_getElem hj] at hu
 simp [List.getD,List.getElem?_eq_getElem hj,hu]
end Go.Proofs.YtldhmfkojaekfaaGreatDoor.Gx
namespace Go.Proofs.YtldhmfkojaekfaaGreatDoor
def bval:List Int->Nat
 | []=>0
 | x::l=>x.toNat+4294967296 * bval l
def Words (l:List Int):Prop:=∀ x∈l,0<=x/\x<4294967296
def canonF:Nat->Nat->List Int
 | 0,_=>[]
 | f+1,n=>if n=0 then [] else ((n % 4294967296:Nat):Int)::canonF f (n / 4294967296)
def canon (n:Nat):List Int:=canonF n n
theorem canonF_fuel:∀ (f g n:Nat),n<=f->n<=g->canonF f n=canonF g n
 | 0,0,_,_,_=>rfl
 | 0,g+1,n,h,_=>by have:n=0:=by omega
                   subst this;simp [canonF]
 | f+1,0,n,_,h=>by have:n=0:=by omega
                   subst this;simp [canonF]
 | f+1,g+1,n,h1,h2=>by
   unfold canonF
   by_cases h:n=0
   ·simp [h]
   ·rw [if_neg h,if_neg h,canonF_fuel f g (n / 4294967296) (by omega) (by omega)]
theorem canon_zero:canon 0=[]:=rfl
theorem canon_pos (n:Nat) (h:n≠0):canon n=((n % 4294967296:Nat):Int)::canon (n / 4294967296):=by
 unfold canon
 obtain ⟨m,rfl⟩:∃ m,n=m+1:=⟨n - 1,by omega⟩
 conv=>lhs;unfold canonF
 rw [if_neg (by omega),canonF_fuel m ((m+1) / 4294967296) _ (by omega) (Nat.le_refl _)]
theorem canon_words:∀ (n:Nat),Words (canon n):=by
 intro n
 induction n using Nat.strongRecOn with
 | ind n ih =>
   by_cases h:n=0
   ·subst h;intro x hx;simp [canon_zero] at hx
   ·rw [canon_pos n h]
    intro x hx
    rcases List.mem_cons.1 hx with rfl|hx
    ·omega
    ·exact ih _ (by omega) x hx
theorem bval_canon:∀ (n:Nat),bval (canon n)=n:=by
 intro n
 induction n using Nat.strongRecOn with
 | ind n ih =>
   by_cases h:n=0
   ·subst h;rfl
   ·rw [canon_pos n h,bval,ih _ (by omega)]
    omega
theorem bval_append (a b:List Int):bval (a++b)=bval a+4294967296 ^ a.length * bval b:=by
 induction a with
 | nil=>simp [bval]
 | cons x a ih =>
   simp only [List.cons_append,bval,ih,List.length_cons,Nat.pow_succ]
   rw [Nat.mul_add,Nat.add_assoc,<-Nat.mul_assoc,Nat.mul_comm (4294967296 ^ a.length) 4294967296]
theorem bval_lt:∀ (a:List Int),Words a->bval a<4294967296 ^ a.length
 | [],_=>by simp [bval]
 | x::a,h=>by
   have h1:=h x (by simp)
   have h2:=bval_lt a (fun y hy=>h y (by simp [hy]))
   simp only [bval,List.length_cons,Nat.pow_succ]
   omega
theorem canon_bval:∀ (a:List Int),Words a->(∀ x,a.getLast?=some x->x≠0)->canon (bval a)=a
 | [],_,_=>rfl
 | x::a,h,hl=>by
   have h1:=h x (by simp)
   have hw:Words a:=fun y hy=>h y (by simp [hy])
   have hl':∀ y,a.getLast?=some y->y≠0:=by
    intro y hy
    refine hl y ?_
    cases a with
    | nil=>simp at hy
    | cons z a=>simpa [List.getLast?_cons_cons] using hy
   have ih:=canon_bval a hw hl'
   have hne:bval (x::a)≠0:=by
    simp only [bval]
    intro h0
    have hx:x.toNat=0:=by omega
    have ha:bval a=0:=by omega
    rw [ha] at ih
    have:a=[]:=by rw [<-ih];rfl
    subst this
    have:=hl x (by simp)
    omega
   rw [canon_pos _ hne]
   simp only [bval]
   have e1:(x.toNat+4294967296 * bval a) % 4294967296=x.toNat:=by omega
   have e2:(x.toNat+4294967296 * bval a) / 4294967296=bval a:=by omega
   rw [e1,e2,ih]
   congr 1
   omega
def trimTo:List Int->List Int
 | []=>[]
 | x::l=>if trimTo l=[]/\x=0 then [] else x::trimTo l
theorem canon_len_le (n k:Nat) (h:n<4294967296 ^ k):(canon n).length<=k:=by
 induction k generalizing n with
 | zero=>simp at h;subst h;simp [canon_zero]
 | succ k ih =>
   by_cases h0:n=0
   ·subst h0;simp [canon_zero]
   ·rw [canon_pos n h0,List.length_cons]
    have:=ih (n / 4294967296) (by rw [Nat.pow_succ] at h;omega)
    omega
theorem canon_len_gt (n:Nat) (h:n≠0):4294967296 ^ ((canon n).length - 1)<=n:=by
 induction n using Nat.strongRecOn with
 | ind n ih =>
   rw [canon_pos n h,List.length_cons]
   by_cases h2:n / 4294967296=0
   ·rw [h2,canon_zero];simp;omega
   ·have h3:=ih (n / 4294967296) (by omega) h2
    have h4:0<(canon (n / 4294967296)).length:=by rw [canon_pos _ h2];simp
    obtain ⟨m,hm⟩:∃ m,(canon (n / 4294967296)).length=m+1:=⟨_,(Nat.succ_pred_eq_of_pos h4).symm⟩
    rw [hm] at h3 ⊢
    simp only [Nat.add_sub_cancel] at h3 ⊢
    rw [Nat.pow_succ]
    omega
end Go.Proofs.YtldhmfkojaekfaaGreatDoor
namespace Go.Proofs.YtldhmfkojaekfaaGreatDoor
open Go.RowKit Gx
set_option maxRecDepth 100000
theorem words_of_rd {w:World} {ad:Option Addr} {cap:Nat} {xs:List Int} (h:Rd .u32 w ad cap xs):Words xs:=by
 intro x hx
 have:=h.wf x hx
 simp [Lit.wf,IntKind.min,IntKind.max,IntKind.signed,IntKind.bits] at this
 omega
theorem bval_zeros (l:List Int) (h:∀ x∈l,x=0):bval l=0:=by
 induction l with
 | nil=>rfl
 | cons x l ih=>simp [bval,ih (fun y hy=>h y (by simp [hy])),h x (by simp)]
theorem trim_done (xs:List Int) (hw:Words xs) (m:Nat) (hm:m<=xs.length) (hz:∀ j,m<=j->j<xs.length->xs.getD j 0=0) (hl:m=0\/xs.getD (m - 1) 0≠0) :
 canon (bval xs)=xs.take m:=by
 have h1:bval xs=bval (xs.take m):=by
  conv=>lhs;rw [<-List.take_append_drop m xs]
  rw [bval_append,bval_zeros (xs.drop m)]
  ·simp
  ·intro x hx
   obtain ⟨i,hi,rfl⟩:=List.getElem_of_mem hx
   rw [List.getElem_drop]
   have:=hz (m+i) (by omega) (by simp at hi;omega)
   simpa [List.getD,List.getElem?_eq_getElem (show m+i<xs.length by simp at hi;omega)] using this
 rw [h1]
 refine canon_bval _ (fun x hx=>hw x (List.mem_of_mem_take hx)) ?_
 intro x hx
 rcases hl with rfl|hl
 ·simp at hx
 ·rw [List.getLast?_eq_getElem?] at hx
  have hlen:(xs.take m).length=m:=by simp;omega
  rw [hlen] at hx
  by_cases h0:m=0
  ·subst h0;simp at hx
  ·rw [List.getElem?_take] at hx
   rw [if_pos (by omega)] at hx
   intro e
   apply hl
   simp [List.getD,hx,e]
theorem canon_take (xs:List Int) (hw:Words xs):∃ m,m<=xs.length/\canon (bval xs)=xs.take m:=by
 have h:∀ n m,m<=xs.length->(∀ j,m<=j->j<xs.length->xs.getD j 0=0)->m<=n->∃ m,m<=xs.length/\canon (bval xs)=xs.take m:=by
  intro n
  induction n with
  | zero=>intro m hm hz hn;exact ⟨m,hm,trim_done xs hw m hm hz (.inl (by omega))⟩
  | succ n ih =>
    intro m hm hz hn
    by_cases h0:m=0
    ·exact ⟨m,hm,trim_done xs hw m hm hz (.inl h0)⟩
    by_cases h1:xs.getD (m - 1) 0=0
    ·refine ih (m - 1) (by omega) (fun j h2 h3=>?_) (by omega)
     by_cases h4:j=m - 1
     ·rw [h4];exact h1
     ·exact hz j (by omega) h3
    ·exact ⟨m,hm,trim_done xs hw m hm hz (.inr h1)⟩
 exact h xs.length xs.length (Nat.le_refl _) (fun j h1 h2=>by omega) (Nat.le_refl _)
theorem Gx.Rd.trim {w:World} {ad:Option Addr} {cap:Nat} {xs:List Int} (h:Rd .u32 w ad cap xs):Rd .u32 w ad cap (canon (bval xs)):=by
 obtain ⟨m,hm,e⟩:=canon_take xs (words_of_rd h)
 rw [e];exact h.front m hm
def TrimmedPost (ad:Option Addr) (cap:Nat) (xs:List Int) (w:World) (e:Ending) (w':World):Prop :=
 e=.returned (.slice ad (canon (bval xs)).length cap)/\w=w'
set_option maxHeartbeats 400000 in
theorem trimmed_any (ad:Option Addr) (cap:Nat) (xs:List Int) (w:World) (h:Rd .u32 w ad cap xs) (hl:xs.length<=1099511627776) :
 Calls Tryz.prog 157 #[.slice ad xs.length cap] w (TrimmedPost ad cap xs w):=by
 have hw:=words_of_rd h
 by_cases h0:xs.length=0
 ·obtain rfl:xs=[]:=List.eq_nil_of_length_eq_zero h0
  go_enter Tryz.func157,Tryz.ntmps157
  go_wp2
  refine wp_loop_rounds 1 ?_
  rw [rounds_succ]
  go_wp2
  go_ret
  exact ⟨rfl,rfl⟩
 obtain ⟨b,off,rfl,-,hc⟩:=h.addr (by omega)
 have hnc:=h.ncap
 have h63:=h.cap63
 have HC:=Lib.hid hc
 have HW:=Lib.hid hw
 clear hc hw h h0
 go_enter Tryz.func157,Tryz.ntmps157
 go_wp2
 go_loop [0] (fun v=>∃ m:Nat,m<=xs.length/\v=.slice (some ⟨b,off,none⟩) m cap/\Hid (∀ j,m<=j->j<xs.length->xs.getD j 0=0))
  (fun v=>match v with|.slice _ n _=>n|_=>0)
 case atStart=>exact ⟨xs.length,Nat.le_refl _,rfl,fun j h1 h2=>by omega⟩
 case round =>
  obtain ⟨m,hm,rfl,hz⟩:=hrel
  by_cases hm0:m=0
  ·subst hm0
   go_wp2
   go_ret
   have:=trim_done xs HW.out 0 (by omega) hz.out (.inl rfl)
   exact ⟨by rw [this];rfl,rfl⟩
  ·have hc1:=HC.out (m - 1) (by omega)
   obtain ⟨x,hx⟩:∃ x,x=xs.getD (m - 1) 0:=⟨_,rfl⟩
   rw [<-hx] at hc1
   have HX:=Lib.hid hx;clear hx
   have hpos:(0:Int)<(m:Int):=by omega
   by_cases hx0:x=0
   ·subst hx0
    have hb:((0:Int)==0)=true:=rfl
    go_wp2
    go_round
    case rel =>
     refine ⟨m - 1,by omega,rfl,fun j h1 h2=>?_⟩
     by_cases h4:j=m - 1
     ·rw [h4];exact HX.out.symm
     ·exact hz.out j (by omega) h2
    case measure=>simp;omega
   ·have hb:(x==0)=false:=by simpa using hx0
    go_wp2
    go_ret
    have:=trim_done xs HW.out m hm hz.out (.inr (by rw [<-HX.out];exact hx0))
    refine ⟨?_,rfl⟩
    rw [this,List.length_take,Nat.min_eq_left hm];rfl
set_option maxRecDepth 100000
def TwoWords (a b:Int) (w:World) (e:Ending) (w':World):Prop:=e=.returned (.tuple #[.int .u32 a,.int .u32 b])/\w=w'
def borrowOf (x y c:Int):Int:=if x<y+c then 1 else 0
theorem div31 (n:Nat) (h:n<4294967296):n / 2147483648=if n.testBit 31 then 1 else 0:=by
 rw [Nat.testBit_eq_decide_div_mod_eq]
 have h2:n / 2147483648<2:=by omega
 by_cases h1:n / 2 ^ 31 % 2=1
 ·simp only [h1,decide_true,if_true]
  have:(2:Nat) ^ 31=2147483648:=by decide
  rw [this] at h1;omega
 ·simp only [h1,decide_false]
  have:(2:Nat) ^ 31=2147483648:=by decide
  rw [this] at h1;simp;omega
theorem top31 (n:Nat) (h:n<4294967296):n.testBit 31=decide (2147483648<=n):=by
 rw [Nat.testBit_eq_decide_div_mod_eq]
 have:(2:Nat) ^ 31=2147483648:=by decide
 rw [this]
 by_cases h1:2147483648<=n
 ·simp [h1];omega
 ·simp [h1];omega
theorem borrow_nat (x y c d:Nat) (hx:x<4294967296) (hy:y<4294967296) (hc:c<=1) (hd:d<4294967296) (e:(x+8589934592 - y - c) % 4294967296=d) :
 (((4294967295 ^^^ x) &&& y) ||| ((4294967295 ^^^ (x ^^^ y)) &&& d)) / 2147483648=if x<y+c then 1 else 0:=by
 have h32:(4294967296:Nat)=2 ^ 32:=by decide
 have hb:(((4294967295 ^^^ x) &&& y) ||| ((4294967295 ^^^ (x ^^^ y)) &&& d))<4294967296:=by
  rw [h32] at *
  exact Nat.or_lt_two_pow (Nat.lt_of_le_of_lt Nat.and_le_right hy) (Nat.lt_of_le_of_lt Nat.and_le_right hd)
 rw [div31 _ hb]
 have hm:Nat.testBit 4294967295 31=true:=by decide
 simp only [Nat.testBit_or,Nat.testBit_and,Nat.testBit_xor,hm,top31 x hx,top31 y hy,top31 d hd]
 by_cases h1:2147483648<=x<;>by_cases h2:2147483648<=y<;>by_cases h3:2147483648<=d<;>by_cases h4:x<y+c<;>simp [h1,h2,h3,h4]<;>omega
theorem borrow_word (x y c:Int) (hx:0<=x) (hx':x<=4294967295) (hy:0<=y) (hy':y<=4294967295) (hc:0<=c) (hc':c<=1) :
 bits BinOp.or IntKind.u32 (bits BinOp.and IntKind.u32 (bits BinOp.xor IntKind.u32 IntKind.u32.max x) y)
  (bits BinOp.and IntKind.u32 (bits BinOp.xor IntKind.u32 IntKind.u32.max (bits BinOp.xor IntKind.u32 x y)) ((x - y - c) % 4294967296)) / 2147483648=borrowOf x y c:=by
 obtain ⟨x,rfl⟩:=Int.eq_ofNat_of_zero_le hx
 obtain ⟨y,rfl⟩:=Int.eq_ofNat_of_zero_le hy
 obtain ⟨c,rfl⟩:=Int.eq_ofNat_of_zero_le hc
 obtain ⟨d,hd⟩:∃ d:Nat,d=(x+8589934592 - y - c) % 4294967296:=⟨_,rfl⟩
 have e:(((x:Int) - y - c) % 4294967296)=(d:Int):=by omega
 have em:IntKind.u32.max=((4294967295:Nat):Int):=by decide
 have hd2:d<4294967296:=by omega
 have h32:(4294967296:Nat)=2 ^ 32:=by decide
 have hM:(4294967295:Nat)<4294967296:=by decide
 have h1:(4294967295 ^^^ x)<4294967296:=by rw [h32];exact Nat.xor_lt_two_pow (by decide) (by omega)
 have h2:(x ^^^ y)<4294967296:=by rw [h32];exact Nat.xor_lt_two_pow (by omega) (by omega)
 have h3:(4294967295 ^^^ (x ^^^ y))<4294967296:=by rw [h32];exact Nat.xor_lt_two_pow (by decide) (by rw [<-h32];exact h2)
 have h4:(4294967295 ^^^ x) &&& y<4294967296:=Nat.lt_of_le_of_lt Nat.and_le_right (by omega)
 have h5:(4294967295 ^^^ (x ^^^ y)) &&& d<4294967296:=Nat.lt_of_le_of_lt Nat.and_le_right (by omega)
 rw [e,em,u32_xor_nat _ _ hM (by omega),u32_xor_nat _ _ (by omega) (by omega),u32_xor_nat _ _ hM h2,u32_and_nat _ _ h1 (by omega),u32_and_nat _ _ h3 hd2,u32_or_nat _ _ h4 h5]
 have:=borrow_nat x y c d (by omega) (by omega) (by omega) hd2 hd.symm
 unfold borrowOf
 by_cases h:x<y+c
 ·rw [if_pos h] at this;rw [if_pos (by omega)];omega
 ·rw [if_neg h] at this;rw [if_neg (by omega)];omega
set_option maxHeartbeats 400000 in
theorem add32_any (x y c:Int) (w:World) (hx:0<=x) (hx':x<=4294967295) (hy:0<=y) (hy':y<=4294967295) (hc:0<=c) (hc':c<=1) :
 Calls Tryz.prog 182 #[.int .u32 x,.int .u32 y,.int .u32 c] w (TwoWords ((x+y+c) % 4294967296) ((x+y+c) / 4294967296) w):=by
 go_enter Tryz.func182,Tryz.ntmps182
 go_wp2
 go_ret2
 exact ⟨rfl,rfl⟩
set_option maxHeartbeats 400000 in
theorem sub32_any (x y c:Int) (w:World) (hx:0<=x) (hx':x<=4294967295) (hy:0<=y) (hy':y<=4294967295) (hc:0<=c) (hc':c<=1) :
 Calls Tryz.prog 203 #[.int .u32 x,.int .u32 y,.int .u32 c] w (TwoWords ((x - y - c) % 4294967296) (borrowOf x y c) w):=by
 have H:=Lib.hid (borrow_word x y c hx hx' hy hy' hc hc')
 go_enter Tryz.func203,Tryz.ntmps203
 go_wp2
 go_ret2
 refine ⟨?_,rfl⟩
 rw [<-H.out];rfl
set_option maxRecDepth 100000
theorem Tryz.info_u32:(Tryz.prog.info? 145).map (fun i=>(i.zero,i.size,i.bytes))=some (some (.int .u32 0),1,4):=by kernel_rfl
theorem bval_take_succ (l:List Int) (k:Nat):bval (l.take (k+1))=bval (l.take k)+4294967296 ^ k * (l.getD k 0).toNat:=by
 by_cases h:k<l.length
 ·rw [List.take_succ_eq_append_getElem h,bval_append]
  simp [bval,List.getD,List.getElem?_eq_getElem h,Nat.min_eq_left (Nat.le_of_lt h)]
 ·rw [List.take_of_length_le (by omega),List.take_of_length_le (by omega)]
  simp [List.getD,List.getElem?_eq_none (show l.length<=k by omega)]
theorem words_getD {l:List Int} (h:Words l) (k:Nat):0<=l.getD k 0/\l.getD k 0<=4294967295:=by
 by_cases hk:k<l.length
 ·have:=h _ (List.getElem_mem hk)
  simp [List.getD,List.getElem?_eq_getElem hk];omega
 ·simp [List.getD,List.getElem?_eq_none (show l.length<=k by omega)]
theorem wf_words {l:List Int} (h:Words l):∀ x∈l,(Lit.int .u32 x).wf=true:=by
 intro x hx
 have:=h x hx
 simp [Lit.wf,IntKind.min,IntKind.max,IntKind.signed,IntKind.bits]
 omega
def WordsPost (n:Nat) (w:World) (e:Ending) (w':World):Prop :=
 ∃ ad cap,e=.returned (.slice ad (canon n).length cap)/\Rd .u32 w' ad cap (canon n)/\Below w.heap.size w w'
set_option maxHeartbeats 400000 in
theorem bigTrim_any (ad:Option Addr) (cap:Nat) (xs:List Int) (w:World) (h:Rd .u32 w ad cap xs) (hl:xs.length<=1073741824) :
 Calls Tryz.prog 149 #[.slice ad xs.length cap] w (WordsPost (bval xs) w):=by
 have hlen:(canon (bval xs)).length<=1073741824:=by
  obtain ⟨m,hm,e⟩:=canon_take xs (words_of_rd h)
  rw [e];simp;omega
 obtain ⟨s1,s2,s3,s4⟩:=h.trim.src
 have S2:=Lib.hid s2
 have S3:=Lib.hid s3
 have S4:=Lib.hid s4
 have H:=Lib.hid h
 clear s1 s2 s3 s4 h
 go_enter Tryz.func149,Tryz.ntmps149
 go_wp2_with (first
  | (go_at_call 157;refine (trimmed_any ad cap xs w H.out (by omega)).mono ?_;rintro e w' ⟨rfl,rfl⟩)
  | (at_builtin;refine Gx.wpList_append_all w rfl _ _ 169 rfl w.heap.size 145 (.int .u32 0) 1 4 Tryz.underlying169 Tryz.info_u32 rfl (by decide) _ 0 [] ad _ cap ((canon (bval xs)).map (Value.int .u32)) rfl rfl (World.ownsRow_nil _ _ _ _) (by simp) S2.out S3.out S4.out ?_ ?_ (Nat.le_refl _) ?_))
 ·omega
 ·omega
 intro v' w' hown hg _
 have hb:Below w.heap.size w w':=Gx.grown_below hg (Nat.le_refl _) (by simp [Value.ownBlock])
 obtain ⟨ad',cap',rfl,hr⟩:=Gx.Rd.own (k:=.u32) (xs:=canon (bval xs)) (by simpa using hown) (wf_words (canon_words _))
 clear hown hg
 go_wp2
 go_ret
 exact ⟨ad',cap',rfl,hr,hb⟩
set_option maxRecDepth 100000
theorem bval_set:∀ (l:List Int) (j:Nat) (v:Int),j<l.length->bval (l.set j v)+4294967296 ^ j * (l.getD j 0).toNat=bval l+4294967296 ^ j * v.toNat
 | [],j,v,h=>by simp at h
 | x::l,0,v,_=>by simp [bval];omega
 | x::l,j+1,v,h=>by
   have ih:=bval_set l j v (by simpa using h)
   simp only [List.set_cons_succ,bval,Nat.pow_succ]
   have e1:(x::l).getD (j+1) 0=l.getD j 0:=by simp [List.getD]
   rw [e1]
   have h1:4294967296 ^ j * 4294967296 * (l.getD j 0).toNat=4294967296 * (4294967296 ^ j * (l.getD j 0).toNat):=by
    rw [Nat.mul_comm (4294967296 ^ j) 4294967296,Nat.mul_assoc]
   have h2:4294967296 ^ j * 4294967296 * v.toNat=4294967296 * (4294967296 ^ j * v.toNat):=by
    rw [Nat.mul_comm (4294967296 ^ j) 4294967296,Nat.mul_assoc]
   rw [h1,h2]
   omega
theorem words_set {l:List Int} (h:Words l) (j:Nat) (v:Int) (h0:0<=v) (h1:v<=4294967295):Words (l.set j v):=by
 intro x hx
 rcases List.mem_or_eq_of_mem_set hx with hx|rfl
 ·exact h x hx
 ·omega
theorem getD_set_ne (l:List Int) (i j:Nat) (v:Int) (h:i≠j):(l.set i v).getD j 0=l.getD j 0:=by
 simp [List.getD,List.getElem?_set,h]
theorem bval_replicate (n:Nat):bval (List.replicate n 0)=0:=bval_zeros _ (fun x hx=>(List.mem_replicate.1 hx).2)
theorem madeCells_one (k:IntKind) (n:Nat):(madeCells #[Value.int k 0] n).toList=(List.replicate n (0:Int)).map (Value.int k):=by
 apply List.ext_getElem
 ·simp [madeCells]
 ·intro i h1 h2
  simp [madeCells,Nat.mod_one]
theorem mul_bound {x y:Int} (hx:0<=x) (hx':x<=4294967295) (hy:0<=y) (hy':y<=4294967295):0<=x * y/\x * y<=18446744065119617025:=by
 refine ⟨Int.mul_nonneg hx hy,?_⟩
 have h1:x * y<=4294967295 * y:=Int.mul_le_mul_of_nonneg_right hx' hy
 have h2:4294967295 * y<=4294967295 * 4294967295:=Int.mul_le_mul_of_nonneg_left hy' (by decide)
 omega
theorem mul_step (out:List Int) (p q i k:Nat) (x y c o:Int) (hx:0<=x) (hy:0<=y) (hc:0<=c) (ho:0<=o) (hi:i+k<out.length) (eo:o=out.getD (i+k) 0) (ys:List Int) (ey:y=ys.getD k 0)
 (h:bval out+4294967296 ^ (i+k) * c.toNat=p+4294967296 ^ i * (x.toNat * bval (ys.take k))) (hq:q=4294967296 ^ (i+k)) :
 bval (out.set (i+k) ((c+(x * y+o)) % 4294967296))+4294967296 ^ (i+(k+1)) * ((c+(x * y+o)) / 4294967296).toNat=p+4294967296 ^ i * (x.toNat * bval (ys.take (k+1))):=by
 have hs:=bval_set out (i+k) ((c+(x * y+o)) % 4294967296) hi
 rw [<-eo,<-hq] at hs
 rw [<-hq] at h
 rw [bval_take_succ,<-ey]
 have e1:4294967296 ^ (i+(k+1))=q * 4294967296:=by rw [hq,<-Nat.add_assoc,Nat.pow_succ]
 have e2:4294967296 ^ i * (x.toNat * (bval (ys.take k)+4294967296 ^ k * y.toNat))=4294967296 ^ i * (x.toNat * bval (ys.take k))+q * (x.toNat * y.toNat):=by
  rw [hq,Nat.mul_add,Nat.mul_add,Nat.pow_add]
  congr 1
  rw [Nat.mul_assoc]
  congr 1
  rw [<-Nat.mul_assoc,Nat.mul_comm x.toNat,Nat.mul_assoc]
 rw [e1,e2]
 have hp:0<=x * y:=Int.mul_nonneg hx hy
 have exy:(x * y).toNat=x.toNat * y.toNat:=by
  obtain ⟨a,rfl⟩:=Int.eq_ofNat_of_zero_le hx
  obtain ⟨b,rfl⟩:=Int.eq_ofNat_of_zero_le hy
  simp only [Int.toNat_natCast]
  rw [<-Int.natCast_mul,Int.toNat_natCast]
 rw [<-exy]
 generalize x * y=z at *
 have e3:((c+(z+o)) % 4294967296).toNat+4294967296 * ((c+(z+o)) / 4294967296).toNat=c.toNat+z.toNat+o.toNat:=by omega
 have e4:q * ((c+(z+o)) % 4294967296).toNat+q * 4294967296 * ((c+(z+o)) / 4294967296).toNat=q * c.toNat+q * z.toNat+q * o.toNat:=by
  rw [Nat.mul_assoc,<-Nat.mul_add,e3,Nat.mul_add,Nat.mul_add]
 omega
set_option maxHeartbeats 1000000 in
theorem bigMul_any (ad bd:Option Addr) (ca cb:Nat) (xs ys:List Int) (w:World) (h:Rd .u32 w ad ca xs) (g:Rd .u32 w bd cb ys) (hl:xs.length<=1048576) (hl2:ys.length<=1048576) :
 Calls Tryz.prog 161 #[.slice ad xs.length ca,.slice bd ys.length cb] w (WordsPost (bval xs * bval ys) w):=by
 have hwx:=words_of_rd h
 have hwy:=words_of_rd g
 have H:=Lib.hid h
 have G:=Lib.hid g
 have HWX:=Lib.hid hwx
 have HWY:=Lib.hid hwy
 clear h g hwx hwy
 go_enter Tryz.func161,Tryz.ntmps161
 obtain ⟨i0,hi,hz0,hz1,hz2⟩:=info_parts Tryz.info_u32
 have HI:=Lib.hid hi
 have HZ0:=Lib.hid hz0
 have HZ1:=Lib.hid hz1
 clear hi hz0 hz1
 go_wp2_with (first
  | (at_make;refine wpList_make_full _ rfl _ _ 169 rfl w.heap.size 145 i0 (.int .u32 0) 1 Tryz.underlying169 HI.out HZ0.out HZ1.out .i64 .i64 _ _ (xs.length+ys.length) rfl rfl (by omega) (by omega) (by rw [hz2];omega) (by unfold maxLen;omega) (Nat.le_refl _) ?_))
 intro w1 hown hg
 have hb:Below w.heap.size w w1:=Gx.grown_below hg (Nat.le_refl _) (by simp)
 rw [madeCells_one] at hown
 clear hg hz2 HI HZ0 HZ1
 obtain ⟨n,hn⟩:∃ n,n=xs.length+ys.length:=⟨_,rfl⟩
 obtain ⟨gb,hgb⟩:∃ gb,gb=w.heap.size:=⟨_,rfl⟩
 rw [<-hn] at hown ⊢
 rw [show Value.slice (some ⟨w.heap.size,0,none⟩) n n=Value.slice (some ⟨gb,0,none⟩) n n from by rw [hgb]] at hown ⊢
 have HN:=Lib.hid hn;clear hn
 have HGB:=Lib.hid hgb;clear hgb
 have hnb:n<=2097152:=by have:=HN.out;omega
 go_wp2
 go_loopw [19] (fun i wr=>∃ (k:Nat) (out:List Int),k<=xs.length/\i=.int .i64 k /\
  wr.ownsRow w.heap.size 145 1 (.slice (some ⟨gb,0,none⟩) n n) n (out.map (Value.int .u32))/\Hid (out.length=n)/\Words out/\Hid (bval out=bval (xs.take k) * bval ys) /\
  Hid (∀ j,k+ys.length<=j->out.getD j 0=0)/\Below w.heap.size w wr)
  (fun i _=>xs.length - (intOf i).toNat)
 case atStart =>
  refine ⟨0,List.replicate n 0,Nat.zero_le _,rfl,hown,by simp [Hid],fun x hx=>?_,?_,fun j _=>?_,hb⟩
  ·have:=(List.mem_replicate.1 hx).2;omega
  ·show _=_
   rw [bval_replicate];simp [bval]
  ·simp [List.getD,List.getElem?_replicate]
   split<;>rfl
 case round =>
  obtain ⟨i,out,hk,rfl,hown1,hol,how,hval,hzer,hb1⟩:=hrel
  have HOW:=Lib.hid how
  clear how hown hb
  by_cases hkx:i<xs.length
  ·obtain ⟨b1,o1,rfl,-,hcx⟩:=(H.out.keep hb1).addr (by omega)
   have hx:=hcx i hkx
   clear hcx
   have bx:=words_getD HWX.out i
   obtain ⟨x,ex⟩:∃ x,x=xs.getD i 0:=⟨_,rfl⟩
   rw [<-ex] at hx bx
   have EX:=Lib.hid ex;clear ex
   obtain ⟨bx0,bx1⟩:=bx
   go_wp2
   obtain ⟨wo,rfl⟩:∃ wo:World,wo=wr:=⟨_,rfl⟩
   clear hx
   go_loopw [8,26] (fun c j wr=>∃ (k:Nat) (cr:Int) (out2:List Int),k<=ys.length/\j=.int .i64 k/\c=.int .u64 cr/\0<=cr/\cr<=4294967295 /\
    wr.ownsRow w.heap.size 145 1 (.slice (some ⟨gb,0,none⟩) n n) n (out2.map (Value.int .u32))/\Hid (out2.length=n)/\Words out2 /\
    Hid (bval out2+4294967296 ^ (i+k) * cr.toNat=bval out+4294967296 ^ i * (x.toNat * bval (ys.take k)))/\Hid (∀ j,i+ys.length<=j->out2.getD j 0=0)/\Below w.heap.size w wr)
    (fun _ j _=>ys.length - (intOf j).toNat)
   case atStart=>exact ⟨0,0,out,Nat.zero_le _,rfl,rfl,by omega,by omega,hown1,hol,HOW.out,by simp [Hid,bval],hzer.out,hb1⟩
   case round =>
    clear hown1 hb1 hol HOW
    obtain ⟨k,cr,out2,hk2,rfl,rfl,hc0,hc1,hown2,hol2,how2,hval2,hzer2,hb2⟩:=hrel
    have hol2':out2.length=n:=hol2.out
    have HOW2:=Lib.hid how2
    clear how2
    have hlen:i+ys.length<n+1:=by have:=HN.out;omega
    by_cases hky:k<ys.length
    ·obtain ⟨b2,o2,rfl,-,hcy⟩:=(G.out.keep hb2).addr (by omega)
     have hy:=hcy k hky
     clear hcy
     have by_:=words_getD HWY.out k
     obtain ⟨y,ey⟩:∃ y,y=ys.getD k 0:=⟨_,rfl⟩
     rw [<-ey] at hy by_
     have EY:=Lib.hid ey;clear ey
     obtain ⟨by0,by1⟩:=by_
     have hin:i+k<n:=by have:=HN.out;omega
     have bo:=words_getD HOW2.out (i+k)
     have hcell:wr.cell? ⟨gb,i+k,none⟩=some (.int .u32 (out2.getD (i+k) 0)):=by
      rw [hown2.cellAt (i+k) (by omega)]
      simp [List.getD,List.getElem?_eq_getElem (show i+k<out2.length by omega)]
     have hfz:wr.frozen? ⟨gb,i+k,none⟩=false:=hown2.frozenAt (i+k)
     obtain ⟨o,eo⟩:∃ o,o=out2.getD (i+k) 0:=⟨_,rfl⟩
     rw [<-eo] at hcell bo
     have EO:=Lib.hid eo;clear eo
     obtain ⟨bo0,bo1⟩:=bo
     obtain ⟨mb0,mb1⟩:=mul_bound bx0 bx1 by0 by1
     have HT:=Lib.hid (mul_step out2 (bval out) _ i k x y cr o bx0 by0 hc0 bo0 (by omega) EO.out ys EY.out hval2.out rfl)
     clear hol2'
     obtain ⟨m,hm⟩:∃ m,m=x * y:=⟨_,rfl⟩
     have hmul:x * y=m:=hm.symm
     rw [<-hm] at mb0 mb1
     clear hm
     have hb3:=hb2.size
     have hgb:w.heap.size<=gb:=by rw [HGB.out];exact Nat.le_refl _
     have hst:=hown2.stored (i+k) (.int .u32 ((cr+(m+o)) % 4294967296))
     have hbn:Below w.heap.size w (wr.setCell ⟨gb,i+k,none⟩ (.int .u32 ((cr+(m+o)) % 4294967296))):=hb2.grown hst.2 hb3 (fun q e=>by cases e;exact hgb)
     have hon:(wr.setCell ⟨gb,i+k,none⟩ (.int .u32 ((cr+(m+o)) % 4294967296))).ownsRow w.heap.size 145 1 (.slice (some ⟨gb,0,none⟩) n n) n ((out2.set (i+k) ((cr+(m+o)) % 4294967296)).map (Value.int .u32)):=by
      rw [List.map_set];exact hst.1
     have HON:=Lib.hid hon
     have HBN:=Lib.hid hbn
     have hw3:=Lib.hid (words_set HOW2.out (i+k) ((cr+(m+o)) % 4294967296) (by omega) (by omega))
     have hl3:Hid ((out2.set (i+k) ((cr+(m+o)) % 4294967296)).length=n):=by show _=_;rw [List.length_set];exact hol2.out
     have hz3:Hid (∀ j,i+ys.length<=j->(out2.set (i+k) ((cr+(m+o)) % 4294967296)).getD j 0=0):=by
      intro j hj
      have:=hzer2.out j hj
      rw [getD_set_ne _ _ _ _ (by omega)];exact this
     rw [hmul] at HT
     clear hst hbn hon hown2
     go_wp2
     go_roundw
     case rel=>exact ⟨k+1,(cr+(m+o)) / 4294967296,out2.set (i+k) ((cr+(m+o)) % 4294967296),by omega,by go_num,rfl,by omega,by omega,HON.out,hl3,hw3.out,HT,hz3,HBN.out⟩
     case measure=>simp [intOf];omega
    ·obtain rfl:k=ys.length:=by omega
     have hin:i+ys.length<n:=by have:=HN.out;omega
     have hcell:wr.cell? ⟨gb,i+ys.length,none⟩=some (.int .u32 0):=by
      rw [hown2.cellAt (i+ys.length) (by omega)]
      have:=hzer2.out (i+ys.length) (Nat.le_refl _)
      simp [List.getD,List.getElem?_eq_getElem (show i+ys.length<out2.length by omega)] at this
      simp [List.getElem?_eq_getElem (show i+ys.length<out2.length by omega),this]
     have hfz:wr.frozen? ⟨gb,i+ys.length,none⟩=false:=hown2.frozenAt (i+ys.length)
     have hb3:=hb2.size
     have hgb:w.heap.size<=gb:=by rw [HGB.out];exact Nat.le_refl _
     have hst:=hown2.stored (i+ys.length) (.int .u32 cr)
     have hbn:Below w.heap.size w (wr.setCell ⟨gb,i+ys.length,none⟩ (.int .u32 cr)):=hb2.grown hst.2 hb3 (fun q e=>by cases e;exact hgb)
     have hon:(wr.setCell ⟨gb,i+ys.length,none⟩ (.int .u32 cr)).ownsRow w.heap.size 145 1 (.slice (some ⟨gb,0,none⟩) n n) n ((out2.set (i+ys.length) cr).map (Value.int .u32)):=by
      rw [List.map_set];exact hst.1
     have HON:=Lib.hid hon
     have HBN:=Lib.hid hbn
     have hw3:=Lib.hid (words_set HOW2.out (i+ys.length) cr hc0 hc1)
     have hl3:Hid ((out2.set (i+ys.length) cr).length=n):=by show _=_;rw [List.length_set];exact hol2.out
     have hz3:Hid (∀ j,i+1+ys.length<=j->(out2.set (i+ys.length) cr).getD j 0=0):=by
      intro j hj
      have:=hzer2.out j (by omega)
      rw [getD_set_ne _ _ _ _ (by omega)];exact this
     have hv3:Hid (bval (out2.set (i+ys.length) cr)=bval (xs.take (i+1)) * bval ys):=by
      show _=_
      have h1:=bval_set out2 (i+ys.length) cr (by omega)
      rw [hzer2.out (i+ys.length) (Nat.le_refl _)] at h1
      have h2:=hval2.out
      rw [List.take_of_length_le (Nat.le_refl _),hval.out] at h2
      rw [bval_take_succ,<-EX.out,Nat.add_mul]
      simp only [Int.toNat_zero,Nat.mul_zero,Nat.add_zero] at h1
      rw [h1,h2,Nat.mul_assoc]
     clear hst hbn hon hown2 hol2'
     go_wp2
     go_roundw
     case rel=>exact ⟨i+1,out2.set (i+ys.length) cr,by omega,by go_num,HON.out,hl3,hw3.out,hv3,hz3,HBN.out⟩
     case measure=>simp [intOf];omega
  ·obtain rfl:i=xs.length:=by omega
   have hown3:=hown1
   obtain ⟨ad',cap',he,hr⟩:=Gx.Rd.own (k:=.u32) (xs:=out) hown3 (wf_words HOW.out)
   have hln:=hol.out
   obtain ⟨rfl,-,rfl⟩:some ⟨gb,0,none⟩=ad'/\n=out.length/\n=cap':=by simpa using he
   have HR:=Lib.hid hr
   clear hr hown1 hown3 he
   have hfin:bval out=bval xs * bval ys:=by
    rw [hval.out,List.take_of_length_le (Nat.le_refl _)]
   have HF:=Lib.hid hfin;clear hfin
   clear HN hol
   subst hln
   go_wp2_with (first
    | (go_at_call 157;refine (trimmed_any (some ⟨gb,0,none⟩) out.length out _ HR.out (by omega)).mono ?_;rintro e w' ⟨rfl,rfl⟩))
   go_ret
   refine ⟨some ⟨gb,0,none⟩,out.length,?_,?_,hb1⟩
   ·rw [<-HF.out];rfl
   ·rw [<-HF.out];exact HR.out.trim
set_option maxRecDepth 100000
theorem lenAux_bounds:∀ (f x:Nat),x<2 ^ f->x≠0->1<=Lib.bitLenAux f x/\2 ^ (Lib.bitLenAux f x - 1)<=x/\x<2 ^ Lib.bitLenAux f x
 | 0,x,h,h0=>by simp at h;omega
 | f+1,x,h,h0=>by
   rw [Lib.bitLenAux,if_neg h0]
   by_cases h2:x / 2=0
   ·have hz:Lib.bitLenAux f 0=0:=by cases f<;>simp [Lib.bitLenAux]
    rw [h2,hz]
    have:x=1:=by omega
    subst this
    simp
   ·obtain ⟨a,b,c⟩:=lenAux_bounds f (x / 2) (by rw [Nat.pow_succ] at h;omega) h2
    generalize Lib.bitLenAux f (x / 2)=L at a b c ⊢
    obtain ⟨k,rfl⟩:∃ k,L=k+1:=⟨L - 1,by omega⟩
    simp only [Nat.add_sub_cancel] at b
    refine ⟨by omega,?_,?_⟩
    ·rw [show 1+(k+1) - 1=k+1 by omega,Nat.pow_succ];omega
    ·rw [show 1+(k+1)=k+1+1 by omega,Nat.pow_succ];omega
def blen (n:Nat):Nat:=if n=0 then 0 else Nat.log2 n+1
theorem blen_of (n L:Nat) (h1:1<=L) (h2:2 ^ (L - 1)<=n) (h3:n<2 ^ L):blen n=L:=by
 have h0:n≠0:=by have:=Nat.two_pow_pos (L - 1);omega
 unfold blen
 rw [if_neg h0]
 have a:=(Nat.le_log2 h0).2 h2
 have b:=(Nat.log2_lt h0).2 h3
 omega
theorem blen_bounds (n:Nat) (h0:n≠0):1<=blen n/\2 ^ (blen n - 1)<=n/\n<2 ^ blen n:=by
 unfold blen
 rw [if_neg h0]
 exact ⟨by omega,(Nat.le_log2 h0).1 (by omega),(Nat.log2_lt h0).1 (by omega)⟩
theorem blen_zero (n:Nat):blen n=0↔n=0:=by
 unfold blen
 by_cases h:n=0
 ·simp [h]
 ·simp [h]
theorem pow32 (m:Nat):4294967296 ^ m=2 ^ (32 * m):=by rw [Nat.pow_mul]
theorem blen_last (v:Nat) (h0:v≠0):0<(canon v).length/\∃ x:Nat,(x:Int)=(canon v).getD ((canon v).length - 1) 0/\x<4294967296/\blen v=32 * ((canon v).length - 1)+Lib.bitLen x:=by
 have hp:0<(canon v).length:=by rw [canon_pos v h0];simp
 have hw:=canon_words v
 have hb:=bval_canon v
 have hg:=canon_len_gt v h0
 obtain ⟨l,hl⟩:∃ l,l=canon v:=⟨_,rfl⟩
 rw [<-hl] at hp hw hb hg ⊢
 refine ⟨hp,?_⟩
 obtain ⟨b0,b1⟩:=words_getD hw (l.length - 1)
 have hs:=bval_take_succ l (l.length - 1)
 rw [show l.length - 1+1=l.length by omega,List.take_of_length_le (Nat.le_refl _),hb] at hs
 have hlt:=bval_lt (l.take (l.length - 1)) (fun x hx=>hw x (List.mem_of_mem_take hx))
 rw [List.length_take,Nat.min_eq_left (by omega)] at hlt
 obtain ⟨x,ex⟩:∃ x:Nat,(x:Int)=l.getD (l.length - 1) 0:=⟨(l.getD (l.length - 1) 0).toNat,by omega⟩
 rw [<-ex] at hs b1
 rw [Int.toNat_natCast] at hs
 refine ⟨x,ex,by omega,?_⟩
 have hx0:x≠0:=by
  rintro rfl
  rw [Nat.mul_zero,Nat.add_zero] at hs
  omega
 obtain ⟨c1,c2,c3⟩:=lenAux_bounds 64 x (Nat.lt_of_lt_of_le (show x<4294967296 by omega) (by decide)) hx0
 have e:Lib.bitLenAux 64 x=Lib.bitLen x:=rfl
 rw [e] at c1 c2 c3
 generalize Lib.bitLen x=L at *
 rw [pow32] at hs hlt
 generalize l.length - 1=m at *
 refine blen_of _ _ (by omega) ?_ ?_
 ·rw [show 32 * m+L - 1=32 * m+(L - 1) by omega,Nat.pow_add,hs]
  exact Nat.le_trans (Nat.mul_le_mul_left _ c2) (Nat.le_add_left _ _)
 ·rw [Nat.pow_add,hs]
  have h4:2 ^ (32 * m) * (x+1)<=2 ^ (32 * m) * 2 ^ L:=Nat.mul_le_mul_left _ c3
  rw [Nat.mul_add,Nat.mul_one] at h4
  omega
theorem bitLen_le32 (x:Nat) (h:x<4294967296):Lib.bitLen x<=32:=by
 by_cases h0:x=0
 ·subst h0;decide
 obtain ⟨c1,c2,c3⟩:=lenAux_bounds 64 x (Nat.lt_of_lt_of_le h (by decide)) h0
 have e:Lib.bitLenAux 64 x=Lib.bitLen x:=rfl
 rw [e] at c1 c2 c3
 have h5:2 ^ (Lib.bitLen x - 1)<2 ^ 32:=Nat.lt_of_le_of_lt c2 (by simpa using h)
 have:=(Nat.pow_lt_pow_iff_right (by decide)).1 h5
 omega
def LenPost (n:Nat) (w:World) (e:Ending) (w':World):Prop:=e=.returned (.int .i64 (blen n:Nat))/\w=w'
set_option maxHeartbeats 400000 in
theorem bigLen_any (ad:Option Addr) (ca:Nat) (xs:List Int) (w:World) (h:Rd .u32 w ad ca xs) (hl:xs.length<=1048576) :
 Calls Tryz.prog 147 #[.slice ad xs.length ca] w (LenPost (bval xs) w):=by
 have hlen:(canon (bval xs)).length<=1048576:=by
  obtain ⟨m,hm,e⟩:=canon_take xs (words_of_rd h)
  rw [e];simp;omega
 have H:=Lib.hid h
 have HT:=Lib.hid h.trim
 clear h
 by_cases h0:bval xs=0
 ·go_enter Tryz.func147,Tryz.ntmps147
  go_wp2_with fail
  refine (trimmed_any ad ca xs w H.out (by omega)).mono ?_
  rintro e w' ⟨rfl,rfl⟩
  have hz:(canon (bval xs)).length=0:=by rw [h0];rfl
  rw [hz]
  go_wp2
  go_ret
  exact ⟨by rw [h0];rfl,rfl⟩
 ·obtain ⟨hp,x,ex,hx,hbl⟩:=blen_last _ h0
  obtain ⟨b,o,hab,-,hc⟩:=HT.out.addr hp
  have hc1:=hc ((canon (bval xs)).length - 1) (by omega)
  rw [<-ex] at hc1
  have h32:=bitLen_le32 x hx
  have HB:=Lib.hid hbl
  have hne:((canon (bval xs)).length==0)=false:=by simp;intro e;rw [e] at hp;simp at hp
  have hne2:(((canon (bval xs)).length:Int)==0)=false:=by simp;intro e;rw [e] at hp;simp at hp
  clear hc ex hbl HT
  subst hab
  go_enter Tryz.func147,Tryz.ntmps147
  go_wp2_with fail
  refine (trimmed_any _ ca xs w H.out (by omega)).mono ?_
  rintro e w' ⟨rfl,rfl⟩
  obtain ⟨L,hL⟩:∃ L,L=(canon (bval xs)).length:=⟨_,rfl⟩
  rw [<-hL] at hc1 hne hne2 hp hlen HB ⊢
  clear hL
  have i1:(0:Int)<=(L:Int) - 1:=by omega
  have i2:(L:Int) - 1<(L:Int):=by omega
  have i3:((L:Int) - 1).toNat=L - 1:=by omega
  go_wp2_with fail
  refine (Tryz.bits_Len32 (x:Int) w (by omega) (by omega)).mono ?_
  rintro e w' ⟨rfl,rfl⟩
  go_wp2
  go_ret
  refine ⟨?_,rfl⟩
  show Ending.returned (Value.int .i64 _)=_
  rw [HB.out]
  congr 2
  omega
end Go.Proofs.YtldhmfkojaekfaaGreatDoor
namespace Go.Proofs.YtldhmfkojaekfaaGreatDoor
theorem near_firstK (K:Nat) {num den E:Nat} (hn:num≠0) (hd:den≠0) (h1:blen num+K<=E+blen den+54) (h2:E=0\/blen num+K=E+blen den+54) :
 num * 2 ^ K<2 ^ 55 * (den * 2 ^ E)/\(E=0\/2 ^ 53 * (den * 2 ^ E)<num * 2 ^ K):=by
 obtain ⟨n1,n2,n3⟩:=blen_bounds num hn
 obtain ⟨d1,d2,d3⟩:=blen_bounds den hd
 generalize blen num=ln at *
 generalize blen den=ld at *
 constructor
 ·have a1:num * 2 ^ K<2 ^ ln * 2 ^ K:=Nat.mul_lt_mul_of_pos_right n3 (Nat.pow_pos (by decide))
  have a2:2 ^ ln * 2 ^ K<=2 ^ 55 * (2 ^ (ld - 1) * 2 ^ E):=by
   rw [<-Nat.pow_add,<-Nat.pow_add,<-Nat.pow_add]
   exact Nat.pow_le_pow_right (by decide) (by omega)
  have a3:2 ^ 55 * (2 ^ (ld - 1) * 2 ^ E)<=2 ^ 55 * (den * 2 ^ E):=Nat.mul_le_mul_left _ (Nat.mul_le_mul_right _ d2)
  exact Nat.lt_of_lt_of_le a1 (Nat.le_trans a2 a3)
 ·rcases h2 with h2|h2
  ·exact .inl h2
  ·right
   have a1:2 ^ 53 * (den * 2 ^ E)<2 ^ 53 * (2 ^ ld * 2 ^ E):=Nat.mul_lt_mul_of_pos_left (Nat.mul_lt_mul_of_pos_right d3 (Nat.two_pow_pos _)) (Nat.two_pow_pos _)
   have a2:2 ^ 53 * (2 ^ ld * 2 ^ E)=2 ^ (ln - 1) * 2 ^ K:=by
    rw [<-Nat.pow_add,<-Nat.pow_add,<-Nat.pow_add]
    congr 1
    omega
   rw [a2] at a1
   exact Nat.lt_of_lt_of_le a1 (Nat.mul_le_mul_right _ n2)
theorem near_first {num den E:Nat} (hn:num≠0) (hd:den≠0) (h1:blen num+1021<=E+blen den) (h2:E=0\/blen num+1021=E+blen den) :
 num * 2 ^ 1075<2 ^ 55 * (den * 2 ^ E)/\(E=0\/2 ^ 53 * (den * 2 ^ E)<num * 2 ^ 1075) :=
 near_firstK 1075 hn hd (by omega) (by omega)
structure Step (Y T n:Nat):Prop where
 lo:n=0\/(2 * n - 1) * T<Y\/((2 * n - 1) * T=Y/\n % 2=0)
 hi:Y<(2 * n+1) * T\/(Y=(2 * n+1) * T/\n % 2=0)
theorem Step.up {Y T n:Nat} (h:Step Y T n):Y<=(2 * n+1) * T:=by rcases h.hi with h|h;omega;omega
theorem Step.dn {Y T n:Nat} (h:Step Y T n):(2 * n - 1) * T<=Y:=by
 rcases h.lo with h|h|h
 ·subst h;simp
 ·omega
 ·omega
theorem Step.top {Y T n K:Nat} (h:Step Y T n) (hT:0<T) (ha:Y<2 * K * T):n<=K:=by
 apply Classical.byContradiction
 intro hc
 have h1:2 * K * T<=(2 * n - 1) * T:=Nat.mul_le_mul_right _ (by omega)
 have:=h.dn
 omega
theorem Step.bot {Y T n K:Nat} (h:Step Y T n) (hT:0<T) (ha:2 * K * T<Y):K<=n:=by
 apply Classical.byContradiction
 intro hc
 have h1:(2 * n+1) * T<=2 * K * T:=Nat.mul_le_mul_right _ (by omega)
 have:=h.up
 omega
variable {Y D E n m:Nat}
theorem near_hiE (hD:0<D) (hE:2046<=E) (hb:2 * 4503599627370496 * (D * 2 ^ E)<Y):Rnd Y D 9218868437227405312:=by
 refine ⟨Nat.le_refl _,.inr (.inl ?_),.inl rfl⟩
 obtain ⟨E0,hE0⟩:∃ E0:Nat,E0=2046:=⟨_,rfl⟩
 have hv:fval 9218868437227405312=4503599627370496 * 2 ^ E0:=by
  have:=fval_of 4503599627370496 E0 (by omega) (.inr (by omega))
  rw [show E0 * 4503599627370496+4503599627370496=9218868437227405312 by omega] at this
  exact this
 have hm:fmid (9218868437227405312 - 1)<2 * fval 9218868437227405312:=by
  have h1:fmid (9218868437227405312 - 1)=fval (9218868437227405312 - 1)+fval (9218868437227405312 - 1+1):=rfl
  have h2:fval (9218868437227405312 - 1)<fval 9218868437227405312:=fval_lt (by omega)
  rw [h1,show 9218868437227405312 - 1+1=9218868437227405312 by omega]
  omega
 have h3:D * fmid (9218868437227405312 - 1)<D * (2 * fval 9218868437227405312):=Nat.mul_lt_mul_of_pos_left hm hD
 have h4:D * (2 * fval 9218868437227405312)<=2 * 4503599627370496 * (D * 2 ^ E):=by
  rw [hv,Nat.mul_left_comm D,Nat.mul_left_comm D,<-Nat.mul_assoc]
  exact Nat.mul_le_mul_left _ (Nat.mul_le_mul_left _ (Nat.pow_le_pow_right (by decide) (by omega)))
 omega
theorem near_one (hD:0<D) (hs:Step Y (D * 2 ^ E) n) (hn:n<9007199254740992) (hb:E=0\/2 * 4503599627370496 * (D * 2 ^ E)<Y) (hE:E<=2048) :
 (E=0\/4503599627370496<=n)/\Rnd Y D (if 9218868437227405312<=E * 4503599627370496+n then 9218868437227405312 else E * 4503599627370496+n):=by
 have hT:0<D * 2 ^ E:=Nat.mul_pos hD (Nat.two_pow_pos _)
 have h1:E=0\/4503599627370496<=n:=hb.imp id (fun h=>hs.bot hT h)
 refine ⟨h1,near_law hD hn h1 hE hs.lo hs.hi (hb.imp id (fun h=>?_))⟩
 generalize D * 2 ^ E=T at *
 omega
theorem near_two (hD:0<D) (hs:Step Y (D * 2 ^ E) n) (hn:9007199254740992<=n) (ha:Y<36028797018963968 * (D * 2 ^ E)) (hs2:Step Y (D * 2 ^ (E+1)) m) (hE:E<=2046) :
 4503599627370496<=m/\m<=9007199254740992/\(m<9007199254740992->Rnd Y D (if 9218868437227405312<=(E+1) * 4503599627370496+m then 9218868437227405312 else (E+1) * 4503599627370496+m)) /\
  (m=9007199254740992->Rnd Y D (if 9218868437227405312<=(E+2) * 4503599627370496+4503599627370496 then 9218868437227405312 else (E+2) * 4503599627370496+4503599627370496)):=by
 have hT:0<D * 2 ^ E:=Nat.mul_pos hD (Nat.two_pow_pos _)
 have e1:D * 2 ^ (E+1)=2 * (D * 2 ^ E):=by rw [Nat.pow_succ,<-Nat.mul_assoc,Nat.mul_comm]
 have e2:D * 2 ^ (E+2)=4 * (D * 2 ^ E):=by rw [Nat.pow_succ,Nat.pow_succ,Nat.mul_assoc (2 ^ E) 2 2,<-Nat.mul_assoc,Nat.mul_comm]
 have hd:=hs.dn
 have hq:18014398509481983 * (D * 2 ^ E)<=Y:=Nat.le_trans (Nat.mul_le_mul_right _ (by omega)) hd
 have hT2:0<D * 2 ^ (E+1):=Nat.mul_pos hD (Nat.two_pow_pos _)
 have hm1:4503599627370496<=m:=by
  apply Classical.byContradiction
  intro hc
  have h1:(2 * m+1) * (D * 2 ^ (E+1))<=9007199254740991 * (D * 2 ^ (E+1)):=Nat.mul_le_mul_right _ (by omega)
  have h2:=hs2.up
  rw [e1] at h1 h2
  generalize D * 2 ^ E=T at *
  omega
 have hm2:m<=9007199254740992:=by
  refine hs2.top hT2 ?_
  rw [e1]
  generalize D * 2 ^ E=T at *
  omega
 refine ⟨hm1,hm2,fun h=>?_,fun h=>?_⟩
 ·refine near_law hD h (.inr hm1) (by omega) hs2.lo hs2.hi (.inr ?_)
  rw [e1]
  generalize D * 2 ^ E=T at *
  omega
 ·refine near_law hD (by omega) (.inr (Nat.le_refl _)) (by omega) (.inr (.inl ?_)) (.inl ?_) (.inr ?_)
  ·have h2:=hs2.dn
   rw [h,e1] at h2
   rw [e2]
   generalize D * 2 ^ E=T at *
   omega
  ·rw [e2]
   generalize D * 2 ^ E=T at *
   omega
  ·have h2:=hs2.dn
   rw [h,e1] at h2
   rw [e2]
   generalize D * 2 ^ E=T at *
   omega
end Go.Proofs.YtldhmfkojaekfaaGreatDoor
namespace Go.Proofs.YtldhmfkojaekfaaGreatDoor
open Go.RowKit Gx
set_option maxRecDepth 100000
def cmpOf (a b:Nat):Int:=if a<b then -1 else if b<a then 1 else 0
theorem cmp_lt {a b:Nat} (h:a<b):cmpOf a b=-1:=if_pos h
theorem cmp_gt {a b:Nat} (h:b<a):cmpOf a b=1:=by unfold cmpOf;rw [if_neg (by omega),if_pos h]
theorem cmp_eq {a b:Nat} (h:a=b):cmpOf a b=0:=by unfold cmpOf;rw [if_neg (by omega),if_neg (by omega)]
theorem canon_lt {a b:Nat} (h:(canon a).length<(canon b).length):a<b:=by
 rcases Nat.lt_or_ge a b with h1|h1
 ·exact h1
 ·exfalso
  have hb:b≠0:=by intro h0;subst h0;simp [canon_zero] at h
  have h2:=canon_len_gt b hb
  have h3:=bval_lt (canon a) (canon_words a)
  rw [bval_canon] at h3
  have h4:4294967296 ^ (canon a).length<=4294967296 ^ ((canon b).length - 1):=Nat.pow_le_pow_right (by decide) (by omega)
  omega
theorem bval_part (A B:List Int) (hA:Words A) (hB:Words B) (hl:A.length=B.length) (m:Nat) (hm:m<A.length) (he:∀ j,m<j->j<A.length->A.getD j 0=B.getD j 0) (hlt:A.getD m 0<B.getD m 0) :
 bval A<bval B:=by
 have hd:A.drop (m+1)=B.drop (m+1):=by
  apply List.ext_getElem
  ·simp [hl]
  ·intro i h1 h2
   simp at h1 h2
   have:=he (m+1+i) (by omega) (by omega)
   simpa [List.getD,List.getElem?_eq_getElem (show m+1+i<A.length by omega),List.getElem?_eq_getElem (show m+1+i<B.length by omega)] using this
 have ha:bval A=bval (A.take (m+1))+4294967296 ^ (m+1) * bval (A.drop (m+1)):=by
  conv=>lhs;rw [<-List.take_append_drop (m+1) A]
  rw [bval_append];simp [Nat.min_eq_left (show m+1<=A.length by omega)]
 have hb:bval B=bval (B.take (m+1))+4294967296 ^ (m+1) * bval (B.drop (m+1)):=by
  conv=>lhs;rw [<-List.take_append_drop (m+1) B]
  rw [bval_append];simp [Nat.min_eq_left (show m+1<=B.length by omega)]
 rw [ha,hb,hd,bval_take_succ,bval_take_succ]
 have h1:=bval_lt (A.take m) (fun x hx=>hA x (List.mem_of_mem_take hx))
 simp only [List.length_take,Nat.min_eq_left (show m<=A.length by omega)] at h1
 have wa:=words_getD hA m
 have wb:=words_getD hB m
 have h2:(A.getD m 0).toNat+1<=(B.getD m 0).toNat:=by omega
 have h3:=Nat.mul_le_mul_left (4294967296 ^ m) h2
 rw [Nat.mul_add,Nat.mul_one] at h3
 omega
def CmpPostFl (a b:Nat) (w:World) (e:Ending) (w':World):Prop:=e=.returned (.int .i64 (cmpOf a b))/\Below w.heap.size w w'
set_option maxHeartbeats 1000000 in
theorem bigCmp_any (ad bd:Option Addr) (ca cb:Nat) (xs ys:List Int) (w:World) (h:Rd .u32 w ad ca xs) (g:Rd .u32 w bd cb ys) (hl:xs.length<=1073741824) (hl2:ys.length<=1073741824) :
 Calls Tryz.prog 164 #[.slice ad xs.length ca,.slice bd ys.length cb] w (CmpPostFl (bval xs) (bval ys) w):=by
 have HA:=Lib.hid (trimmed_any ad ca xs w h (by omega))
 have HB:=Lib.hid (trimmed_any bd cb ys w g (by omega))
 have TA:=h.trim
 have TB:=g.trim
 have wx:=words_of_rd h
 have wy:=words_of_rd g
 clear h g
 have eA:bval (canon (bval xs))=bval xs:=bval_canon _
 have eB:bval (canon (bval ys))=bval ys:=bval_canon _
 have WA:=canon_words (bval xs)
 have WB:=canon_words (bval ys)
 have lA:(canon (bval xs)).length<=1073741824:=by have:=canon_len_le (bval xs) xs.length (bval_lt _ wx);omega
 have lB:(canon (bval ys)).length<=1073741824:=by have:=canon_len_le (bval ys) ys.length (bval_lt _ wy);omega
 clear wx wy
 obtain ⟨a,ha⟩:∃ a,a=bval xs:=⟨_,rfl⟩
 obtain ⟨b,hb⟩:∃ b,b=bval ys:=⟨_,rfl⟩
 unfold TrimmedPost at HA HB
 rw [<-ha] at HA TA eA WA lA ⊢
 rw [<-hb] at HB TB eB WB lB ⊢
 clear ha hb
 have hcl:(canon a).length<(canon b).length->a<b:=canon_lt
 have hcg:(canon b).length<(canon a).length->b<a:=canon_lt
 obtain ⟨A,hA⟩:∃ A,A=canon a:=⟨_,rfl⟩
 obtain ⟨B,hB⟩:∃ B,B=canon b:=⟨_,rfl⟩
 rw [<-hA] at HA TA eA WA lA hcl hcg
 rw [<-hB] at HB TB eB WB lB hcl hcg
 clear hA hB
 rcases Nat.lt_trichotomy A.length B.length with hc|hc|hc
 ·have HP:=Lib.hid (cmp_lt (hcl hc))
  have ht:decide ((A.length:Int)<(B.length:Int))=true:=by simpa using hc
  clear hcl hcg TA TB eA eB WA WB
  go_enter Tryz.func164,Tryz.ntmps164
  go_wp2_with fail
  refine HA.out.mono ?_
  rintro e w' ⟨rfl,rfl⟩
  go_wp2_with fail
  refine HB.out.mono ?_
  rintro e w' ⟨rfl,rfl⟩
  go_wp2
  go_ret
  exact ⟨by rw [HP.out];rfl,Below.refl _ _⟩
 ·have ht:decide ((A.length:Int)<(B.length:Int))=false:=by simp;omega
  have ht2:decide ((B.length:Int)<(A.length:Int))=false:=by simp;omega
  have ht3:decide (A.length<B.length)=false:=by simp;omega
  have ht4:decide (B.length<A.length)=false:=by simp;omega
  have HPL:Hid (∀ m,m<A.length->(∀ j,m<j->j<A.length->A.getD j 0=B.getD j 0)->A.getD m 0<B.getD m 0->a<b):=by
   intro m h1 h2 h3
   have:=bval_part A B WA WB hc m h1 h2 h3
   omega
  have HPG:Hid (∀ m,m<A.length->(∀ j,m<j->j<A.length->A.getD j 0=B.getD j 0)->B.getD m 0<A.getD m 0->b<a):=by
   intro m h1 h2 h3
   have:=bval_part B A WB WA hc.symm m (by omega) (fun j q1 q2=>(h2 j q1 (by omega)).symm) h3
   omega
  have HPE:Hid ((∀ j,j<A.length->A.getD j 0=B.getD j 0)->a=b):=by
   intro h2
   have:A=B:=by
    apply List.ext_getElem hc
    intro i h3 h4
    have:=h2 i h3
    simpa [List.getD,List.getElem?_eq_getElem h3,List.getElem?_eq_getElem h4] using this
   rw [<-eA,<-eB,this]
  have HC:=Lib.hid hc
  have TA:=Lib.hid TA
  have TB:=Lib.hid TB
  clear hcl hcg eA eB WA WB hc
  go_enter Tryz.func164,Tryz.ntmps164
  go_wp2_with fail
  refine HA.out.mono ?_
  rintro e w' ⟨rfl,rfl⟩
  go_wp2_with fail
  refine HB.out.mono ?_
  rintro e w' ⟨rfl,rfl⟩
  clear HA HB
  go_wp2
  clear ht ht2 ht3 ht4
  go_loopw [5] (fun i wr=>∃ m:Nat,m<=A.length/\i=.int .i64 ((m:Int) - 1)/\Hid (∀ j,m<=j->j<A.length->A.getD j 0=B.getD j 0)/\Hid (∃ n,wr=w.drewN n))
   (fun i _=>(intOf i+1).toNat)
  case atStart=>exact ⟨A.length,Nat.le_refl _,rfl,fun j h1 h2=>by omega,0,rfl⟩
  case round =>
   obtain ⟨m,hm,rfl,heq,hw⟩:=hrel
   by_cases hm0:m=0
   ·subst hm0
    have hab:=HPE.out (fun j hj=>heq.out j (Nat.zero_le _) hj)
    have HP:=Lib.hid (cmp_eq hab)
    clear hab
    go_wp2
    go_ret
    obtain ⟨n,e⟩:=hw.out
    exact ⟨by rw [HP.out];rfl,by rw [e];exact Gx.drewN_below _ _ _⟩
   ·obtain ⟨b1,o1,rfl,-,hc1⟩:=TA.out.addr (by omega)
    obtain ⟨b2,o2,rfl,-,hc2⟩:=TB.out.addr (by have:=HC.out;omega)
    have hd1:=hc1 (m - 1) (by omega)
    have hd2:=hc2 (m - 1) (by have:=HC.out;omega)
    clear hc1 hc2
    obtain ⟨x,ex⟩:∃ x,x=A.getD (m - 1) 0:=⟨_,rfl⟩
    obtain ⟨y,ey⟩:∃ y,y=B.getD (m - 1) 0:=⟨_,rfl⟩
    rw [<-ex] at hd1
    rw [<-ey] at hd2
    have EX:=Lib.hid ex
    have EY:=Lib.hid ey
    clear ex ey
    have hf1:wr.cell? ⟨b1,o1+(m - 1),none⟩=some (.int .u32 x):=by obtain ⟨n,e⟩:=hw.out;rw [e,World.cell?_drewN];exact hd1
    have hf2:wr.cell? ⟨b2,o2+(m - 1),none⟩=some (.int .u32 y):=by obtain ⟨n,e⟩:=hw.out;rw [e,World.cell?_drewN];exact hd2
    have hmB:m<=B.length:=by have:=HC.out;omega
    clear hd1 hd2
    have hi0:(0:Int)<=(m:Int) - 1:=by omega
    have hi1:(m:Int) - 1<(A.length:Int):=by omega
    have hi2:(m:Int) - 1<(B.length:Int):=by omega
    have hi3:((m:Int) - 1).toNat=m - 1:=by omega
    rcases Int.lt_trichotomy x y with hxy|hxy|hxy
    ·have hd:decide (x<y)=true:=by simpa using hxy
     have HP:=Lib.hid (cmp_lt (HPL.out (m - 1) (by omega) (fun j q1 q2=>heq.out j (by omega) q2) (by rw [<-EX.out,<-EY.out];exact hxy)))
     go_wp2
     go_quiet (fail)
     go_wp2
     go_ret
     obtain ⟨n,e⟩:=hw.out
     exact ⟨by rw [HP.out];rfl,by rw [e];repeat first|exact Gx.drewN_below _ _ _|refine Below.trans ?_ (Gx.drewN_below _ _ _)⟩
    ·subst hxy
     have hd:decide (x<x)=false:=by simp
     go_wp2
     go_quiet (fail)
     go_wp2
     go_quiet (fail)
     go_wp2
     go_roundw
     case rel =>
      refine ⟨m - 1,by omega,?_,fun j q1 q2=>?_,?_⟩
      ·congr 1<;>omega
      ·by_cases hj:j=m - 1
       ·rw [hj,<-EX.out,<-EY.out]
       ·exact heq.out j (by omega) q2
      ·obtain ⟨n,e⟩:=hw.out
       exact ⟨_,by rw [e,World.drewN_drewN]⟩
     case measure=>simp [intOf];omega
    ·have hd:decide (x<y)=false:=by simp;omega
     have hd':decide (y<x)=true:=by simpa using hxy
     have HP:=Lib.hid (cmp_gt (HPG.out (m - 1) (by omega) (fun j q1 q2=>heq.out j (by omega) q2) (by rw [<-EX.out,<-EY.out];exact hxy)))
     go_wp2
     go_quiet (fail)
     go_wp2
     go_quiet (fail)
     go_wp2
     go_ret
     obtain ⟨n,e⟩:=hw.out
     exact ⟨by rw [HP.out];rfl,by rw [e];repeat first|exact Gx.drewN_below _ _ _|refine Below.trans ?_ (Gx.drewN_below _ _ _)⟩
 ·have HP:=Lib.hid (cmp_gt (hcg hc))
  have ht:decide ((A.length:Int)<(B.length:Int))=false:=by simp;omega
  have ht2:decide ((B.length:Int)<(A.length:Int))=true:=by simpa using hc
  clear hcl hcg TA TB eA eB WA WB
  go_enter Tryz.func164,Tryz.ntmps164
  go_wp2_with fail
  refine HA.out.mono ?_
  rintro e w' ⟨rfl,rfl⟩
  go_wp2_with fail
  refine HB.out.mono ?_
  rintro e w' ⟨rfl,rfl⟩
  go_wp2
  go_ret
  exact ⟨by rw [HP.out];rfl,Below.refl _ _⟩
set_option maxRecDepth 100000
theorem borrow_range (x y c:Int):0<=borrowOf x y c/\borrowOf x y c<=1:=by
 unfold borrowOf
 split<;>omega
set_option maxRecDepth 100000
theorem or_word (hi lo:Int) (hh:0<=hi) (hh':hi<=4294967295) (hl:0<=lo) (hl':lo<=4294967295):bits BinOp.or IntKind.u64 (hi * 4294967296) lo=hi * 4294967296+lo:=by
 obtain ⟨a,rfl⟩:=Int.eq_ofNat_of_zero_le hh
 obtain ⟨b,rfl⟩:=Int.eq_ofNat_of_zero_le hl
 have e:(a:Int) * 4294967296=((a * 4294967296:Nat):Int):=by omega
 rw [e,bits_or_u64_nat _ _ (by omega) (by omega)]
 have h:=Nat.shiftLeft_add_eq_or_of_lt (b:=b) (i:=32) (by omega) a
 rw [Nat.shiftLeft_eq] at h
 have h2:(2:Nat) ^ 32=4294967296:=by decide
 rw [h2] at h
 rw [<-h];omega
def DivPost (a b:Int) (w:World) (e:Ending) (w':World):Prop:=e=.returned (.tuple #[.int .u32 a,.int .u32 b])/\∃ n,w'=w.drewN n
set_option maxHeartbeats 400000 in
theorem div32_any (hi lo y:Int) (w:World) (hh:0<=hi) (hl:0<=lo) (hl':lo<=4294967295) (hy':y<=4294967295) (hy:hi<y) :
 Calls Tryz.prog 195 #[.int .u32 hi,.int .u32 lo,.int .u32 y] w (DivPost ((hi * 4294967296+lo) / y) ((hi * 4294967296+lo) % y) w):=by
 have hb:((y:Int) != 0)=true:=by simp;omega
 have hb1:decide (y<=hi)=false:=by simp;omega
 have hor:=or_word hi lo hh (by omega) hl hl'
 obtain ⟨z,hz⟩:∃ z,z=hi * 4294967296+lo:=⟨_,rfl⟩
 have hz0:0<=z:=by omega
 have hz1:z<=18446744073709551615:=by omega
 have hq0:0<=z / y:=Int.ediv_nonneg hz0 (by omega)
 have hq1:z / y<=4294967295:=by
  have:z / y<4294967296:=Int.ediv_lt_of_lt_mul (by omega) (by
   have:(hi+1) * 4294967296<=y * 4294967296:=Int.mul_le_mul_of_nonneg_right (by omega) (by decide)
   rw [Int.mul_comm 4294967296 y];omega)
  omega
 have hr0:0<=z % y:=Int.emod_nonneg _ (by omega)
 have hr1:z % y<=4294967295:=by have:=Int.emod_lt_of_pos z (show 0<y by omega);omega
 rw [<-hz] at hor ⊢
 clear hz
 have hy1:1<=y:=by omega
 have hd1:z.tdiv y=z / y:=Int.tdiv_eq_ediv_of_nonneg hz0
 have hd2:z.tmod y=z % y:=Int.tmod_eq_emod_of_nonneg hz0
 have hw1:IntKind.u64.wrap (z / y)=z / y:=by rw [IntKind.wrap_u64];omega
 have hm1:z / y % 4294967296=z / y:=by omega
 have hm2:z % y % 4294967296=z % y:=by omega
 go_enter Tryz.func195,Tryz.ntmps195
 go_wp2
 go_quiet (fail)
 go_wp2
 go_ret2
 exact ⟨rfl,_,rfl⟩
end Go.Proofs.YtldhmfkojaekfaaGreatDoor
