/-
  Lemmas for the statement: plain laws, and what functions answer; the conditions stand in each.
-/
import Derived.Deep.DeepCutAuto
import Derived.Deep.CutBlock
import Derived.IntWalk
import Derived.Lib.RabinKarpLaws
import Derived.Deep.RegionLaw
import Derived.Deep.AppendLies
import Derived.Deep.OwnRows
import Derived.Test.YtldhmfkojaekfaaGreatDoorMeanTwiceAllPartG
set_option linter.unusedVariables false
set_option linter.unusedSimpArgs false
namespace Go.Proofs.YtldhmfkojaekfaaGreatDoor
open Go.RowKit Gx
set_option maxRecDepth 100000
def LongPost (q r:Nat) (w:World) (e:Ending) (w':World):Prop :=
 ∃ qo qc ro rc,e=.returned (.tuple #[.slice qo (canon q).length qc,.slice ro (canon r).length rc])/\Rd .u32 w' qo qc (canon q)/\Rd .u32 w' ro rc (canon r)/\Below w.heap.size w w'
structure LM (B0 gu gq m cap k:Nat) (vd:Option Addr) (vc:Nat) (vs us qs:List Int) (w wr:World):Prop where
 u:wr.ownsRow B0 145 1 (.slice (some ⟨gu,0,none⟩) m cap) m (us.map (Value.int .u32))
 q:wr.ownsRow B0 145 1 (.slice (some ⟨gq,0,none⟩) k k) k (qs.map (Value.int .u32))
 v:Rd .u32 wr vd vc vs
 ne:gu≠gq
 nu:∀ a,vd=some a->a.block≠gu
 nq:∀ a,vd=some a->a.block≠gq
 bu:B0<=gu
 bq:B0<=gq
 bel:Below B0 w wr
 bw:B0<=w.heap.size
variable {B0 gu gq m cap k:Nat} {vd:Option Addr} {vc:Nat} {vs us qs us' qs':List Int} {w wr w':World}
theorem LM.drawn (h:LM B0 gu gq m cap k vd vc vs us qs w wr) (n:Nat):LM B0 gu gq m cap k vd vc vs us qs w (wr.drewN n) :=
 ⟨h.u,h.q,h.v.keep (Gx.drewN_below _ _ _),h.ne,h.nu,h.nq,h.bu,h.bq,h.bel.trans (Gx.drewN_below _ _ _),h.bw⟩
theorem LM.setU (h:LM B0 gu gq m cap k vd vc vs us qs w wr) (ho:w'.ownsRow B0 145 1 (.slice (some ⟨gu,0,none⟩) m cap) m (us'.map (Value.int .u32))) (hg:wr.grownBy w' (some gu)):LM B0 gu gq m cap k vd vc vs us' qs w w' :=
 ⟨ho,h.q.kept hg (.inr (by simp [Value.ownBlock];exact fun e=>h.ne e.symm)),h.v.grown hg (fun a ha _ e=>h.nu a ha (Option.some.inj e)),h.ne,h.nu,h.nq,h.bu,h.bq,h.bel.grown hg (Nat.le_trans h.bw h.bel.size) (fun j e=>by cases e;exact h.bu),h.bw⟩
theorem LM.setQ (h:LM B0 gu gq m cap k vd vc vs us qs w wr) (j:Nat) (x:Int):LM B0 gu gq m cap k vd vc vs us (qs.set j x) w (wr.setCell ⟨gq,j,none⟩ (.int .u32 x)):=by
 have hst:=h.q.stored j (.int .u32 x)
 exact ⟨h.u.kept hst.2 (.inr (by simp [Value.ownBlock];exact h.ne)),by rw [List.map_set];exact hst.1,h.v.grown hst.2 (fun a ha _ e=>h.nq a ha (Option.some.inj e)),h.ne,h.nu,h.nq,h.bu,h.bq,h.bel.grown hst.2 (Nat.le_trans h.bw h.bel.size) (fun j e=>by cases e;exact h.bq),h.bw⟩
theorem LM.cellU (h:LM B0 gu gq m cap k vd vc vs us qs w wr) (hl:us.length=m) (i:Nat) (hi:i<m):wr.cell? ⟨gu,i,none⟩=some (.int .u32 (us.getD i 0)):=by
 rw [h.u.cellAt i (by omega)]
 simp [List.getD,List.getElem?_eq_getElem (show i<us.length by omega)]
theorem own_weaken {w:World} {base base':Nat} {e:TypeId} {size:Nat} {v:Value} {n:Nat} {xs:List Value} (h:w.ownsRow base e size v n xs) (hb:base'<=base):w.ownsRow base' e size v n xs:=by
 refine ⟨h.1,?_⟩
 rcases h.2 with h2|⟨r,cap,cur,hv,hr,rest⟩
 ·exact .inl h2
 ·exact .inr ⟨r,cap,cur,hv,Nat.le_trans hb hr,rest⟩
set_option maxHeartbeats 8000000 in
set_option maxRecDepth 100000 in
theorem long_any (ad bd:Option Addr) (ca cb a b:Nat) (w:World) (h:Rd .u32 w ad ca (canon a)) (g:Rd .u32 w bd cb (canon b)) (hl:(canon a).length<=1000000) (h2:2<=(canon b).length) (hab:b<=a) :
 Calls Tryz.prog 181 #[.slice ad (canon a).length ca,.slice bd (canon b).length cb] w (LongPost (a / b) (a % b) w):=by
 have hb0:b≠0:=by rintro rfl;simp [canon_zero] at h2
 have hlb:(canon b).length<=1000000:=Nat.le_trans (canon_len_le b _ (Nat.lt_of_le_of_lt hab (by have:=bval_lt (canon a) (canon_words a);rwa [bval_canon] at this))) hl
 obtain ⟨-,x,hx,hx2,-⟩:=blen_last b hb0
 obtain ⟨x32,x1,hd⟩:=div_start b hb0 h2 x hx
 obtain ⟨N,hN⟩:∃ N,N=32 - Lib.bitLen x:=⟨_,rfl⟩
 have hLZ:(32:Int) - (Lib.bitLen x:Int)=(N:Int):=by omega
 have hN31:N<=31:=by omega
 rw [<-hN] at hd
 clear hN x32 x1
 have hAB:b * 2 ^ N<=a * 2 ^ N:=Nat.mul_le_mul_right _ hab
 obtain ⟨hle,hinv⟩:=long_start hd hAB
 have hla:(canon (a * 2 ^ N)).length<=1000001:=by
  refine Nat.le_trans (canon_len_le _ ((canon a).length+1) ?_) (by omega)
  have h1:=bval_lt (canon a) (canon_words a)
  rw [bval_canon] at h1
  rw [Nat.pow_succ]
  have h3:2 ^ N<=4294967296:=Nat.le_trans (Nat.pow_le_pow_right (by decide) hN31) (by decide)
  exact Nat.lt_of_lt_of_le (Nat.mul_lt_mul_of_pos_right h1 (Nat.two_pow_pos N)) (Nat.mul_le_mul_left _ h3)
 have hq1:a * 2 ^ N / (b * 2 ^ N)=a / b:=Nat.mul_div_mul_right _ _ (Nat.two_pow_pos N)
 have hq2:a * 2 ^ N % (b * 2 ^ N)=(a % b) * 2 ^ N:=Nat.mul_mod_mul_right _ _ _
 have hr2:(a % b) * 2 ^ N / 2 ^ N=a % b:=Nat.mul_div_cancel _ (Nat.two_pow_pos N)
 have HLB:=fun w0 (hb:Below w.heap.size w w0)=>bigLeft_own bd cb b N w0 (g.keep hb) (by omega) hb0 hN31
 have HLA:=fun w0 (hb:Below w.heap.size w w0)=>bigLeft_own ad ca a N w0 (h.keep hb) (by omega) (by omega) hN31
 obtain ⟨bb,bo,rfl,hbl,hcb⟩:=g.addr (by omega)
 have hcx:=hcb ((canon b).length - 1) (by omega)
 rw [<-hx] at hcx
 obtain ⟨A,hA⟩:∃ A,A=a * 2 ^ N:=⟨_,rfl⟩
 obtain ⟨B,hB⟩:∃ A,A=b * 2 ^ N:=⟨_,rfl⟩
 rw [<-hA,<-hB] at hinv hq1 hq2
 rw [<-hB] at HLB hd
 rw [<-hA] at HLA hla hle
 unfold OwnPostFl at HLA HLB
 obtain ⟨vs,hvs⟩:∃ v,v=canon B:=⟨_,rfl⟩
 rw [<-hvs] at hd HLB
 rw [hd.lv] at HLB
 obtain ⟨na,hna⟩:∃ n,n=(canon a).length:=⟨_,rfl⟩
 obtain ⟨nv,hnv⟩:∃ n,n=(canon b).length:=⟨_,rfl⟩
 obtain ⟨la,hla2⟩:∃ n,n=(canon A).length:=⟨_,rfl⟩
 rw [<-hna] at HLA hl ⊢
 rw [<-hnv] at HLB hlb h2 hd hinv hle hcx ⊢
 rw [<-hla2] at hinv hla hle HLA
 have HI:=Lib.hid hinv
 have HD:=Lib.hid hd
 have HQ1:=Lib.hid hq1
 have HQ2:=Lib.hid hq2
 have HR2:=Lib.hid hr2
 have HLA2:=Lib.hid hla2
 replace HLA:=Lib.hid HLA
 replace HLB:=Lib.hid HLB
 have hi1:(0:Int)<=(nv:Int) - 1:=by omega
 have hi2:(nv:Int) - 1<(nv:Int):=by omega
 have hi3:((nv:Int) - 1).toNat=nv - 1:=by omega
 have hxx:(x:Int).toNat=x:=Int.toNat_natCast x
 have HXX:=Lib.hid hxx
 have HLZ:=Lib.hid hLZ
 clear h g hb0 hab hinv hd hq1 hq2 hr2 hA hB hcb hx hAB hna hnv hla2 hxx hLZ hvs
 go_enter Tryz.func181,Tryz.ntmps181
 go_wp2_with fail
 refine (Tryz.bits_LeadingZeros32 (x:Int) w (by omega) (by omega)).mono ?_
 rintro e w' ⟨rfl,rfl⟩
 obtain ⟨w,rfl⟩:∃ z:World,z=w':=⟨_,rfl⟩
 rw [HXX.out,HLZ.out]
 clear hi1 hi2 hi3 hcx
 go_wp2_with fail
 refine (HLB.out w (Below.refl _ _)).mono ?_
 rintro e w1 ⟨vo,vc,rfl,hov,hb⟩
 obtain ⟨vd,vc',hve,hvr,hvb⟩:=Gx.Rd.own' (k:=.u32) hov (wf_words HD.out.wv)
 obtain ⟨gv,cv,hve2,hgv1,-,hgv2,-⟩:=Gx.own_cell hov (by omega)
 have hvd:vo=vd/\vc=vc':=by simp only [Value.slice.injEq] at hve;exact ⟨hve.1,hve.2.2⟩
 obtain ⟨rfl,rfl⟩:=hvd
 have hvo:vo=some ⟨gv,0,none⟩:=by simp only [Value.slice.injEq] at hve2;exact hve2.1
 have HVO:=Lib.hid hvo
 have HV1:=Lib.hid hvr
 have B1:=Lib.hid hb
 have HS1:=Lib.hid (show w.heap.size<=w1.heap.size from hb.size)
 clear hov hve hve2 hvb hb hvr hvo HLB
 go_wp2_with fail
 refine (HLA.out w1 B1.out).mono ?_
 rintro e w2 ⟨uo,uc,rfl,hou,hb⟩
 have HV2:=Lib.hid (HV1.out.keep hb)
 have B2:=Lib.hid (B1.out.trans (hb.mono B1.out.size))
 have HS2:=Lib.hid (show w1.heap.size<=w2.heap.size from hb.size)
 clear hb B1 HV1 HLA
 go_wp2_with (first
  | (at_builtin;refine Gx.wpList_push w2 rfl _ _ 169 rfl w1.heap.size 145 (.int .u32 0) 1 4 Tryz.underlying169 Tryz.info_u32 rfl (by decide) _ _ _ [.int .u32 0] _ rfl rfl (by exact hou) rfl rfl ?a2 ?a3 ?a4 ?a5 ?_))
 case a2=>intro u hu;simp at hu;subst hu;rfl
 case a3=>omega
 case a4=>omega
 case a5=>exact HS2.out
 intro v' w3 hown3 hg3 hmv hne3
 have hown4:w3.ownsRow w1.heap.size 145 1 v' (la+1) ((canon A++[0]).map (Value.int .u32)):=by rw [List.map_append];exact hown3
 obtain ⟨gu,capu,rfl,hgu1,hgu2,hgu3,-⟩:=Gx.own_cell hown4 (by omega)
 have hgs:=hou.lt
 have B3:=Lib.hid (B2.out.grown hg3 B2.out.size (fun j e=>Nat.le_trans HS1.out (hgs j e).1))
 have HV3:=Lib.hid (HV2.out.grown hg3 (fun a ha _ e=>by
  rw [HVO.out] at ha
  obtain rfl:=Option.some.inj ha
  have:=(hgs _ e.symm).1
  simp only at this
  omega))
 have HU3:=Lib.hid (own_weaken hown4 HS1.out)
 have HS3:=Lib.hid (show w2.heap.size<=w3.heap.size from hg3.size)
 clear hou hown3 hown4 hg3 hmv hne3 hgs B2 HV2
 obtain ⟨i0,hi,hz0,hz1,hz2⟩:=info_parts Tryz.info_u32
 have HI0:=Lib.hid hi
 have HZ0:=Lib.hid hz0
 have HZ1:=Lib.hid hz1
 clear hi hz0 hz1
 obtain ⟨k,hk⟩:∃ k:Nat,k=la+1 - nv:=⟨_,rfl⟩
 have hk1:k+nv<=la+1:=by omega
 have hk2:la+1<=k+nv:=by omega
 rw [<-hk] at HI
 clear hk
 go_wp2_with (first
  | (at_make;refine wpList_make_full _ rfl _ _ 169 rfl w.heap.size 145 i0 (.int .u32 0) 1 Tryz.underlying169 HI0.out HZ0.out HZ1.out .i64 .i64 _ _ k rfl rfl (by omega) (by omega) (by rw [hz2];omega) (by unfold maxLen;omega) (Nat.le_trans B3.out.size (Nat.le_refl _)) ?_))
 intro w4 hownq hgq
 rw [madeCells_one] at hownq
 obtain ⟨gq,hgqe⟩:∃ gq,gq=w3.heap.size:=⟨_,rfl⟩
 rw [<-hgqe] at hownq hgu3
 have hle4:w3.heap.size<=w4.heap.size:=hgq.size
 have hlm0:LM w.heap.size gu gq (la+1) capu k vo vc vs (canon A++[0]) (List.replicate k 0) w w4 :=
  ⟨HU3.out.kept hgq (.inr (by simp [Value.ownBlock])),hownq,HV3.out.grown hgq (fun a _ _ e=>by cases e),by omega,(fun a ha e=>by rw [HVO.out] at ha;obtain rfl:=Option.some.inj ha;simp only at e;omega),
    (fun a ha e=>by have:=HS2.out;have:=HS3.out;rw [HVO.out] at ha;obtain rfl:=Option.some.inj ha;simp only at e;omega),by omega,by have:=B3.out.size;omega,B3.out.grown hgq B3.out.size (fun j e=>by cases e),Nat.le_refl _⟩
 have HM:=Lib.hid hlm0
 have HGQ:=Lib.hid hgqe
 clear hownq hgq hle4 hlm0 hgqe HU3 HV3 B3 HS1 HS2 HS3 HI0 HZ0 HZ1 hz2
 rw [<-HGQ.out]
 clear HGQ
 obtain ⟨vb,vof,hva,-,hvc⟩:=HM.out.v.addr (by rw [HD.out.lv];omega)
 have t1:=hvc (nv - 1) (by rw [HD.out.lv];omega)
 have t2:=hvc (nv - 2) (by rw [HD.out.lv];omega)
 clear hvc
 obtain ⟨bt1,bt2⟩:=words_getD HD.out.wv (nv - 1)
 obtain ⟨bn1,bn2⟩:=words_getD HD.out.wv (nv - 2)
 obtain ⟨top,htop⟩:∃ t:Nat,(t:Int)=vs.getD (nv - 1) 0:=⟨(vs.getD (nv - 1) 0).toNat,by omega⟩
 obtain ⟨next,hnext⟩:∃ t:Nat,(t:Int)=vs.getD (nv - 2) 0:=⟨(vs.getD (nv - 2) 0).toNat,by omega⟩
 rw [<-htop] at t1 bt2
 rw [<-hnext] at t2 bn2
 have HTOP:=Lib.hid htop
 have HNEXT:=Lib.hid hnext
 have HVA:=Lib.hid hva
 clear htop hnext bt1 bn1
 subst hva
 have j1:(0:Int)<=(nv:Int) - 1:=by omega
 have j2:(nv:Int) - 1<(nv:Int):=by omega
 have j3:((nv:Int) - 1).toNat=nv - 1:=by omega
 have j4:(0:Int)<=(nv:Int) - 2:=by omega
 have j5:(nv:Int) - 2<(nv:Int):=by omega
 have j6:((nv:Int) - 2).toNat=nv - 2:=by omega
 go_wp2_with fail
 go_quiet (fail)
 go_wp2_with fail
 have HM':=Lib.hid (HM.out.drawn nq)
 clear HM t1 t2 j1 j2 j3 j4 j5 j6
 go_loopw [12] (fun jv wr=>∃ (z:Int) (j:Nat) (us qs:List Int),jv=.int .i64 z/\z+1=j/\j<=k/\Hid (LM w.heap.size gu gq (la+1) capu k (some ⟨vb,vof,none⟩) vc vs us qs w wr)/\Hid (LInv A B nv la k us qs j))
  (fun jv _=>(intOf jv+1).toNat)
 case atStart=>exact ⟨_,k,_,_,rfl,by omega,Nat.le_refl _,HM',HI⟩
 case round =>
  clear HM' HI
  obtain ⟨z,j,us,qs,rfl,hzj,hjk,HM,HI⟩:=hrel
  by_cases hj0:j=0
  ·subst hj0
   obtain rfl:z=-1:=by omega
   obtain ⟨e1,e2⟩:=long_end HI.out
   obtain ⟨qd,qc,hqe,hqr,-⟩:=Gx.Rd.own' (k:=.u32) HM.out.q (wf_words HI.out.wq)
   obtain ⟨ud,uc',hue,hur,-⟩:=Gx.Rd.own' (k:=.u32) HM.out.u (wf_words HI.out.wu)
   rw [hqe,hue]
   have HQ:=Lib.hid hqr
   have HU:=Lib.hid hur
   have E1:=Lib.hid (e1.trans HQ1.out)
   have E2:=Lib.hid (e2.trans HQ2.out)
   have HBEL:=Lib.hid HM.out.bel
   have L1:Hid (qs.length<=1048576):=by show _<=_;rw [HI.out.lq];omega
   have L2:Hid (us.length<=1048576):=by show _<=_;rw [HI.out.lu];omega
   clear e1 e2 hqr hur hqe hue HM HI
   go_wp2_with fail
   refine (trimmed_any qd qc qs _ HQ.out (by have:=L1.out;omega)).mono ?_
   rintro e w' ⟨rfl,rfl⟩
   rw [E1.out]
   go_wp2_with fail
   refine (trimmed_any ud uc' us _ HU.out (by have:=L2.out;omega)).mono ?_
   rintro e w' ⟨rfl,rfl⟩
   go_wp2_with fail
   refine (bigRight_any ud uc' (canon (bval us)) N wr HU.out.trim (by have:=L2.out;have:=canon_len_le (bval us) us.length (bval_lt us (words_of_rd HU.out));omega) hN31).mono ?_
   rintro e w6 ⟨ro,rc,rfl,hr,hb⟩
   have e3:bval (canon (bval us)) / 2 ^ N=a % b:=by rw [bval_canon,E2.out,HR2.out]
   rw [e3] at hr ⊢
   have hq:=HQ.out.trim
   rw [E1.out] at hq
   have HR:=Lib.hid hr
   have HQ':=Lib.hid (hq.keep hb)
   have HB':=Lib.hid (HBEL.out.trans (hb.mono HBEL.out.size))
   clear hr hb hq e3
   go_wp2
   go_ret2
   exact ⟨_,_,_,_,rfl,HQ'.out,HR.out,HB'.out⟩
  ·obtain ⟨i,rfl⟩:∃ i:Nat,z=i:=⟨(j - 1:Nat),by omega⟩
   obtain rfl:j=i+1:=by omega
   have hlu:=HI.out.lu
   have hjn:i+nv<=la:=by omega
   have HG:=Lib.hid (round_guess HD.out HI.out hjn)
   have c1:=HM.out.cellU hlu (i+nv) (by omega)
   have c2:=HM.out.cellU hlu (i+nv - 1) (by omega)
   have c3:=HM.out.cellU hlu (i+nv - 2) (by omega)
   have w1:=words_getD HI.out.wu (i+nv)
   have w2:=words_getD HI.out.wu (i+nv - 1)
   have w3:=words_getD HI.out.wu (i+nv - 2)
   obtain ⟨uT,huT⟩:∃ t:Nat,(t:Int)=us.getD (i+nv) 0:=⟨(us.getD (i+nv) 0).toNat,by omega⟩
   obtain ⟨u1,hu1⟩:∃ t:Nat,(t:Int)=us.getD (i+nv - 1) 0:=⟨(us.getD (i+nv - 1) 0).toNat,by omega⟩
   obtain ⟨u2,hu2⟩:∃ t:Nat,(t:Int)=us.getD (i+nv - 2) 0:=⟨(us.getD (i+nv - 2) 0).toNat,by omega⟩
   rw [<-huT] at c1 w1 HG
   rw [<-hu1] at c2 w2 HG
   rw [<-hu2] at c3 w3 HG
   rw [<-HTOP.out,<-HNEXT.out] at HG
   simp only [Int.toNat_natCast] at HG
   have wT:=w1.2
   have w1':=w2.2
   have w2':=w3.2
   have HU2:=Lib.hid hu2
   clear w1 w2 w3 huT hu1 hu2 hlu hzj hj0
   obtain ⟨W,hW⟩:∃ W,W=win us i (nv+1):=⟨_,rfl⟩
   rw [<-hW] at HG
   have HWE:=Lib.hid hW
   clear hW
   obtain ⟨two,htwo⟩:∃ t,t=uT * 4294967296+u1:=⟨_,rfl⟩
   have hor:=or_word uT u1 (by omega) wT (by omega) w1'
   have htwi:(uT:Int) * 4294967296+(u1:Int)=(two:Int):=by omega
   rw [htwi] at hor
   rw [<-htwo] at HG
   have htw2:two<=18446744073709551615:=by omega
   clear htwo htwi
   have a1:IntKind.i64.wrap ((i:Int)+(nv:Int))=(i:Int)+(nv:Int):=IntWalk.i64_in _ (by omega)
   have a2:IntKind.i64.wrap ((i:Int)+(nv:Int) - 1)=(i:Int)+(nv:Int) - 1:=IntWalk.i64_in _ (by omega)
   have a3:((i:Int)+(nv:Int)).toNat=i+nv:=by omega
   have a4:((i:Int)+(nv:Int) - 1).toNat=i+nv - 1:=by omega
   have a5:(0:Int)<=(i:Int)+(nv:Int):=by omega
   have a6:(0:Int)<=(i:Int)+(nv:Int) - 1:=by omega
   have a7:(i:Int)+(nv:Int)<(la:Int)+1:=by omega
   have a8:(i:Int)+(nv:Int) - 1<(la:Int)+1:=by omega
   go_upto_region 10 with (go_quiet (fail))
   have HM0:=Lib.hid (HM.out.drawn nq)
   obtain ⟨wy,hwy⟩:∃ wy,wy=wr.drewN nq:=⟨_,rfl⟩
   rw [<-hwy] at HM0 ⊢
   clear a1 a2 a3 a4 a5 a6 a7 a8 hor c1 c2 c3 hwy HM
   obtain ⟨G0,hG0⟩:∃ t,t=two / top:=⟨_,rfl⟩
   obtain ⟨R0,hR0⟩:∃ t,t=two % top:=⟨_,rfl⟩
   have ht1:=HG.out.t1
   have hGR:G0 * top+R0=two:=by rw [hG0,hR0,Nat.mul_comm];exact Nat.div_add_mod two top
   have hG1:W / B<=G0:=by rw [hG0];exact HG.out.first
   have hR1:R0<top:=by rw [hR0];exact Nat.mod_lt _ (by omega)
   have hG2:=HG.out.gmax hGR
   have d1:(two:Int).tdiv (top:Int)=(G0:Int):=by rw [Int.tdiv_eq_ediv_of_nonneg (by omega),hG0,Int.natCast_ediv]
   have d2:(two:Int).tmod (top:Int)=(R0:Int):=by rw [Int.tmod_eq_emod_of_nonneg (by omega),hR0,Int.natCast_emod]
   have d3:IntKind.u64.wrap (G0:Int)=(G0:Int):=by rw [IntKind.wrap_u64];omega
   have d4:((top:Int) != 0)=true:=by simp;omega
   have d5:((top:Int)==0)=false:=by simp;omega
   have HGR:=Lib.hid hGR
   have HG1:=Lib.hid hG1
   clear hG0 hR0 hGR hG1
   go_quiet (fail)
   have HM1:=Lib.hid (HM0.out.drawn nq)
   obtain ⟨wz,hwz⟩:∃ wz,wz=wy.drewN nq:=⟨_,rfl⟩
   rw [<-hwz] at HM1 ⊢
   have c3:=HM1.out.cellU HI.out.lu (i+nv - 2) (by omega)
   rw [<-HU2.out] at c3
   clear d1 d2 d3 d4 d5 HM0 hwz
   go_upto_block 2 with fail
   go_cut [14] (fun g wx=>∃ G:Nat,g=.int .u64 G/\G<4294967296/\Hid (W / B<=G/\G<=W / B+1)/\wx=wz)
   case first =>
    have b1:((i:Int)+(nv:Int) - 2).toNat=i+nv - 2:=by omega
    have b2:(0:Int)<=(i:Int)+(nv:Int) - 2:=by omega
    have b3:(i:Int)+(nv:Int) - 2<(la:Int)+1:=by omega
    go_wp2_with fail
    go_loop [14,15] (fun g r=>∃ G R:Nat,g=.int .u64 G/\r=.int .u64 R/\G<=4294967298/\R<4294967296/\Hid (G * top+R=two)/\Hid (W / B<=G)) (fun g _=>(intOf g).toNat)
    case atStart=>exact ⟨G0,R0,rfl,rfl,hG2,by omega,HGR,HG1⟩
    case round =>
     obtain ⟨G,R,rfl,rfl,hG,hR,hGR,hGW⟩:=hrel
     have hor:=or_word R u2 (by omega) (by omega) (by omega) w2'
     obtain ⟨y,hy⟩:∃ y:Nat,y=R * 4294967296+u2:=⟨_,rfl⟩
     have hyi:(R:Int) * 4294967296+(u2:Int)=(y:Int):=by omega
     rw [hyi] at hor
     obtain ⟨z,hz⟩:∃ z:Nat,z=G * next:=⟨_,rfl⟩
     have hmul:(G:Int) * (next:Int)=(z:Int):=by rw [hz,Int.natCast_mul]
     by_cases hex:G<4294967296/\z<=y
     ·obtain ⟨hx1,hx2⟩:=hex
      have hzb:z<=18446744065119617025:=by
       have:=Nat.mul_le_mul (show G<=4294967295 by omega) (show next<=4294967295 by omega)
       omega
      have hmost:=HG.out.most hGR.out hx1 (by rw [<-hz,<-hy];exact hx2)
      have HMOST:=Lib.hid hmost
      have e1:(G:Int) / 4294967296=0:=by omega
      have e2:decide ((y:Int)<(z:Int))=false:=decide_eq_false (by omega)
      have e3:decide (y<z)=false:=decide_eq_false (by omega)
      clear hy hz hyi hmost
      go_wp2_with fail
      go_meet
      exact ⟨G,rfl,hx1,⟨hGW.out,HMOST.out⟩,rfl⟩
     ·have hcond:4294967296<=G\/R * 4294967296+u2<G * next:=by rw [<-hy,<-hz];omega
      have hless:=HG.out.less hGR.out hcond
      have hG1:1<=G:=Nat.lt_of_le_of_lt (Nat.zero_le _) hless
      have hGR2:(G - 1) * top+(R+top)=two:=by
       have:=hGR.out
       obtain ⟨q,rfl⟩:∃ q,G=q+1:=⟨G - 1,by omega⟩
       rw [Nat.add_mul,Nat.one_mul] at this
       rw [Nat.add_sub_cancel];omega
      have HGR2:=Lib.hid hGR2
      have HW2:=Lib.hid (show W / B<=G - 1 from Nat.le_sub_one_of_lt hless)
      have hcz:(4294967296<=G/\decide ((0:Int)<(G:Int) / 4294967296)=true)\/((G:Int) / 4294967296=0/\decide ((y:Int)<(z:Int))=true/\decide (y<z)=true/\z<=18446744065119617025):=by
       by_cases h:4294967296<=G
       ·exact .inl ⟨h,decide_eq_true (by omega)⟩
       ·refine .inr ⟨by omega,decide_eq_true (by omega),decide_eq_true (by omega),?_⟩
        have:=Nat.mul_le_mul (show G<=4294967295 by omega) (show next<=4294967295 by omega)
        omega
      clear hy hz hyi hcond hless hGR2 hex hGR hGW
      have hR2:R+top<=8589934592:=by omega
      by_cases hbr:4294967296<=R+top
      ·have hm2:=HG.out.most2 HGR2.out hbr
       have hsm:=HG.out.small HGR2.out hbr
       have HM2:=Lib.hid hm2
       have HSM:=Lib.hid hsm
       have f1:decide ((0:Int)<((R:Int)+(top:Int)) / 4294967296)=true:=decide_eq_true (by omega)
       clear hm2 hsm hbr
       rcases hcz with ⟨h1,e1⟩|⟨e1,e2,e3,e4⟩
       all_goals
        go_wp2_with fail
        go_meet
        exact ⟨G - 1,by congr 1;omega,HSM.out,⟨HW2.out,HM2.out⟩,rfl⟩
      ·have f1:decide ((0:Int)<((R:Int)+(top:Int)) / 4294967296)=false:=decide_eq_false (by omega)
       have hbr':R+top<4294967296:=by omega
       clear hbr
       rcases hcz with ⟨h1,e1⟩|⟨e1,e2,e3,e4⟩
       all_goals
        go_wp2_with fail
        go_round
        case rel=>exact ⟨G - 1,R+top,by congr 1;omega,by congr 1,by omega,hbr',HGR2,HW2⟩
        case measure=>simp [intOf];omega
   case rest =>
    obtain ⟨G,rfl,hG,hGW,rfl⟩:=hcut
    have b1:((i:Int)+(nv:Int)+1).toNat=i+nv+1:=by omega
    have b2:(0:Int)<=(i:Int)+(nv:Int)+1:=by omega
    have b3:(i:Int)+(nv:Int)+1<=(capu:Int):=by omega
    have hne:∀ a,(some ⟨vb,vof,none⟩:Option Addr)=some a->0<vs.length->some a.block≠some gu:=fun a ha _ e=>HM1.out.nu a ha (Option.some.inj e)
    have hBp:=HG.out.bpos
    have TX:=fun (cw:Nat)=>takes_any w.heap.size gu (la+1) capu cw us vs G i (some ⟨vb,vof,none⟩) vc wc HM1.out.u HI.out.wu HM1.out.v hne hG (by rw [HD.out.lv];omega) (by omega)
    rw [HD.out.lv] at TX
    replace TX:=Lib.hid TX
    have HNE:=Lib.hid hne
    have HBP:=Lib.hid hBp
    have hsl:i+nv+1 - i=nv+1:=by omega
    have HSL:=Lib.hid hsl
    have hG':(G:Int)<=4294967295:=by omega
    clear c3 hne hBp hsl
    go_wp2_with fail
    rw [HSL.out]
    refine (TX.out _).mono ?_
    rintro e w6 ⟨out,c,hc1,rfl,hown,how,hso,hwin,hgr⟩
    rw [HD.out.val,<-HWE.out] at hwin
    have HM2:=Lib.hid (HM1.out.setU hown hgr)
    have HOW:=Lib.hid how
    have HSO:=Lib.hid hso
    clear hown how hso hgr TX HM1 b1 b2 b3
    by_cases hcz:c=0
    ·subst hcz
     have hw1:win out i (nv+1)+G * B=win us i (nv+1):=by rw [<-HWE.out];rw [Nat.mul_zero,Nat.add_zero] at hwin;exact hwin
     have hlt:=quot_ok HBP.out hw1 (by rw [<-HWE.out];exact hGW.out.1)
     have HI2:=Lib.hid (round_done HD.out HI.out hjn (by omega) HSO.out HOW.out hw1 hlt hG)
     have HM3:=Lib.hid (HM2.out.setQ i (G:Int))
     have hlq:=HI.out.lq
     have hcq:∃ y,w6.cell? ⟨gq,i,none⟩=some (.int .u32 y):=by
      rw [HM2.out.q.cellAt i (by omega)]
      exact ⟨qs[i],by simp [List.getElem?_eq_getElem (show i<qs.length by omega)]⟩
     obtain ⟨y0,hcq⟩:=hcq
     have hfq:w6.frozen? ⟨gq,i,none⟩=false:=HM2.out.q.frozenAt i
     clear hw1 hlt hwin HI HM2 hlq HOW HSO hGW
     go_wp2
     go_roundw
     case rel=>first|exact ⟨_,i,_,_,rfl,by omega,by omega,HM3,HI2⟩|((repeat apply Exists.intro);exact ⟨⟨_,i,_,_,rfl,by omega,by omega,HM3,HI2⟩,rfl⟩)
     case measure=>simp [intOf]
    ·obtain rfl:c=1:=by omega
     have GX:=fun (cw:Nat)=>gives_any w.heap.size gu (la+1) capu cw out vs i (some ⟨vb,vof,none⟩) vc w6 HM2.out.u HOW.out HM2.out.v HNE.out (by rw [HD.out.lv];omega) (by omega)
     rw [HD.out.lv] at GX
     replace GX:=Lib.hid GX
     have HWIN:=Lib.hid hwin
     have b1:((i:Int)+(nv:Int)+1).toNat=i+nv+1:=by omega
     have b2:(0:Int)<=(i:Int)+(nv:Int)+1:=by omega
     have b3:(i:Int)+(nv:Int)+1<=(capu:Int):=by omega
     have hG1:1<=G:=by
      rcases Nat.eq_zero_or_pos G with h|h
      ·exfalso
       subst h
       have h1:=win_lt out HOW.out i (nv+1) (by have:=HSO.out.len;have:=HI.out.lu;omega)
       simp at hwin
       omega
      ·exact h
     clear hwin hcz
     go_wp2_with fail
     rw [HSL.out]
     refine (GX.out _).mono ?_
     rintro e w7 ⟨out2,c2,hc2,rfl,hown,how,hso,hwin2,hgr⟩
     rw [HD.out.val] at hwin2
     have HM3:=HM2.out.setU hown hgr
     have hl1:=HSO.out.len
     have hl2:=hso.len
     have hl3:=HI.out.lu
     obtain ⟨q1,q2,q3⟩:=quot_back HBP.out (win_lt out HOW.out i (nv+1) (by omega)) (win_lt out2 how i (nv+1) (by omega)) (by rw [HWIN.out,Nat.mul_one]) hwin2 hc2 hGW.out.2
     rw [HWE.out] at q2
     have HI2:=Lib.hid (round_done HD.out HI.out hjn (by omega) (HSO.out.trans hso) how q2 q3 (by omega:G - 1<4294967296))
     have HM4:=Lib.hid (HM3.setQ i ((G - 1:Nat):Int))
     have hlq:=HI.out.lq
     have hcq:∃ y,w7.cell? ⟨gq,i,none⟩=some (.int .u32 y):=by
      rw [HM3.q.cellAt i (by omega)]
      exact ⟨qs[i],by simp [List.getElem?_eq_getElem (show i<qs.length by omega)]⟩
     obtain ⟨y0,hcq⟩:=hcq
     have hfq:w7.frozen? ⟨gq,i,none⟩=false:=HM3.q.frozenAt i
     have hGi:((G - 1:Nat):Int)=(G:Int) - 1:=by omega
     rw [hGi] at HM4 HI2
     clear hwin2 hown how hso hgr hl1 hl2 hl3 q1 q2 q3 HI HM2 HM3 hlq HOW HSO hGW hGi HWIN GX b1 b2 b3
     go_wp2
     go_roundw
     case rel=>first|exact ⟨_,i,_,_,rfl,by omega,by omega,HM4,HI2⟩|((repeat apply Exists.intro);exact ⟨⟨_,i,_,_,rfl,by omega,by omega,HM4,HI2⟩,rfl⟩)
     case measure=>simp [intOf]
end Go.Proofs.YtldhmfkojaekfaaGreatDoor
namespace Go.Proofs.YtldhmfkojaekfaaGreatDoor
open Go.RowKit Gx
set_option maxRecDepth 100000
def DivModPost (q r:Nat) (w:World) (e:Ending) (w':World):Prop :=
 ∃ qo qc ro rc,e=.returned (.tuple #[.slice qo (canon q).length qc,.slice ro (canon r).length rc,.int .i64 0])/\Rd .u32 w' qo qc (canon q)/\Rd .u32 w' ro rc (canon r)/\Below w.heap.size w w'
theorem kcn {k c:Nat} (h:k≠c):(k==c)=false/\((k:Int)==(c:Int))=false/\decide ((k:Int)=(c:Int))=false:=⟨by simpa using h,by simp;omega,decide_eq_false (by omega)⟩
variable (ad bd:Option Addr) (ca cb:Nat) (xs ys:List Int) (w:World)
set_option maxHeartbeats 1000000 in
theorem divMod_less (h:Rd .u32 w ad ca xs) (g:Rd .u32 w bd cb ys) (hl:xs.length<=1000000) (hl2:ys.length<=1000000) (hlt:bval xs<bval ys) :
 Calls Tryz.prog 162 #[.slice ad xs.length ca,.slice bd ys.length cb] w (DivModPost (bval xs / bval ys) (bval xs % bval ys) w):=by
 have H:=Lib.hid (trimmed_any bd cb ys w g (by omega))
 have hcl:=canon_len_le (bval ys) ys.length (bval_lt ys (words_of_rd g))
 have hc:=bigCmp_any ad bd ca cb xs (canon (bval ys)) w h g.trim (by omega) (by omega)
 rw [bval_canon] at hc
 unfold CmpPostFl at hc
 rw [cmp_lt hlt] at hc
 have HC:=Lib.hid hc
 have HT:=Lib.hid (fun w0 (hb:Below w.heap.size w w0)=>bigTrim_any ad ca xs w0 (h.keep hb) (by omega))
 have hq:bval xs / bval ys=0:=Nat.div_eq_of_lt hlt
 have hr:bval xs % bval ys=bval xs:=Nat.mod_eq_of_lt hlt
 rw [hq,hr]
 have hne:(canon (bval ys)).length≠0:=by
  intro e
  have:=canon_pos (bval ys) (by omega)
  rw [this] at e
  simp at e
 obtain ⟨n,hn⟩:∃ n,n=(canon (bval ys)).length:=⟨_,rfl⟩
 rw [<-hn] at hne HC
 have HN:=Lib.hid hn
 obtain ⟨n1,n2,n3⟩:=kcn hne
 clear h g hcl hc hq hr hlt hn hne
 go_enter Tryz.func162,Tryz.ntmps162
 go_wp2_with fail
 refine H.out.mono ?_
 rintro e w' ⟨rfl,rfl⟩
 rw [<-HN.out]
 go_wp2_with fail
 refine HC.out.mono ?_
 rintro e w1 ⟨rfl,hb⟩
 have B1:=Lib.hid hb
 clear hb
 go_wp2_with fail
 refine (HT.out w1 B1.out).mono ?_
 rintro e w2 ⟨ro,rc,rfl,hr,hb⟩
 have HR:=Lib.hid hr
 have B2:=Lib.hid (B1.out.trans (hb.mono B1.out.size))
 clear hb hr
 go_wp2
 go_ret3
 exact ⟨none,0,ro,rc,rfl,Gx.Rd.nil _ _ _ _ (by omega) (fun _=>rfl),HR.out,B2.out⟩
set_option maxHeartbeats 1000000 in
theorem divMod_word (h:Rd .u32 w ad ca xs) (g:Rd .u32 w bd cb ys) (hl:xs.length<=1000000) (hl2:ys.length<=1000000) (hle:bval ys<=bval xs) (h1:(canon (bval ys)).length=1) :
 Calls Tryz.prog 162 #[.slice ad xs.length ca,.slice bd ys.length cb] w (DivModPost (bval xs / bval ys) (bval xs % bval ys) w):=by
 have H:=Lib.hid (trimmed_any bd cb ys w g (by omega))
 have hc:=bigCmp_any ad bd ca cb xs (canon (bval ys)) w h g.trim (by omega) (by omega)
 rw [bval_canon,h1] at hc
 have hcp:0<=cmpOf (bval xs) (bval ys):=by unfold cmpOf;rw [if_neg (by omega)];split<;>omega
 unfold CmpPostFl at hc
 generalize cmpOf (bval xs) (bval ys)=c at *
 have HC:=Lib.hid hc
 obtain ⟨y,hy⟩:∃ y,canon (bval ys)=[y]:=List.length_eq_one_iff.1 h1
 have hyv:bval ys=y.toNat:=by
  have:=bval_canon (bval ys)
  rw [hy] at this
  simp [bval] at this
  exact this.symm
 have hyw:=canon_words (bval ys) y (by rw [hy];simp)
 have hy0:y≠0:=by
  rintro rfl
  have h2:bval ys=0:=by rw [hyv];rfl
  rw [h2] at h1
  simp [canon_zero] at h1
 have HB:=Lib.hid (fun w0 (hb:Below w.heap.size w w0)=>byWord_any ad ca xs y w0 (h.keep hb) (by omega) (by omega) (by omega))
 have HG:=fun w0 (hb:Below w.heap.size w w0)=>g.trim.keep hb
 rw [hy] at HG
 replace HG:=Lib.hid HG
 rw [<-hyv] at HB
 have hrlt:bval xs % bval ys<4294967296:=Nat.lt_of_lt_of_le (Nat.mod_lt _ (by omega)) (by omega)
 obtain ⟨Q,hQ⟩:∃ q,q=bval xs / bval ys:=⟨_,rfl⟩
 obtain ⟨R,hR⟩:∃ q,q=bval xs % bval ys:=⟨_,rfl⟩
 unfold ByWordPost at HB
 rw [<-hQ,<-hR] at HB ⊢
 rw [<-hR] at hrlt
 have H1:=Lib.hid h1
 clear h g hc hle hy hyv hyw hy0 hQ hR h1
 go_enter Tryz.func162,Tryz.ntmps162
 go_wp2_with fail
 refine H.out.mono ?_
 rintro e w' ⟨rfl,rfl⟩
 rw [H1.out]
 go_wp2_with fail
 refine HC.out.mono ?_
 rintro e w1 ⟨rfl,hb⟩
 have B1:=Lib.hid hb
 obtain ⟨b1,o1,rfl,-,hcy⟩:=(HG.out w1 hb).addr (by simp)
 have c1:=hcy 0 (by simp)
 simp only [Nat.add_zero,List.getD_cons_zero] at c1
 clear hb hcy
 go_wp2_with fail
 refine (HB.out w1 B1.out).mono ?_
 rintro e w2 ⟨qo,qc,rfl,hq,hb,-⟩
 have HQ:=Lib.hid hq
 have B2:=Lib.hid (B1.out.trans (hb.mono B1.out.size))
 clear hb hq c1
 have hrow:(w2.alloc (.cells #[.int .u32 (R:Int)] 145)).heap[w2.heap.size]?=some (.cells #[.int .u32 (R:Int)] 145 (0,0)):=heap_alloc_new w2 _
 have hrd:Rd .u32 (w2.alloc (.cells #[.int .u32 (R:Int)] 145)) (some ⟨w2.heap.size,0,none⟩) 1 [(R:Int)]:=by
  refine ⟨by simp,by decide,fun x hx=>?_,(fun h=>by cases h),fun a ha _=>?_⟩
  ·simp at hx;subst hx
   simp [Lit.wf,IntKind.min,IntKind.max,IntKind.signed,IntKind.bits];omega
  ·obtain rfl:=Option.some.inj ha
   refine ⟨rfl,by simp,fun j hj=>?_⟩
   obtain rfl:j=0:=by simp at hj;omega
   exact World.cell?_alloc_mark w2 _ _ (0,0) 0
 have HRD:=Lib.hid hrd
 have HQ3:=Lib.hid (HQ.out.keep ((Below.refl w2.heap.size w2).alloc (Nat.le_refl _) (.cells #[.int .u32 (R:Int)] 145)))
 have B3:=Lib.hid (B2.out.alloc B2.out.size (.cells #[.int .u32 (R:Int)] 145))
 have hbv:bval [(R:Int)]=R:=by simp [bval]
 have HBV:=Lib.hid hbv
 clear hrow hrd hbv HQ B2
 go_wp2_with fail
 refine (trimmed_any _ 1 [(R:Int)] _ HRD.out (by simp)).mono ?_
 rintro e w' ⟨rfl,rfl⟩
 have hr:=HRD.out.trim
 rw [HBV.out] at hr
 have HR:=Lib.hid hr
 clear hr
 rw [HBV.out]
 go_wp2
 go_ret3
 exact ⟨_,_,_,_,rfl,HQ3.out,HR.out,B3.out⟩
set_option maxHeartbeats 1000000 in
theorem divMod_long (h:Rd .u32 w ad ca xs) (g:Rd .u32 w bd cb ys) (hl:xs.length<=1000000) (hl2:ys.length<=1000000) (hle:bval ys<=bval xs) (h1:2<=(canon (bval ys)).length) :
 Calls Tryz.prog 162 #[.slice ad xs.length ca,.slice bd ys.length cb] w (DivModPost (bval xs / bval ys) (bval xs % bval ys) w):=by
 have H:=Lib.hid (trimmed_any bd cb ys w g (by omega))
 have hcl:=canon_len_le (bval ys) ys.length (bval_lt ys (words_of_rd g))
 have hcx:=canon_len_le (bval xs) xs.length (bval_lt xs (words_of_rd h))
 have hc:=bigCmp_any ad bd ca cb xs (canon (bval ys)) w h g.trim (by omega) (by omega)
 rw [bval_canon] at hc
 have hcp:0<=cmpOf (bval xs) (bval ys):=by unfold cmpOf;rw [if_neg (by omega)];split<;>omega
 unfold CmpPostFl at hc
 generalize cmpOf (bval xs) (bval ys)=c at *
 have HC:=Lib.hid hc
 have HT:=Lib.hid (fun w0 (hb:Below w.heap.size w w0)=>trimmed_any ad ca xs w0 (h.keep hb) (by omega))
 have HL:=Lib.hid (fun w0 (hb:Below w.heap.size w w0)=>long_any ad bd ca cb (bval xs) (bval ys) w0 (h.trim.keep hb) (g.trim.keep hb) (by omega) h1 hle)
 obtain ⟨n,hn⟩:∃ n,n=(canon (bval ys)).length:=⟨_,rfl⟩
 obtain ⟨m,hm⟩:∃ n,n=(canon (bval xs)).length:=⟨_,rfl⟩
 rw [<-hn] at HC h1 HL
 rw [<-hm] at HL
 have HN:=Lib.hid hn
 have HM:=Lib.hid hm
 obtain ⟨n1,n2,n3⟩:=kcn (show n≠0 by omega)
 obtain ⟨m1,m2,m3⟩:=kcn (show n≠1 by omega)
 obtain ⟨Q,hQ⟩:∃ q,q=bval xs / bval ys:=⟨_,rfl⟩
 obtain ⟨R,hR⟩:∃ q,q=bval xs % bval ys:=⟨_,rfl⟩
 rw [<-hQ,<-hR] at HL ⊢
 unfold LongPost at HL
 clear h g hcl hcx hc hle hn hm hQ hR
 go_enter Tryz.func162,Tryz.ntmps162
 go_wp2_with fail
 refine H.out.mono ?_
 rintro e w' ⟨rfl,rfl⟩
 rw [<-HN.out]
 go_wp2_with fail
 refine HC.out.mono ?_
 rintro e w1 ⟨rfl,hb⟩
 have B1:=Lib.hid hb
 clear hb
 go_wp2_with fail
 refine (HT.out w1 B1.out).mono ?_
 rintro e w' ⟨rfl,rfl⟩
 rw [<-HM.out]
 go_wp2_with fail
 refine (HL.out w1 B1.out).mono ?_
 rintro e w2 ⟨qo,qc,ro,rc,rfl,hq,hr,hb⟩
 have HQ:=Lib.hid hq
 have HR:=Lib.hid hr
 have B2:=Lib.hid (B1.out.trans (hb.mono B1.out.size))
 clear hb hq hr
 go_wp2
 go_ret3
 exact ⟨_,_,_,_,rfl,HQ.out,HR.out,B2.out⟩
theorem divMod_any (h:Rd .u32 w ad ca xs) (g:Rd .u32 w bd cb ys) (hl:xs.length<=1000000) (hl2:ys.length<=1000000) (h0:bval ys≠0) :
 Calls Tryz.prog 162 #[.slice ad xs.length ca,.slice bd ys.length cb] w (DivModPost (bval xs / bval ys) (bval xs % bval ys) w):=by
 rcases Nat.lt_or_ge (bval xs) (bval ys) with h1|h1
 ·exact divMod_less ad bd ca cb xs ys w h g hl hl2 h1
 ·have h2:0<(canon (bval ys)).length:=by rw [canon_pos _ h0];simp
  by_cases h3:(canon (bval ys)).length=1
  ·exact divMod_word ad bd ca cb xs ys w h g hl hl2 h1 h3
  ·exact divMod_long ad bd ca cb xs ys w h g hl hl2 h1 (by omega)
end Go.Proofs.YtldhmfkojaekfaaGreatDoor
namespace Go.Proofs.YtldhmfkojaekfaaGreatDoor
open Go.RowKit Gx
set_option maxRecDepth 100000
def SubPost (n:Nat) (w:World) (e:Ending) (w':World):Prop :=
 ∃ ad cap,e=.returned (.tuple #[.slice ad (canon n).length cap,.int .i64 0])/\Rd .u32 w' ad cap (canon n)/\Below w.heap.size w w'
def TextPost (l:List UInt8) (w:World) (e:Ending) (w':World):Prop:=e=.returned (.string ⟨l.toArray⟩)/\Below w.heap.size w w'
set_option maxHeartbeats 400000 in
theorem bigText_nil (ad:Option Addr) (cap:Nat) (w:World) (h:Rd .u32 w ad cap []) :
 Calls Tryz.prog 166 #[.slice ad 0 cap] w (TextPost [48] w):=by
 have H:=Lib.hid (trimmed_any ad cap [] w h (by simp))
 clear h
 go_enter Tryz.func166,Tryz.ntmps166
 go_wp2_with fail
 refine H.out.mono ?_
 rintro e w2 ⟨rfl,rfl⟩
 have hz:(canon (bval [])).length=0:=rfl
 rw [hz]
 clear hz
 go_wp2
 go_ret
 exact ⟨rfl,Below.refl _ _⟩
def TruePostFl (w:World) (e:Ending) (w':World):Prop:=e=.returned (.bool true)/\Below w.heap.size w w'
set_option maxRecDepth 100000
def Fits (n k:Nat):Prop:=n<4294967296 ^ k
theorem Fits.len {n k:Nat} (h:Fits n k):(canon n).length<=k:=canon_len_le n k h
theorem Fits.add {n m k:Nat} (h:Fits n k) (g:Fits m k):Fits (n+m) (k+1):=by
 unfold Fits at *
 rw [Nat.pow_succ];omega
theorem Fits.mono {n k l:Nat} (h:Fits n k) (hl:k<=l):Fits n l:=Nat.lt_of_lt_of_le h (Nat.pow_le_pow_right (by decide) hl)
theorem Fits.mul {n m k l:Nat} (h:Fits n k) (g:Fits m l):Fits (n * m) (k+l):=by
 unfold Fits at *
 rw [Nat.pow_add]
 exact Nat.mul_lt_mul'' h g
theorem Fits.sub {n m k:Nat} (h:Fits n k):Fits (n - m) k:=Nat.lt_of_le_of_lt (Nat.sub_le _ _) h
theorem Fits.words {l:List Int} (h:Words l):Fits (bval l) l.length:=bval_lt l h
section
variable (ad bd:Option Addr) (ca cb:Nat) (xs ys:List Int) (w:World)
theorem add_two (N M:Nat) (h:Rd .u32 w ad ca xs) (g:Rd .u32 w bd cb ys) (hx:bval xs=N) (hy:bval ys=M) (lx:xs.length<=1048576) (ly:ys.length<=1048576) :
 Calls Tryz.prog 163 #[.slice ad xs.length ca,.slice bd ys.length cb] w (WordsPost (N+M) w):=by
 subst hx;subst hy;exact bigAdd_any ad bd ca cb xs ys w h g (by omega) (by omega)
theorem mul_two (N M:Nat) (h:Rd .u32 w ad ca xs) (g:Rd .u32 w bd cb ys) (hx:bval xs=N) (hy:bval ys=M) (lx:xs.length<=1048576) (ly:ys.length<=1048576) :
 Calls Tryz.prog 161 #[.slice ad xs.length ca,.slice bd ys.length cb] w (WordsPost (N * M) w):=by
 subst hx;subst hy;exact bigMul_any ad bd ca cb xs ys w h g lx ly
theorem trim_one (N:Nat) (h:Rd .u32 w ad ca xs) (hx:bval xs=N) (lx:xs.length<=1048576) :
 Calls Tryz.prog 149 #[.slice ad xs.length ca] w (WordsPost N w):=by
 subst hx;exact bigTrim_any ad ca xs w h (by omega)
end
end Go.Proofs.YtldhmfkojaekfaaGreatDoor
namespace Go.Proofs.YtldhmfkojaekfaaGreatDoor
open Go.RowKit Gx
set_option maxRecDepth 100000
theorem pow_fits (b e:Nat) (hb:b<4294967296):Fits (b ^ e) (e+1):=by
 unfold Fits
 have h1:b ^ e<=4294967296 ^ e:=Nat.pow_le_pow_left (Nat.le_of_lt hb) e
 have h2:4294967296 ^ e<4294967296 ^ (e+1):=Nat.pow_lt_pow_right (by decide) (by omega)
 omega
theorem bval_one (b:Nat):bval [(b:Int)]=b:=by simp [bval]
theorem words_one (b:Nat) (hb:b<4294967296):Words [(b:Int)]:=by
 intro x hx;simp at hx;omega
theorem pow_odd (b N i:Nat) (h:N / 2 ^ i % 2=1):b ^ (N % 2 ^ i) * b ^ 2 ^ i=b ^ (N % 2 ^ (i+1)):=by
 rw [Nat.mod_pow_succ,h,Nat.mul_one,Nat.pow_add]
theorem pow_even (b N i:Nat) (h:N / 2 ^ i % 2=0):b ^ (N % 2 ^ i)=b ^ (N % 2 ^ (i+1)):=by
 rw [Nat.mod_pow_succ,h,Nat.mul_zero,Nat.add_zero]
theorem pow_sq (b i:Nat):b ^ 2 ^ i * b ^ 2 ^ i=b ^ 2 ^ (i+1):=by
 rw [<-Nat.pow_add,Nat.pow_succ,Nat.mul_two]
theorem pow_half (N i:Nat):N / 2 ^ i / 2=N / 2 ^ (i+1):=by
 rw [Nat.div_div_eq_div_mul,Nat.pow_succ]
theorem rd_alloc_one (w:World) (e:TypeId) (b:Nat) (hb:b<4294967296):Rd .u32 (w.alloc (Obj.cells #[Value.int IntKind.u32 (b:Int)] e)) (some ⟨w.heap.size,0,none⟩) 1 [(b:Int)]:=by
 refine ⟨by simp,by omega,wf_words (words_one b hb),fun h=>by simp at h,fun a ha hp=>?_⟩
 obtain rfl:=Option.some.inj ha
 refine ⟨rfl,by simp,fun j hj=>?_⟩
 obtain rfl:j=0:=by simpa using hj
 simp
set_option maxHeartbeats 1000000 in
theorem bigPow_any (b N:Nat) (w:World) (hb:b<4294967296) (hN:N<=1000) :
 Calls Tryz.prog 174 #[.int .u32 b,.int .i64 N] w (SubPost (b ^ N) w):=by
 go_enter Tryz.func174,Tryz.ntmps174
 have t0:decide ((N:Int)<0)=false:=decide_eq_false (by omega)
 have t1:decide ((1000:Int)<(N:Int))=false:=decide_eq_false (by omega)
 go_wp2_with fail
 obtain ⟨w1,hw1⟩:∃ w1:World,w1=(w.alloc (Obj.cells #[Value.int IntKind.u32 1] 145)).alloc (Obj.cells #[Value.int IntKind.u32 (b:Int)] 145):=⟨_,rfl⟩
 have rx:Rd .u32 w1 (some ⟨w.heap.size+1,0,none⟩) 1 [(b:Int)]:=by
  have h:=rd_alloc_one (w.alloc (Obj.cells #[Value.int IntKind.u32 1] 145)) 145 b hb
  rw [hw1];simpa using h
 have ro:Rd .u32 w1 (some ⟨w.heap.size,0,none⟩) 1 [1]:=by
  have h:=rd_alloc_one w 145 1 (by decide)
  rw [hw1]
  exact h.keep ((Below.refl _ _).alloc (Nat.le_refl _) _)
 have hb1:Below w.heap.size w w1:=by
  rw [hw1];exact ((Below.refl _ _).alloc (Nat.le_refl _) _).alloc (by simp) _
 rw [<-hw1]
 clear hw1
 refine (trimmed_any (some ⟨w.heap.size+1,0,none⟩) 1 [(b:Int)] w1 rx (by simp)).mono ?_
 rintro e w' ⟨rfl,rfl⟩
 have RX:=Lib.hid rx.trim
 have RO:=Lib.hid ro
 rw [bval_one] at RX ⊢
 clear rx ro
 go_wp2_with fail
 go_loopw [1,6,7] (fun nn ov xv wr=>∃ (i k:Nat) (ado adx:Option Addr) (capo capx:Nat) (lo lx:List Int),nn=.int .i64 k/\ov=.slice ado lo.length capo/\xv=.slice adx lx.length capx/\k<=1000 /\
  Hid (k=N / 2 ^ i)/\Hid (lo=canon (b ^ (N % 2 ^ i)))/\Hid (lx=canon (b ^ 2 ^ i))/\Hid (Rd .u32 wr ado capo lo)/\Hid (Rd .u32 wr adx capx lx)/\Below w.heap.size w wr)
  (fun nn _ _ _=>(intOf nn).toNat)
 case atStart =>
  refine ⟨0,N,_,_,1,1,[1],canon b,rfl,rfl,rfl,hN,?_,?_,?_,RO,RX,hb1⟩
  ·show _=_;rw [Nat.pow_zero,Nat.div_one]
  ·show _=_;rw [Nat.pow_zero,Nat.mod_one,Nat.pow_zero];rfl
  ·show _=_;rw [Nat.pow_zero,Nat.pow_one]
 case round =>
  clear RO RX hb1
  obtain ⟨i,k,ado,adx,capo,capx,lo,lx,rfl,rfl,rfl,hk,hki,hlo,hlx,ro,rx,hb1⟩:=hrel
  by_cases hk0:k=0
  ·subst hk0
   have hfin:lo=canon (b ^ N):=by
    have h2:N<2 ^ i:=by
     rcases Nat.lt_or_ge N (2 ^ i) with h|h
     ·exact h
     ·have:=Nat.div_pos h (Nat.two_pow_pos i)
      rw [<-hki.out] at this;omega
    rw [hlo.out,Nat.mod_eq_of_lt h2]
   have HF:=Lib.hid hfin
   clear hfin
   go_wp2_with fail
   go_ret2
   exact ⟨ado,capo,by rw [<-HF.out];rfl,by rw [<-HF.out];exact ro.out,hb1⟩
  ·have hpos:decide ((0:Int)<(k:Int))=true:=decide_eq_true (by omega)
   have h2:2 ^ i<=1000:=by
    have h3:=hki.out
    have h4:0<N / 2 ^ i:=by omega
    have h5:=(Nat.le_div_iff_mul_le (Nat.two_pow_pos i)).1 (show 1<=N / 2 ^ i by omega)
    omega
   have flx:Hid (lx.length<=1048576):=by
    show _<=_;rw [hlx.out];exact Nat.le_trans (Fits.len (pow_fits b _ hb)) (by omega)
   have flo:Hid (lo.length<=1048576):=by
    have:N % 2 ^ i<2 ^ i:=Nat.mod_lt _ (Nat.two_pow_pos i)
    show _<=_;rw [hlo.out];exact Nat.le_trans (Fits.len (pow_fits b _ hb)) (by omega)
   have vlx:Hid (bval lx=b ^ 2 ^ i):=by show _=_;rw [hlx.out,bval_canon]
   have vlo:Hid (bval lo=b ^ (N % 2 ^ i)):=by show _=_;rw [hlo.out,bval_canon]
   have hh:Hid (k / 2=N / 2 ^ (i+1)):=by show _=_;rw [hki.out,pow_half]
   have hand:bits BinOp.and IntKind.i64 (k:Int) 1=((k % 2:Nat):Int):=Go.Proofs.and_one k (by omega)
   clear h2
   by_cases hodd:k % 2=1
   ·rw [hodd] at hand
    have ho:Hid (b ^ (N % 2 ^ i) * b ^ 2 ^ i=b ^ (N % 2 ^ (i+1))):=pow_odd b N i (by rw [<-hki.out];exact hodd)
    go_wp2_with fail
    refine (mul_two ado adx capo capx lo lx wr _ _ ro.out rx.out vlo.out vlx.out flo.out flx.out).mono ?_
    rintro e w2 ⟨ad2,cap2,rfl,rd2,hb⟩
    have RX:=Lib.hid (rx.out.keep hb)
    have HB:=Lib.hid (hb1.trans (hb.mono hb1.size))
    rw [ho.out] at rd2 ⊢
    have R2:=Lib.hid rd2
    clear rd2 hb hb1
    go_wp2_with fail
    refine (mul_two adx adx capx capx lx lx w2 _ _ RX.out RX.out vlx.out vlx.out flx.out flx.out).mono ?_
    rintro e w3 ⟨ad3,cap3,rfl,rd3,hb⟩
    have R2':=Lib.hid (R2.out.keep hb)
    have HB':=Lib.hid (HB.out.trans (hb.mono HB.out.size))
    rw [pow_sq] at rd3 ⊢
    have R3:=Lib.hid rd3
    clear rd3 hb
    go_wp2_with fail
    go_roundw
    case rel=>exact ⟨i+1,k / 2,ad2,ad3,cap2,cap3,_,_,by congr 1<;>omega,rfl,rfl,by omega,hh,rfl,rfl,R2',R3,HB'.out⟩
    case measure=>simp [intOf];omega
   ·have h0:k % 2=0:=by omega
    rw [h0] at hand
    have ho:Hid (b ^ (N % 2 ^ i)=b ^ (N % 2 ^ (i+1))):=pow_even b N i (by rw [<-hki.out];exact h0)
    go_wp2_with fail
    refine (mul_two adx adx capx capx lx lx wr _ _ rx.out rx.out vlx.out vlx.out flx.out flx.out).mono ?_
    rintro e w3 ⟨ad3,cap3,rfl,rd3,hb⟩
    have R2':=Lib.hid (ro.out.keep hb)
    have HB':=Lib.hid (hb1.trans (hb.mono hb1.size))
    rw [pow_sq] at rd3 ⊢
    have R3:=Lib.hid rd3
    clear rd3 hb
    have hlo2:Hid (lo=canon (b ^ (N % 2 ^ (i+1)))):=by show _=_;rw [hlo.out,ho.out]
    go_wp2_with fail
    go_roundw
    case rel=>exact ⟨i+1,k / 2,ado,ad3,capo,cap3,_,_,by congr 1<;>omega,rfl,rfl,by omega,hh,hlo2,rfl,R2',R3,HB'.out⟩
    case measure=>simp [intOf];omega
set_option maxRecDepth 100000
theorem shift_canon (v n:Nat) (hv:v≠0):canon (v * 2 ^ n)=List.replicate (n / 32) 0++canon (v * 2 ^ (n % 32)):=by
 have hW:Words (List.replicate (n / 32) (0:Int)++canon (v * 2 ^ (n % 32))):=by
  intro x hx
  rcases List.mem_append.1 hx with hx|hx
  ·have:=(List.mem_replicate.1 hx).2;omega
  ·exact canon_words _ x hx
 have hb:bval (List.replicate (n / 32) (0:Int)++canon (v * 2 ^ (n % 32)))=v * 2 ^ n:=by
  rw [bval_append,bval_replicate,List.length_replicate,bval_canon,Nat.zero_add]
  have e:(4294967296:Nat) ^ (n / 32)=2 ^ (32 * (n / 32)):=by rw [Nat.pow_mul]
  rw [e,Nat.mul_left_comm,<-Nat.pow_add,Nat.div_add_mod]
 rw [<-hb]
 refine canon_of_big _ hW ?_
 have hne:v * 2 ^ (n % 32)≠0:=Nat.mul_ne_zero hv (Nat.ne_of_gt (Nat.two_pow_pos _))
 have hg:=canon_len_gt _ hne
 have hp:0<(canon (v * 2 ^ (n % 32))).length:=by rw [canon_pos _ hne];simp
 rw [bval_append,bval_replicate,List.length_append,List.length_replicate,bval_canon,Nat.zero_add,Nat.add_sub_assoc hp,Nat.pow_add]
 exact Nat.mul_le_mul_left _ hg
theorem own_made (w:World) (q base:Nat) (hq:q<=1048576) (hb:base<=w.heap.size) :
 (w.alloc (Obj.cells (madeCells #[Value.int IntKind.u32 0] q) 145)).ownsRow base 145 1 (.slice (some ⟨w.heap.size,0,none⟩) q q) q ((List.replicate q (0:Int)).map (Value.int .u32)):=by
 obtain ⟨i0,hi,hz0,hz1,hz2⟩:=info_parts Tryz.info_u32
 obtain ⟨w',hrun,r1,-⟩:=run_make_full (P:=Tryz.prog) w base 169 145 i0 (.int .u32 0) 1 Tryz.underlying169 hi hz0 hz1 .i64 .i64 q (by rw [hz2];omega) (by unfold maxLen;omega) hb
 have h2:=run_make_row' (P:=Tryz.prog) 169 145 (.int .u32 0) 4 Tryz.underlying169 Tryz.info_u32 rfl .i64 .i64 q (by omega) (by omega) w
 rw [h2] at hrun
 simp only [Result.ok.injEq,true_and] at hrun
 rw [hrun]
 rw [Nat.mul_one,show (Value.int IntKind.u32 0).cells=#[Value.int IntKind.u32 0] from rfl,madeCells_one] at r1
 exact r1
def LeftAt (l:List Int) (w:World) (e:Ending) (w':World):Prop :=
 ∃ b o cap,e=.returned (.slice (some ⟨b,o,none⟩) l.length cap)/\Rd .u32 w' (some ⟨b,o,none⟩) cap l/\Below w.heap.size w w'
set_option maxHeartbeats 1000000 in
theorem bigShift_left (ad:Option Addr) (ca:Nat) (xs:List Int) (n:Nat) (w:World) (h:Rd .u32 w ad ca xs) (hl:xs.length<=262144) (hn:n<=4000) :
 Calls Tryz.prog 134 #[.slice ad xs.length ca,.int .i64 n] w (SubPost (bval xs * 2 ^ n) w):=by
 have hlen:(canon (bval xs)).length<=262144:=by
  obtain ⟨m,hm,e⟩:=canon_take xs (words_of_rd h)
  rw [e];simp;omega
 have H:=Lib.hid h
 have HT:=Lib.hid h.trim
 clear h
 have t0:decide ((4000:Int)<(n:Int))=false:=decide_eq_false (by omega)
 go_enter Tryz.func134,Tryz.ntmps134
 go_wp2_with fail
 refine (trimmed_any ad ca xs w H.out (by omega)).mono ?_
 rintro e w' ⟨rfl,rfl⟩
 by_cases h0:bval xs=0
 ·have hz:(canon (bval xs)).length=0:=by rw [h0];rfl
  rw [hz]
  go_wp2
  go_ret2
  exact ⟨none,0,by rw [h0,Nat.zero_mul];rfl,by rw [h0,Nat.zero_mul];exact Gx.Rd.nil _ _ _ _ (by omega) (fun _=>rfl),Below.refl _ _⟩
 ·have hp:0<(canon (bval xs)).length:=by rw [canon_pos _ h0];simp
  have hne:((canon (bval xs)).length==0)=false:=by simp;intro e;rw [e] at hp;simp at hp
  have hne2:(((canon (bval xs)).length:Int)==0)=false:=by simp;intro e;rw [e] at hp;simp at hp
  go_wp2_with fail
  obtain ⟨q,hq⟩:∃ q,q=n / 32:=⟨_,rfl⟩
  obtain ⟨r,hr⟩:∃ r,r=n % 32:=⟨_,rfl⟩
  have hqq:IntKind.i64.wrap (q:Int)=(q:Int):=by rw [IntKind.wrap_i64];omega
  have hq2:(n:Int).tdiv 32=(q:Int):=by rw [Int.tdiv_eq_ediv_of_nonneg (by omega)];omega
  have hrr:(n:Int).tmod 32=(r:Int):=by rw [Int.tmod_eq_emod_of_nonneg (by omega)];omega
  have hqs:q<=125:=by omega
  have hrs:r<=31:=by omega
  have HQ:=Lib.hid hq
  have HR:=Lib.hid hr
  clear hq hr
  have hmk:=run_make_row' (P:=Tryz.prog) 169 145 (.int .u32 0) 4 Tryz.underlying169 Tryz.info_u32 rfl .i64 .i64 q (by omega) (by omega)
  obtain ⟨i0,hi,hz0,hz1,hz2⟩:=info_parts Tryz.info_u32
  have hvr:bval xs * 2 ^ r≠0:=Nat.mul_ne_zero h0 (Nat.ne_of_gt (Nat.two_pow_pos _))
  have hp2:0<(canon (bval xs * 2 ^ r)).length:=by rw [canon_pos _ hvr];simp
  have hl2:(canon (bval xs * 2 ^ r)).length<=262145:=by
   have f1:bval xs<4294967296 ^ (canon (bval xs)).length:=by
    have:=bval_lt _ (canon_words (bval xs));rwa [bval_canon] at this
   have f2:2 ^ r<4294967296:=Nat.lt_of_le_of_lt (Nat.pow_le_pow_right (by decide) hrs) (by decide)
   have f3:bval xs * 2 ^ r<4294967296 ^ ((canon (bval xs)).length+1):=by
    rw [Nat.pow_succ];exact Nat.mul_lt_mul'' f1 f2
   have:=canon_len_le _ _ f3
   omega
  have hfin:canon (bval xs * 2 ^ n)=List.replicate q 0++canon (bval xs * 2 ^ r):=by rw [shift_canon _ n h0,HQ.out,HR.out]
  have hleft:∀ W:World,Below w.heap.size w W->Calls Tryz.prog 158 #[.slice ad (canon (bval xs)).length ca,.int .i64 r] W (LeftAt (canon (bval xs * 2 ^ r)) W):=by
   intro W hW
   refine (bigLeft_any ad ca (bval xs) r W (HT.out.keep hW) (by omega) h0 hrs).mono ?_
   rintro e w2 ⟨ad2,cap2,rfl,rd2,hb2⟩
   obtain ⟨b2,o2,rfl,-,-⟩:=rd2.addr hp2
   exact ⟨b2,o2,cap2,rfl,rd2,hb2⟩
  have hlw:Words (canon (bval xs * 2 ^ r)):=canon_words _
  obtain ⟨l2,el2⟩:∃ l2,l2=canon (bval xs * 2 ^ r):=⟨_,rfl⟩
  rw [<-el2] at hp2 hl2 hfin hleft hlw
  have HL:=Lib.hid hleft
  have HF:=Lib.hid hfin
  have HW:=Lib.hid hlw
  have HI:=Lib.hid hi
  have HZ0:=Lib.hid hz0
  have HZ1:=Lib.hid hz1
  have HZ2:=Lib.hid hz2
  have hd:Below w.heap.size w w.drew:=(Below.refl _ _).drew
  have hda:Below w.heap.size w (w.alloc (Obj.cells (madeCells #[Value.int IntKind.u32 0] q) 145)).drew:=((Below.refl _ _).alloc (Nat.le_refl _) _).drew
  have HD:=Lib.hid hd
  have HDA:=Lib.hid hda
  clear el2 hleft hfin hlw hi hz0 hz1 hz2 hvr hd hda
  go_region_law (first
   | (refine step_append_lies _ rfl (.tmp 20) (.tmp 24) 169 rfl w.heap.size 145 i0 (.int .u32 0) 1 4 Tryz.underlying169 HI.out HZ0.out HZ1.out HZ2.out rfl (by decide) _ q ((List.replicate q (0:Int)).map (Value.int .u32)) rfl
       (by first|exact own_keep (own_made w q w.heap.size (by omega) (Nat.le_refl _)).drew hb2|exact own_made w2 q w.heap.size (by omega) hb2.size)
       ⟨b2,o2,none⟩ l2.length cap2 (l2.map (Value.int .u32)) rfl (by simp) (by first|exact rd2.src.2.2.1 _ rfl|exact (rd2.keep ((Below.refl _ _).alloc (Nat.le_refl _) _)).src.2.2.1 _ rfl) (ints_oneCell _ _) (by exact hp2) (by unfold maxLen;omega) (by omega) (by first|(have:=hb2.size;simp at this ⊢;omega)) _ rfl ?_;intro g cap3 w3 hown3 hg3 hat hlt)
   | (go_simp;go_at_call 158;refine (HL.out _ (by first|exact HDA.out|exact HD.out)).mono ?_;rintro e w2 ⟨b2,o2,cap2,rfl,rd2,hb2⟩))
  all_goals
   have hb3:Below w.heap.size w w3:=by
    first
     | exact (HDA.out.trans (hb2.mono HDA.out.size)).grown hg3 (by have:=hb2.size;simp at this ⊢;omega) (fun k e=>by cases e;simp)
     | exact ((HD.out.trans (hb2.mono HD.out.size)).alloc hb2.size _).grown hg3 (by have:=hb2.size;simp at this ⊢;omega) (fun k e=>by have h5:w.heap.size<=w2.heap.size:=hb2.size;cases e;exact h5)
   have hW:Words (List.replicate q (0:Int)++l2):=by
    intro x hx
    rcases List.mem_append.1 hx with hx|hx
    ·have:=(List.mem_replicate.1 hx).2;omega
    ·exact HW.out x hx
   obtain ⟨ad',cap',he,hrd⟩:=Gx.Rd.own (k:=.u32) (xs:=List.replicate q 0++l2) (by rw [List.map_append];exact hown3) (wf_words hW)
   have HRD:=Lib.hid hrd
   have HB3:=Lib.hid hb3
   clear hrd hown3 hg3 hat hlt hb3 hb2 hW
   rw [he]
   clear he
   go_wp2
   go_ret2
   exact ⟨ad',cap',by rw [HF.out];rfl,by rw [HF.out];exact HRD.out,HB3.out⟩
set_option maxRecDepth 100000
def tenUp (e:Int):Nat:=10 ^ e.toNat
def tenDn (e:Int):Nat:=10 ^ (-e).toNat
theorem tenDn_pos (e:Int):0<tenDn e:=Nat.pow_pos (by decide)
theorem tenUp_pos (e:Int):0<tenUp e:=Nat.pow_pos (by decide)
theorem ten_le (n:Nat):10 ^ n<=2 ^ (4 * n):=by
 rw [Nat.pow_mul]
 exact Nat.pow_le_pow_left (by decide) n
theorem ten_fitsK (n K:Nat) (h:4 * n<32 * K):Fits (10 ^ n) K:=by
 unfold Fits
 rw [pow32]
 exact Nat.lt_of_le_of_lt (ten_le n) (Nat.pow_lt_pow_right (by decide) h)
theorem ten_fits (n:Nat) (h:n<=1000):Fits (10 ^ n) 126:=ten_fitsK n 126 (by omega)
theorem two_fitsK (n K:Nat) (h:n<32 * K):Fits (2 ^ n) K:=by
 unfold Fits
 rw [pow32]
 exact Nat.pow_lt_pow_right (by decide) h
def TwoPost (N D:Nat) (w:World) (e:Ending) (w':World):Prop :=
 ∃ no nc dd dc,e=.returned (.tuple #[.slice no (canon N).length nc,.slice dd (canon D).length dc])/\Rd .u32 w' no nc (canon N)/\Rd .u32 w' dd dc (canon D)/\Below w.heap.size w w'
theorem one_rd (w:World):Rd .u32 (w.alloc (.cells #[.int .u32 1] 145)) (some ⟨w.heap.size,0,none⟩) 1 (canon 1):=by
 have hc:canon 1=[1]:=rfl
 rw [hc]
 refine ⟨by simp,by decide,fun x hx=>?_,(fun h=>by cases h),fun a ha _=>?_⟩
 ·simp at hx;subst hx
  simp [Lit.wf,IntKind.min,IntKind.max,IntKind.signed,IntKind.bits]
 ·obtain rfl:=Option.some.inj ha
  refine ⟨rfl,by simp,fun j hj=>?_⟩
  obtain rfl:j=0:=by simp at hj;omega
  exact World.cell?_alloc_mark w _ _ (0,0) 0
set_option maxHeartbeats 1000000 in
theorem ratio_any (ad:Option Addr) (ca M:Nat) (e:Int) (w:World) (h:Rd .u32 w ad ca (canon M)) (hl:(canon M).length<=1000) (h1:-1000<=e) (h2:e<=1000) :
 Calls Tryz.prog 148 #[.slice ad (canon M).length ca,.int .i64 e] w (TwoPost (M * tenUp e) (tenDn e) w):=by
 by_cases he:e<0
 ·obtain ⟨n,rfl⟩:∃ n:Nat,e=-(n:Int):=⟨(-e).toNat,by omega⟩
  have eu:M * tenUp (-(n:Int))=M:=by
   unfold tenUp
   rw [show (-(n:Int)).toNat=0 by omega];simp
  have ed:tenDn (-(n:Int))=10 ^ n:=by
   unfold tenDn
   rw [show (- -(n:Int)).toNat=n by omega]
  rw [eu,ed]
  have H:=Lib.hid h
  have hp:=bigPow_any 10 n w (by decide) (by omega)
  unfold SubPost at hp
  have HP:=Lib.hid hp
  have hn0:0<n:=by omega
  have hn1:(0:Int)<(n:Int):=by omega
  obtain ⟨k,hk⟩:∃ k,k=(canon M).length:=⟨_,rfl⟩
  have HK:=Lib.hid hk
  rw [<-hk]
  have hn:(n:Int)<=1000:=by omega
  clear h hp eu ed hl he hk h1 h2
  go_enter Tryz.func148,Tryz.ntmps148
  go_wp2_with fail
  refine HP.out.mono ?_
  rintro e w1 ⟨po,pc,rfl,hr,hb⟩
  have HR:=Lib.hid hr
  have H1:=Lib.hid (H.out.keep hb)
  have B1:=Lib.hid hb
  clear hr hb
  go_wp2
  go_ret2
  rw [HK.out]
  exact ⟨_,_,_,_,rfl,H1.out,HR.out,B1.out⟩
 ·obtain ⟨n,rfl⟩:∃ n:Nat,e=(n:Int):=⟨e.toNat,by omega⟩
  have eu:tenUp (n:Int)=10 ^ n:=by
   unfold tenUp
   rw [Int.toNat_natCast]
  have ed:tenDn (n:Int)=1:=by
   unfold tenDn
   rw [show (-(n:Int)).toNat=0 by omega,Nat.pow_zero]
  rw [eu,ed]
  have hf:=(ten_fits n (by omega)).len
  have hp:=bigPow_any 10 n w (by decide) (by omega)
  unfold SubPost at hp
  have HP:=Lib.hid hp
  have HM:=fun w0 (hb:Below w.heap.size w w0) po pc (hr:Rd .u32 w0 po pc (canon (10 ^ n)))=>mul_two ad po ca pc (canon M) (canon (10 ^ n)) w0 M (10 ^ n) (h.keep hb) hr (bval_canon _) (bval_canon _) (by omega) (by omega)
  obtain ⟨k,hk⟩:∃ k,k=(canon M).length:=⟨_,rfl⟩
  rw [<-hk] at HM ⊢
  replace HM:=Lib.hid HM
  have t0:decide ((n:Int)<0)=false:=decide_eq_false he
  have hn:(n:Int)<=1000:=by omega
  clear h hp hf eu ed hl he hk h1 h2
  go_enter Tryz.func148,Tryz.ntmps148
  go_wp2_with fail
  refine HP.out.mono ?_
  rintro e w1 ⟨po,pc,rfl,hr,hb⟩
  have HR:=Lib.hid hr
  have B1:=Lib.hid hb
  clear hr hb
  go_wp2_with fail
  refine (HM.out w1 B1.out _ _ HR.out).mono ?_
  rintro e w2 ⟨mo,mc,rfl,hr,hb⟩
  have HR2:=Lib.hid (hr.keep ((Below.refl w2.heap.size w2).alloc (Nat.le_refl _) (.cells #[.int .u32 1] 145)))
  have B2:=Lib.hid ((B1.out.trans (hb.mono B1.out.size)).alloc (Nat.le_trans B1.out.size hb.size) (.cells #[.int .u32 1] 145))
  have HO:=Lib.hid (one_rd w2)
  clear hr hb
  go_wp2
  go_ret2
  exact ⟨_,_,_,_,rfl,HR2.out,HO.out,B2.out⟩
def rheN (P Q:Nat):Nat:=P / Q+if Q<2 * (P % Q)\/(2 * (P % Q)=Q/\P / Q % 2=1) then 1 else 0
def shNum (P:Nat) (e:Int):Nat:=P * 2 ^ (-e).toNat
def shDen (Q:Nat) (e:Int):Nat:=Q * 2 ^ e.toNat
def U64Post (n:Nat) (w:World) (e:Ending) (w':World):Prop:=e=.returned (.int .u64 n)/\Below w.heap.size w w'
theorem and_one (o:Nat) (h:o<18446744073709551616):bits BinOp.and IntKind.u64 (o:Int) 1=((o % 2:Nat):Int):=by
 have:=bits_and_u64_nat o 1 h (by decide)
 rw [Nat.and_one_is_mod] at this
 exact this
theorem bval_drop_le (xs:List Int) (hw:Words xs) (j:Nat) (hj:j<=xs.length):bval (xs.drop j)<=bval xs:=by
 rw [<-bval_shr xs hw j hj];exact Nat.div_le_self _ _
theorem bval_drop_32 (xs:List Int) (hw:Words xs) (j:Nat) (hj:j+1<=xs.length):bval (xs.drop (j+1)) * 4294967296<=bval xs:=by
 have h1:=bval_drop1 xs j (by omega)
 have h2:=bval_drop_le xs hw j (by omega)
 omega
set_option maxHeartbeats 4000000 in
theorem scaled_any (ad bd:Option Addr) (ca cb P0 Q0:Nat) (e:Int) (w:World) (h:Rd .u32 w ad ca (canon P0)) (g:Rd .u32 w bd cb (canon Q0)) (hl:(canon P0).length<=1000) (hl2:(canon Q0).length<=1000) (hQ:Q0≠0) (h1:-1100<=e) (h2:e<=1100)
 (hlt:shNum P0 e / shDen Q0 e<72057594037927936) :
 Calls Tryz.prog 150 #[.slice ad (canon P0).length ca,.slice bd (canon Q0).length cb,.int .i64 e] w (U64Post (rheN (shNum P0 e) (shDen Q0 e)) w):=by
 obtain ⟨P,hP⟩:∃ P,P=shNum P0 e:=⟨_,rfl⟩
 obtain ⟨Q,hQe⟩:∃ P,P=shDen Q0 e:=⟨_,rfl⟩
 have hQ1:Q≠0:=by rw [hQe];unfold shDen;exact Nat.mul_ne_zero hQ (Nat.ne_of_gt (Nat.two_pow_pos _))
 rw [<-hP,<-hQe] at hlt ⊢
 have fP0:Fits P0 1000:=by have:=Fits.words (canon_words P0);rw [bval_canon] at this;exact this.mono hl
 have fQ0:Fits Q0 1000:=by have:=Fits.words (canon_words Q0);rw [bval_canon] at this;exact this.mono hl2
 have f2:∀ n:Nat,n<=1100->Fits (2 ^ n) 35:=fun n hn=>two_fitsK n 35 (by omega)
 have lP:(canon P).length<=2000:=by
  rw [hP];unfold shNum
  have:=(fP0.mul (f2 (-e).toNat (by omega))).len
  omega
 have lQ:(canon Q).length<=2000:=by
  rw [hQe];unfold shDen
  have:=(fQ0.mul (f2 e.toNat (by omega))).len
  omega
 have lq:(canon (P / Q)).length<=2:=canon_len_le _ 2 (by omega)
 have hRQ:P % Q<Q:=Nat.mod_lt _ (by omega)
 have lR:(canon (P % Q)).length<=2000:=by
  have f:=Fits.words (canon_words Q)
  rw [bval_canon] at f
  have:Fits (P % Q) (canon Q).length:=Nat.lt_trans hRQ f
  have:=this.len
  omega
 have lRR:(canon (P % Q+P % Q)).length<=2002:=by
  have f:=Fits.words (canon_words (P % Q))
  rw [bval_canon] at f
  have:=(f.add f).len
  omega
 have HD:=fun (w1:World) (ad bd:Option Addr) (ca cb:Nat) (hp:Rd .u32 w1 ad ca (canon P)) (hq:Rd .u32 w1 bd cb (canon Q))=>(by
  have:=divMod_any ad bd ca cb (canon P) (canon Q) w1 hp hq (by omega) (by omega) (by rw [bval_canon];exact hQ1)
  rwa [bval_canon,bval_canon] at this:Calls Tryz.prog 162 #[.slice ad (canon P).length ca,.slice bd (canon Q).length cb] w1 (DivModPost (P / Q) (P % Q) w1))
 have HA:=fun (w1:World) (ad:Option Addr) (ca:Nat) (hr:Rd .u32 w1 ad ca (canon (P % Q)))=>add_two ad ad ca ca (canon (P % Q)) (canon (P % Q)) w1 (P % Q) (P % Q) hr hr (bval_canon _) (bval_canon _) (by omega) (by omega)
 have HC:=fun (w1:World) (ad bd:Option Addr) (ca cb:Nat) (hr:Rd .u32 w1 ad ca (canon (P % Q+P % Q))) (hq:Rd .u32 w1 bd cb (canon Q))=>(by
  have:=bigCmp_any ad bd ca cb (canon (P % Q+P % Q)) (canon Q) w1 hr hq (by omega) (by omega)
  rwa [bval_canon,bval_canon] at this:Calls Tryz.prog 164 #[.slice ad (canon (P % Q+P % Q)).length ca,.slice bd (canon Q).length cb] w1 (CmpPostFl (P % Q+P % Q) Q w1))
 have hrhe:rheN P Q=P / Q+if Q<P % Q+P % Q\/(P % Q+P % Q=Q/\P / Q % 2=1) then 1 else 0:=by unfold rheN;rw [show 2 * (P % Q)=P % Q+P % Q by omega]
 unfold DivModPost at HD
 unfold WordsPost at HA
 unfold CmpPostFl at HC
 have hbq:bval (canon (P / Q))=P / Q:=bval_canon _
 have hwq:=canon_words (P / Q)
 obtain ⟨q,hq⟩:∃ q,q=P / Q:=⟨_,rfl⟩
 obtain ⟨r,hr⟩:∃ q,q=P % Q:=⟨_,rfl⟩
 rw [<-hq] at hlt lq hbq hwq
 rw [<-hq,<-hr] at HD hrhe
 rw [<-hr] at HA HC
 obtain ⟨qs,hqs⟩:∃ qs,qs=canon q:=⟨_,rfl⟩
 rw [<-hqs] at lq hbq hwq HD
 have HQQ:=Lib.hid hqs
 obtain ⟨kp,hkp⟩:∃ k,k=(canon P).length:=⟨_,rfl⟩
 obtain ⟨kq,hkq⟩:∃ k,k=(canon Q).length:=⟨_,rfl⟩
 obtain ⟨L,hL⟩:∃ k,k=qs.length:=⟨_,rfl⟩
 rw [<-hkp,<-hkq,<-hL] at HD
 rw [<-hkq] at HC
 rw [<-hL] at lq
 have KP:=Lib.hid hkp
 have KQ:=Lib.hid hkq
 have KL:=Lib.hid hL
 have HBQ:=Lib.hid hbq
 have HWQ:=Lib.hid hwq
 have HRH:=Lib.hid hrhe
 replace HD:=Lib.hid HD
 replace HA:=Lib.hid HA
 replace HC:=Lib.hid HC
 clear fP0 fQ0 f2 lP lQ hRQ lR lRR hq hr hbq hwq hrhe hQ1
 by_cases he:e<0
 ·obtain ⟨n,rfl⟩:∃ n:Nat,e=-(n:Int):=⟨(-e).toNat,by omega⟩
  have eP:P=P0 * 2 ^ n:=by rw [hP];unfold shNum;rw [show (- -(n:Int)).toNat=n by omega]
  obtain rfl:Q=Q0:=by rw [hQe];unfold shDen;rw [show (-(n:Int)).toNat=0 by omega,Nat.pow_zero,Nat.mul_one]
  have hs:=bigShift_left ad ca (canon P0) n w h (by omega) (by omega)
  unfold SubPost at hs
  rw [bval_canon,<-eP,<-hkp] at hs
  have HS:=Lib.hid hs
  have G:=Lib.hid g
  have hn0:0<n:=by omega
  have hn1:(0:Int)<(n:Int):=by omega
  have hn2:(n:Int)<=1100:=by omega
  obtain ⟨k0,hk0⟩:∃ k,k=(canon P0).length:=⟨_,rfl⟩
  rw [<-hk0] at HS ⊢
  rw [<-hkq]
  clear h g hs eP hP hQe he h1 h2 hl hl2 hQ hkp hkq hL hqs hk0
  go_enter Tryz.func150,Tryz.ntmps150
  go_wp2_with fail
  refine HS.out.mono ?_
  rintro e w1 ⟨pd,pc,rfl,hr,hb⟩
  have HP1:=Lib.hid hr
  have HQ1:=Lib.hid (G.out.keep hb)
  have B1:=Lib.hid hb
  clear hr hb
  go_wp2_with fail
  refine (HD.out w1 _ _ _ _ HP1.out HQ1.out).mono ?_
  rintro e w2 ⟨qo,qc,ro,rc,rfl,hq,hr,hb⟩
  have HQ2:=Lib.hid hq
  have HR2:=Lib.hid hr
  have HD2:=Lib.hid (HQ1.out.keep hb)
  have B2:=Lib.hid (B1.out.trans (hb.mono B1.out.size))
  clear hq hr hb HP1 HQ1 B1 HD
  go_wp2_with fail
  go_loop [10,11] (fun o iv=>∃ (z:Int) (j:Nat),iv=.int .i64 z/\z+1=j/\j<=L/\o=.int .u64 (bval (qs.drop j):Nat)) (fun _ iv=>(intOf iv+1).toNat)
  case atStart=>exact ⟨_,L,rfl,by omega,Nat.le_refl _,by rw [List.drop_eq_nil_of_le (by rw [KL.out];exact Nat.le_refl _)];rfl⟩
  case round =>
   obtain ⟨z,j,rfl,hzj,hjL,rfl⟩:=hrel
   by_cases hj0:j=0
   ·subst hj0
    obtain rfl:z=-1:=by omega
    rw [List.drop_zero,HBQ.out]
    have hand:=and_one q (by omega)
    obtain ⟨m2,hm2⟩:∃ m,m=q % 2:=⟨_,rfl⟩
    have hm3:m2<2:=by omega
    rw [<-hm2] at hand
    have HM2:=Lib.hid hm2
    clear hm2
    go_wp2_with fail
    refine (HA.out w2 _ _ HR2.out).mono ?_
    rintro e w3 ⟨so,sc,rfl,hs,hb⟩
    have HS3:=Lib.hid hs
    have HD3:=Lib.hid (HD2.out.keep hb)
    have B3:=Lib.hid (B2.out.trans (hb.mono B2.out.size))
    clear hs hb HD2 B2 HA
    go_wp2_with fail
    refine (HC.out w3 _ _ _ _ HS3.out HD3.out).mono ?_
    rintro e w4 ⟨rfl,hb⟩
    have B4:=Lib.hid (B3.out.trans (hb.mono B3.out.size))
    clear hb HS3 HD3 B3 HC
    rcases Nat.lt_trichotomy Q (r+r) with h1|h1|h1
    ·rw [cmp_gt h1]
     have hv:rheN P Q=q+1:=by rw [HRH.out,if_pos (.inl h1)]
     have HV:=Lib.hid hv
     clear hv h1
     go_wp2
     go_ret
     exact ⟨by rw [HV.out];congr 1,B4.out⟩
    ·rw [cmp_eq h1.symm]
     rcases Nat.lt_or_ge m2 1 with h2|h2
     ·obtain rfl:m2=0:=by omega
      have hv:rheN P Q=q:=by
       have:=HM2.out
       rw [HRH.out,if_neg (by omega),Nat.add_zero]
      have HV:=Lib.hid hv
      clear hv h1 h2
      go_wp2
      go_ret
      exact ⟨by rw [HV.out];rfl,B4.out⟩
     ·obtain rfl:m2=1:=by omega
      have hv:rheN P Q=q+1:=by
       have:=HM2.out
       rw [HRH.out,if_pos (by omega)]
      have HV:=Lib.hid hv
      clear hv h1 h2
      go_wp2
      go_ret
      exact ⟨by rw [HV.out];congr 1,B4.out⟩
    ·rw [cmp_lt h1]
     have hv:rheN P Q=q:=by rw [HRH.out,if_neg (by omega),Nat.add_zero]
     have HV:=Lib.hid hv
     clear hv h1
     go_wp2
     go_ret
     exact ⟨by rw [HV.out];rfl,B4.out⟩
   ·obtain ⟨i,rfl⟩:∃ i:Nat,z=i:=⟨(j - 1:Nat),by omega⟩
    obtain rfl:j=i+1:=by omega
    obtain ⟨b1,o1,rfl,-,hcq⟩:=HQ2.out.addr (by have:=KL.out;omega)
    have c0:=hcq i (by have:=KL.out;omega)
    obtain ⟨x0,x1⟩:=words_getD HWQ.out i
    have hd1:=bval_drop1 qs i (by have:=KL.out;omega)
    have hd2:=bval_drop_32 qs HWQ.out i (by have:=KL.out;omega)
    rw [HBQ.out] at hd2
    obtain ⟨x,hx⟩:∃ x:Nat,(x:Int)=qs.getD i 0:=⟨(qs.getD i 0).toNat,by omega⟩
    rw [<-hx] at c0 x1
    obtain ⟨o,ho⟩:∃ o,o=bval (qs.drop (i+1)):=⟨_,rfl⟩
    rw [<-ho] at hd1 hd2 ⊢
    have hor:=or_word o x (by omega) (by omega) (by omega) x1
    have hn:(o:Int) * 4294967296+(x:Int)=((bval (qs.drop i):Nat):Int):=by
     rw [hd1,<-hx,Int.toNat_natCast];omega
    rw [hn] at hor
    have ho2:(o:Int)<=4294967295:=by omega
    clear hcq hd1 hd2 hx ho hn hj0 hzj x0
    go_wp2
    go_round
    case rel=>exact ⟨_,i,rfl,by omega,by omega,rfl⟩
    case measure=>simp [intOf]
 ·obtain ⟨n,rfl⟩:∃ n:Nat,e=(n:Int):=⟨e.toNat,by omega⟩
  have eQ:Q=Q0 * 2 ^ n:=by rw [hQe];unfold shDen;rw [Int.toNat_natCast]
  obtain rfl:P=P0:=by rw [hP];unfold shNum;rw [show (-(n:Int)).toNat=0 by omega,Nat.pow_zero,Nat.mul_one]
  have hs:=bigShift_left bd cb (canon Q0) n w g (by omega) (by omega)
  unfold SubPost at hs
  rw [bval_canon,<-eQ,<-hkq] at hs
  have HS:=Lib.hid hs
  have G:=Lib.hid h
  have hn2:(n:Int)<=1100:=by omega
  have hn3:(0:Int)<=(n:Int):=by omega
  obtain ⟨k0,hk0⟩:∃ k,k=(canon Q0).length:=⟨_,rfl⟩
  rw [<-hk0] at HS ⊢
  rw [<-hkp]
  clear h g hs eQ hP hQe he h1 h2 hl hl2 hQ hkp hkq hL hqs hk0
  go_enter Tryz.func150,Tryz.ntmps150
  go_wp2_with fail
  refine HS.out.mono ?_
  rintro e w1 ⟨pd,pc,rfl,hr,hb⟩
  have HQ1:=Lib.hid hr
  have HP1:=Lib.hid (G.out.keep hb)
  have B1:=Lib.hid hb
  clear hr hb
  go_wp2_with fail
  refine (HD.out w1 _ _ _ _ HP1.out HQ1.out).mono ?_
  rintro e w2 ⟨qo,qc,ro,rc,rfl,hq,hr,hb⟩
  have HQ2:=Lib.hid hq
  have HR2:=Lib.hid hr
  have HD2:=Lib.hid (HQ1.out.keep hb)
  have B2:=Lib.hid (B1.out.trans (hb.mono B1.out.size))
  clear hq hr hb HP1 HQ1 B1 HD
  go_wp2_with fail
  go_loop [10,11] (fun o iv=>∃ (z:Int) (j:Nat),iv=.int .i64 z/\z+1=j/\j<=L/\o=.int .u64 (bval (qs.drop j):Nat)) (fun _ iv=>(intOf iv+1).toNat)
  case atStart=>exact ⟨_,L,rfl,by omega,Nat.le_refl _,by rw [List.drop_eq_nil_of_le (by rw [KL.out];exact Nat.le_refl _)];rfl⟩
  case round =>
   obtain ⟨z,j,rfl,hzj,hjL,rfl⟩:=hrel
   by_cases hj0:j=0
   ·subst hj0
    obtain rfl:z=-1:=by omega
    rw [List.drop_zero,HBQ.out]
    have hand:=and_one q (by omega)
    obtain ⟨m2,hm2⟩:∃ m,m=q % 2:=⟨_,rfl⟩
    have hm3:m2<2:=by omega
    rw [<-hm2] at hand
    have HM2:=Lib.hid hm2
    clear hm2
    go_wp2_with fail
    refine (HA.out w2 _ _ HR2.out).mono ?_
    rintro e w3 ⟨so,sc,rfl,hs,hb⟩
    have HS3:=Lib.hid hs
    have HD3:=Lib.hid (HD2.out.keep hb)
    have B3:=Lib.hid (B2.out.trans (hb.mono B2.out.size))
    clear hs hb HD2 B2 HA
    go_wp2_with fail
    refine (HC.out w3 _ _ _ _ HS3.out HD3.out).mono ?_
    rintro e w4 ⟨rfl,hb⟩
    have B4:=Lib.hid (B3.out.trans (hb.mono B3.out.size))
    clear hb HS3 HD3 B3 HC
    rcases Nat.lt_trichotomy Q (r+r) with h1|h1|h1
    ·rw [cmp_gt h1]
     have hv:rheN P Q=q+1:=by rw [HRH.out,if_pos (.inl h1)]
     have HV:=Lib.hid hv
     clear hv h1
     go_wp2
     go_ret
     exact ⟨by rw [HV.out];congr 1,B4.out⟩
    ·rw [cmp_eq h1.symm]
     rcases Nat.lt_or_ge m2 1 with h2|h2
     ·obtain rfl:m2=0:=by omega
      have hv:rheN P Q=q:=by
       have:=HM2.out
       rw [HRH.out,if_neg (by omega),Nat.add_zero]
      have HV:=Lib.hid hv
      clear hv h1 h2
      go_wp2
      go_ret
      exact ⟨by rw [HV.out];rfl,B4.out⟩
     ·obtain rfl:m2=1:=by omega
      have hv:rheN P Q=q+1:=by
       have:=HM2.out
       rw [HRH.out,if_pos (by omega)]
      have HV:=Lib.hid hv
      clear hv h1 h2
      go_wp2
      go_ret
      exact ⟨by rw [HV.out];congr 1,B4.out⟩
    ·rw [cmp_lt h1]
     have hv:rheN P Q=q:=by rw [HRH.out,if_neg (by omega),Nat.add_zero]
     have HV:=Lib.hid hv
     clear hv h1
     go_wp2
     go_ret
     exact ⟨by rw [HV.out];rfl,B4.out⟩
   ·obtain ⟨i,rfl⟩:∃ i:Nat,z=i:=⟨(j - 1:Nat),by omega⟩
    obtain rfl:j=i+1:=by omega
    obtain ⟨b1,o1,rfl,-,hcq⟩:=HQ2.out.addr (by have:=KL.out;omega)
    have c0:=hcq i (by have:=KL.out;omega)
    obtain ⟨x0,x1⟩:=words_getD HWQ.out i
    have hd1:=bval_drop1 qs i (by have:=KL.out;omega)
    have hd2:=bval_drop_32 qs HWQ.out i (by have:=KL.out;omega)
    rw [HBQ.out] at hd2
    obtain ⟨x,hx⟩:∃ x:Nat,(x:Int)=qs.getD i 0:=⟨(qs.getD i 0).toNat,by omega⟩
    rw [<-hx] at c0 x1
    obtain ⟨o,ho⟩:∃ o,o=bval (qs.drop (i+1)):=⟨_,rfl⟩
    rw [<-ho] at hd1 hd2 ⊢
    have hor:=or_word o x (by omega) (by omega) (by omega) x1
    have hn:(o:Int) * 4294967296+(x:Int)=((bval (qs.drop i):Nat):Int):=by
     rw [hd1,<-hx,Int.toNat_natCast];omega
    rw [hn] at hor
    have ho2:(o:Int)<=4294967295:=by omega
    clear hcq hd1 hd2 hx ho hn hj0 hzj x0
    go_wp2
    go_round
    case rel=>exact ⟨_,i,rfl,by omega,by omega,rfl⟩
    case measure=>simp [intOf]
end Go.Proofs.YtldhmfkojaekfaaGreatDoor
