/-
  Lemmas for the statement: plain laws, and what functions answer; the conditions stand in each.
-/
import Derived.Test.YtgnonbdkmmkdgaaGreatDoorChainTypedAllQ20
import Derived.Test.YtgnonbdkmmkdgaaGreatDoorChainTypedAllQ23
import Derived.Test.YtgnonbdkmmkdgaaGreatDoorChainTypedAllQ24
set_option linter.unusedVariables false
set_option linter.unusedSimpArgs false
set_option maxHeartbeats 16000000
set_option maxRecDepth 100000
open Go.Lib (hid)
namespace Go.Proofs.YtgnonbdkmmkdgaaGreatDoor
open Go.RowKit Gx
def WalkOk (fn:FuncId) (g:Ty->Int->Nat->Int×Nat) (P:Nat->Ty->Nat->Prop) (C:Nat) (r:Lt) (d:Nat):Prop:=∀ (q:Lt) (ar m:Nat) (w:World),CAt w C r m->TabsC C w->TyAt w (fun k=>k≠C) q->P d q.v ar->m<=200->ar<=20 ->
 Calls Tryz.prog 63 #[.pointer (some ⟨C,0,none⟩),q.val,.int .i64 (ar:Int),.func (.func fn) #[.pointer (some ⟨C,0,none⟩)] #[]] w (LookPost (walkF g (d+1) q.v ar m).1 (walkF g (d+1) q.v ar m).2 C r w)
theorem walkAll_cons (g:Ty->Nat->Int×Nat) (x:Ty) (l:List Ty) (m:Nat):walkAll g (x::l) m=if (g x m).1≠0 then g x m else walkAll g l (g x m).2:=rfl
theorem walkF_succ (g:Ty->Int->Nat->Int×Nat) (d:Nat) (a:Ty) (ar:Int) (m:Nat):walkF g (d+1) a ar m=if (g a ar m).1≠0 then g a ar m else walkAll (fun x m=>walkF g d x (ar+1) m) (kidsT a) (g a ar m).2:=rfl
def Looks (g:Ty->Int->Nat->Int×Nat) (P:Nat->Ty->Nat->Prop):Prop:=∀ d a ar m,P d a ar->m<=200->ar<=20->(g a ar m).1=0->(g a ar m).2<=200/\(a.t=[]\/a.f=[])/\(kidsT a≠[]->ar+1<=20/\∃ d',d=d'+1/\∀ x∈kidsT a,P d' x (ar+1))
theorem walkAll_le {h:Ty->Nat->Int×Nat}:∀ (l:List Ty) (m:Nat),(∀ x∈l,∀ m,m<=200->(h x m).1=0->(h x m).2<=200)->m<=200->(walkAll h l m).1=0->(walkAll h l m).2<=200
 | [],m,_,hm,_=>hm
 | x::l,m,hx,hm,h0=>by
   rw [walkAll_cons] at h0 ⊢
   by_cases hz:(h x m).1=0
   ·rw [if_neg (fun g=>g hz)] at h0 ⊢
    exact walkAll_le l _ (fun y hy=>hx y (List.mem_cons_of_mem _ hy)) (hx x List.mem_cons_self m hm hz) h0
   ·rw [if_pos hz] at h0
    exact absurd h0 hz
theorem walkF_le {g:Ty->Int->Nat->Int×Nat} {P:Nat->Ty->Nat->Prop} (hP:Looks g P):∀ (d:Nat) (a:Ty) (ar m:Nat),P d a ar->m<=200->ar<=20->(walkF g (d+1) a ar m).1=0->(walkF g (d+1) a ar m).2<=200:=by
 intro d
 induction d with
 | zero =>
   intro a ar m hp hm har h0
   rw [walkF_succ] at h0 ⊢
   by_cases hz:(g a ar m).1=0
   ·obtain ⟨h1,-,h3⟩:=hP 0 a ar m hp hm har hz
    rw [if_neg (fun g=>g hz)] at h0 ⊢
    by_cases hk:kidsT a=[]
    ·rw [hk];exact h1
    ·obtain ⟨-,d',hd,-⟩:=h3 hk;cases hd
   ·rw [if_pos hz] at h0;exact absurd h0 hz
 | succ d ih =>
   intro a ar m hp hm har h0
   rw [walkF_succ] at h0 ⊢
   by_cases hz:(g a ar m).1=0
   ·obtain ⟨h1,-,h3⟩:=hP (d+1) a ar m hp hm har hz
    rw [if_neg (fun g=>g hz)] at h0 ⊢
    by_cases hk:kidsT a=[]
    ·rw [hk];exact h1
    ·obtain ⟨h4,d',hd,hall⟩:=h3 hk
     obtain rfl:d=d':=by omega
     refine walkAll_le _ _ (fun x hx m hm h0=>?_) h1 h0
     have e:((ar:Int)+1)=((ar+1:Nat):Int):=by omega
     simp only [e] at h0 ⊢
     exact ih x (ar+1) m (hall x hx) hm h4 h0
   ·rw [if_pos hz] at h0;exact absurd h0 hz
theorem walk_step (fn:FuncId) (hfn:fn=45\/fn=47) (g:Ty->Int->Nat->Int×Nat) (P:Nat->Ty->Nat->Prop) (C:Nat) (r:Lt)
 (hP:Looks g P)
 (hcall:∀ (d:Nat) (q:Lt) (ar m:Nat) (w:World),CAt w C r m->TabsC C w->TyAt w (fun k=>k≠C) q->P d q.v ar->m<=200->ar<=20->Calls Tryz.prog fn #[.pointer (some ⟨C,0,none⟩),q.val,.int .i64 (ar:Int)] w (LookPost (g q.v ar m).1 (g q.v ar m).2 C r w))
 (d:Nat) (ih:∀ d',d=d'+1->WalkOk fn g P C r d'):WalkOk fn g P C r d:=by
 intro q ar m w hc hT hq hp hm har
 have hCl:=(Array.getElem?_eq_some_iff.1 hc).1
 have hb:=(Below.refl w.heap.size w).alloc (Nat.le_refl _) (.cells #[.int .i64 q.v.k,.int .i64 q.v.lo,.int .i64 q.v.hi,.slice q.xd q.v.x.length q.xc,.slice q.td q.v.t.length q.tc,.slice q.fd q.v.f.length q.fc,.string q.v.n] 27)
 have hnew:=heap_alloc_new w (.cells #[.int .i64 q.v.k,.int .i64 q.v.lo,.int .i64 q.v.hi,.slice q.xd q.v.x.length q.xc,.slice q.td q.v.t.length q.tc,.slice q.fd q.v.f.length q.fc,.string q.v.n] 27)
 have HC1:=hid (hc.below hb)
 have HQ1:=hid (hq.keep hb)
 have HT1:=hid (hT.step (gr_below hb _))
 have HG1:=hid (gr_below hb (some C))
 obtain ⟨gc,gm,hgm⟩:∃ gc gm,g q.v ar m=(gc,gm):=⟨_,_,rfl⟩
 have hcl:=hcall d q ar m _ HC1.out HT1.out HQ1.out hp hm har
 have hPd:=hP d q.v ar m hp hm har
 rw [hgm] at hcl hPd
 simp only at hcl hPd
 have hWF:walkF g (d+1) q.v ar m=if gc≠0 then (gc,gm) else walkAll (fun x m=>walkF g d x ((ar:Int)+1) m) (kidsT q.v) gm:=by
  rw [walkF_succ,hgm]
 obtain ⟨W1,W2,hW⟩:∃ W1 W2,walkF g (d+1) q.v ar m=(W1,W2):=⟨_,_,rfl⟩
 rw [hW] at hWF ⊢
 have HWF:=hid hWF
 have HPD:=hid hPd
 have IH:=hid ih
 have HLE:=hid (walkF_le hP)
 unfold Lt.val at hcl ⊢
 have HCL:=hid hcl
 clear hcall hP hc hT hq hp hb hcl hPd hWF hW hgm ih
 rcases hfn with rfl|rfl
 all_goals
  go_enter Tryz.func63,Tryz.ntmps63
  go_upto_region 1 with fail
  generalize World.alloc w _=w1 at hnew HC1 HQ1 HT1 HG1 HCL ⊢
  generalize hTb:w.heap.size=Tb at hnew hCl ⊢
  have hne:Tb≠C:=by omega
  obtain ⟨c0,c1,c2,c3,c4,c5,c6,-⟩:=ty_cells hnew
  go_wp2_with fail
  (with_reducible refine HCL.out.mono ?_)
  rintro e w2 ⟨rfl,hc2,hg2⟩
  have hn2:=(hg2.block Tb (Array.getElem?_eq_some_iff.1 hnew).1 (fun e=>hne (Option.some.inj e))).trans hnew
  have HC2:=hid hc2
  have HG2:=hid (HG1.out.trans hg2)
  have HT2:=hid (HT1.out.step hg2)
  have HQ2:Hid (TyAt w2 (fun k=>k≠C) q):=hid (HQ1.out.grow hg2 (fun b e h=>h (Option.some.inj e).symm))
  clear c0 c1 c2 c3 c4 c5 c6 hc2 hg2 HCL HC1 HG1 HT1 HQ1
  by_cases hz:gc=0
  rotate_left
  ·have HR:Hid (LookPost W1 W2 C r w (.returned (.int .i64 gc)) w2):=hid (by
    have h:=HWF.out
    rw [if_pos hz] at h
    obtain ⟨rfl,rfl⟩:=Prod.mk.inj h
    exact ⟨rfl,HC2.out,HG2.out⟩)
   have z0:(gc==0)=false:=beq_eq_false_iff_ne.2 hz
   have z1:(gc != 0)=true:=by rw [bne,z0];rfl
   clear HWF HPD IH HC2 HG2 HT2 HQ2 hz
   go_wp2_with fail
   try go_ret
   exact HR.out
  ·obtain ⟨hm2,hor,hkids⟩:=HPD.out hz
   have hW:=HWF.out
   rw [if_neg (fun h=>h hz)] at hW
   have HW:=hid hW
   have HKI:=hid hkids
   subst hz
   have hin:=inside_any q (fun k=>k≠C) w2 HQ2.out (fun b hb=>by have:=HG2.out.size;omega) hor
   unfold Lt.val at hin
   have HIN:=hid hin
   obtain ⟨c0,c1,c2,c3,c4,c5,c6,-⟩:=ty_cells hn2
   clear hin hor hW hkids HWF HPD
   go_wp2_with fail
   (with_reducible refine HIN.out.mono ?_)
   rintro e w3 ⟨ko,kc,rfl,hrow,hb3⟩
   have HROW:=hid hrow
   have HC3:=hid (HC2.out.below hb3)
   have HG3:=hid (HG2.out.trans (gr_below hb3 (some C)))
   have HT3:=hid (HT2.out.step (gr_below hb3 (some C)))
   have hwide:=hrow.wide
   rw [tf_len] at hwide
   obtain ⟨n,hn⟩:∃ n,(kidsT q.v).length=n:=⟨_,rfl⟩
   have HN:=hid hn
   rw [hn] at hwide HROW ⊢
   clear c0 c1 c2 c3 c4 c5 c6 hrow hb3 hn hn2 HIN HC2 HG2 HT2 HQ2
   go_wp2_with fail
   go_loopw [23] (fun v23 wr=>∃ (k mk:Nat),k<=n/\v23=.int .i64 k/\mk<=200/\Hid (CAt wr C r mk)/\Hid ((W1,W2)=walkAll (fun x m=>walkF g d x ((ar:Int)+1) m) ((kidsT q.v).drop k) mk)/\Hid (w3.grownBy wr (some C))) (fun v23 _=>n - (intOf v23).toNat)
   case atStart=>exact ⟨0,gm,Nat.zero_le _,rfl,hm2,HC3,hid (by rw [HW.out];rfl),hid (gr_below (Below.refl _ _) _)⟩
   case round =>
    obtain ⟨k,mk,hkn,rfl,hmk,HCr,HE,HGr⟩:=hrel
    by_cases hlt:k<n
    ·obtain ⟨x,hx⟩:∃ x,(kidsT q.v)[k]?=some x:=⟨_,List.getElem?_eq_getElem (by rw [HN.out];exact hlt)⟩
     have hkm:x∈kidsT q.v:=List.mem_of_getElem? hx
     obtain ⟨har1,d',hd',hkall⟩:=HKI.out (List.ne_nil_of_mem hkm)
     obtain ⟨b1,o1,hd1,hb1C,hbl1,hcs1⟩:=HROW.out.elem (by rw [HN.out];omega)
     subst hd1
     obtain ⟨q1,hq1,hv1,hg1⟩:=hcs1 k x hx
     have hblk:wr.heap[b1]?=w3.heap[b1]?:=HGr.out.block b1 hbl1 (fun e=>hb1C (Option.some.inj e))
     obtain ⟨d0,d1,d2,d3,d4,d5,d6⟩:=hg1.through hblk
     have hba:=(Below.refl wr.heap.size wr).alloc (Nat.le_refl _) (.cells #[.int .i64 q1.v.k,.int .i64 q1.v.lo,.int .i64 q1.v.hi,.slice q1.xd q1.v.x.length q1.xc,.slice q1.td q1.v.t.length q1.tc,.slice q1.fd q1.v.f.length q1.fc,.string q1.v.n] 27)
     have hxb:=heap_alloc_new wr (.cells #[.int .i64 q1.v.k,.int .i64 q1.v.lo,.int .i64 q1.v.hi,.slice q1.xd q1.v.x.length q1.xc,.slice q1.td q1.v.t.length q1.tc,.slice q1.fd q1.v.f.length q1.fc,.string q1.v.n] 27)
     have HCa:=hid (HCr.out.below hba)
     have HGa:=hid (HGr.out.trans (gr_below hba (some C)))
     have hE:=HE.out
     rw [drop_at hx,walkAll_cons] at hE
     subst hd'
     have hrec:=IH.out d' rfl q1 (ar+1) mk _ HCa.out (HT3.out.step HGa.out) (hv1.grow HGa.out (fun b e h=>h (Option.some.inj e).symm)) (by rw [hq1];exact hkall x hkm) hmk har1
     have ec:((ar+1:Nat):Int)=(ar:Int)+1:=by omega
     have hle:=HLE.out d' x (ar+1) mk (hkall x hkm) hmk har1
     rw [ec] at hrec hle
     obtain ⟨G1,G2,hG⟩:∃ G1 G2,walkF g (d'+1) x ((ar:Int)+1) mk=(G1,G2):=⟨_,_,rfl⟩
     have hG':walkF g (d'+1) q1.v ((ar:Int)+1) mk=(G1,G2):=by rw [hq1];exact hG
     rw [hG'] at hrec
     rw [hG] at hE hle
     simp only at hrec hE
     unfold Lt.val at hrec
     have HREC:=hid hrec
     have HE2:=hid hE
     have r1:(0:Int)<=(k:Int):=by omega
     have r2:(k:Int)<(n:Int):=by omega
     have q9:IntKind.i64.wrap ((ar:Int)+1)=(ar:Int)+1:=by rw [IntKind.wrap_i64];omega
     have HKM:Hid (G1=0->G2<=200):=hid hle
     clear hcs1 hx hq1 hv1 hba hg1 hE HE hrec hG hG' hle ec hblk hkm hkall HCr HGr
     go_upto_region 7 with fail
     generalize World.alloc wr _=wx at hxb HCa HGa HREC ⊢
     generalize hxbe:wr.heap.size=xb at hxb ⊢
     clear hxbe d0 d1 d2 d3 d4 d5 d6
     obtain ⟨e0,e1,e2,e3,e4,e5,e6,-⟩:=ty_cells hxb
     clear hxb
     go_wp2_with fail
     (with_reducible refine HREC.out.mono ?_)
     rintro e w4 ⟨rfl,hc4,hg4⟩
     have HC4:=hid hc4
     have HG4:=hid (HGa.out.trans hg4)
     clear e0 e1 e2 e3 e4 e5 e6 hc4 hg4 HREC HCa HGa
     by_cases hz:G1=0
     ·have H1:Hid ((W1,W2)=walkAll (fun x m=>walkF g (d'+1) x ((ar:Int)+1) m) ((kidsT q.v).drop (k+1)) G2):=hid (by have h:=HE2.out;rw [if_neg (fun h=>h hz)] at h;exact h)
      have hm4:=HKM.out hz
      subst hz
      clear HE2
      go_wp2_with fail
      go_roundw
      case rel=>exact ⟨k+1,G2,by omega,by go_num,hm4,HC4,H1,HG4⟩
      case measure=>simp [intOf];omega
     ·have HR:Hid (LookPost W1 W2 C r w (.returned (.int .i64 G1)) w4):=hid (by
       have h:=HE2.out
       rw [if_pos hz] at h
       obtain ⟨rfl,rfl⟩:=Prod.mk.inj h
       exact ⟨rfl,HC4.out,HG3.out.trans HG4.out⟩)
      have z0:(G1==0)=false:=beq_eq_false_iff_ne.2 hz
      have z1:(G1 != 0)=true:=by rw [bne,z0];rfl
      clear HE2 HC4 HG4 hz
      go_wp2_with fail
      try go_ret
      exact HR.out
    ·obtain rfl:k=n:=by omega
     have HR:Hid (LookPost W1 W2 C r w (.returned (.int .i64 0)) wr):=hid (by
      have h:=HE.out
      rw [List.drop_of_length_le (by rw [HN.out];exact Nat.le_refl _)] at h
      obtain ⟨rfl,rfl⟩:=Prod.mk.inj h
      exact ⟨rfl,HCr.out,HG3.out.trans HGr.out⟩)
     clear HE HCr HGr
     go_wp2_with fail
     try go_ret
     exact HR.out
structure SeenOwn (a:Ty):Prop where
 e:emptyB a=true
 r:¬ (a.hi<a.lo\/(a.k≠4/\a.lo<0))
 x:a.k=7->textsF a.x=0
 f:a.k=10->fieldsF a.f=0
 n12:a.k≠12
 fl:a.flat.length<=200
def Seen:Nat->Ty->Prop
 | 0,_=>False
 | d+1,a=>SeenOwn a/\∀ x∈kidsT a,Seen d x
theorem Seen.own:∀ {d:Nat} {a:Ty},Seen d a->SeenOwn a
 | 0,_,h=>h.elim
 | _+1,_,h=>h.1
theorem Seen.kids:∀ {d:Nat} {a:Ty},Seen d a->∀ x∈kidsT a,∃ d',d=d'+1/\Seen d' x
 | 0,_,h=>h.elim
 | d+1,_,h=>fun x hx=>⟨d,rfl,h.2 x hx⟩
theorem empty_facts {a:Ty} (h:emptyB a=true):1<=a.k/\a.k<=12/\(a.t=[]\/a.f=[])/\(a.k=8\/a.k=9->a.t.length=1)/\(a.k≠10->a.f=[]):=by
 unfold emptyB at h
 simp only [Bool.and_eq_true,decide_eq_true_eq,Bool.or_eq_true,beq_iff_eq] at h
 obtain ⟨⟨⟨⟨⟨⟨h1,h2⟩,-⟩,-⟩,h5⟩,h6⟩,-⟩:=h
 have hf:a.k≠10->a.f=[]:=fun hn=>by
  rcases h6 with h|h
  ·exact absurd h hn
  ·exact List.eq_nil_of_length_eq_zero h
 refine ⟨h1,h2,?_,fun h=>?_,hf⟩
 ·by_cases hk:a.k=10
  ·rw [if_neg (by omega)] at h5
   simp only [Bool.or_eq_true,beq_iff_eq] at h5
   rcases h5 with h|h
   ·omega
   ·exact .inl (List.eq_nil_of_length_eq_zero h)
  ·exact .inr (hf hk)
 ·rw [if_pos h] at h5
  simpa using h5
theorem look_facts {a:Ty} {ar:Int} {m:Nat} (h:lookF a ar m=0):m<=200/\ar<20/\emptyB a=true/\¬ (a.hi<a.lo\/(a.k≠4/\a.lo<0))/\(a.k=7->textsF a.x=0)/\(a.k=10->fieldsF a.f=0)/\a.k≠12:=by
 unfold lookF at h
 by_cases h1:200<m
 ·rw [if_pos h1] at h;cases h
 rw [if_neg h1] at h
 by_cases h2:20<=ar
 ·rw [if_pos h2] at h;cases h
 rw [if_neg h2] at h
 by_cases h3:emptyB a=false
 ·rw [if_pos h3] at h;cases h
 rw [if_neg h3] at h
 by_cases h4:a.hi<a.lo\/(a.k≠4/\a.lo<0)
 ·rw [if_pos h4] at h;cases h
 rw [if_neg h4] at h
 refine ⟨by omega,by omega,by simpa using h3,h4,fun hk=>?_,fun hk=>?_,fun hk=>?_⟩
 ·rw [if_pos hk] at h;exact h
 ·rw [if_neg (by omega),if_pos hk] at h;exact h
 ·rw [if_neg (by omega),if_neg (by omega),if_pos hk] at h;cases h
def PLook (d:Nat) (_:Ty) (ar:Nat):Prop:=ar+d=20
theorem looks_look:Looks lookP PLook:=by
 intro d a ar m hp hm har h0
 unfold PLook at *
 obtain ⟨h1,h2,h3,-⟩:=look_facts (show lookF a ar (m+1)=0 from h0)
 exact ⟨h1,(empty_facts h3).2.2.1,fun _=>⟨by omega,d - 1,by omega,fun _ _=>by omega⟩⟩
def PClash (d:Nat) (a:Ty) (ar:Nat):Prop:=ar+d=20/\Seen d a
theorem kids_t {a x:Ty} (h:x∈a.t):x∈kidsT a:=by unfold kidsT;exact List.mem_append_left _ h
theorem kids_f {a:Ty} {f:Fd Ty} (h:f∈a.f):f.t∈kidsT a:=by unfold kidsT;exact List.mem_append_right _ (List.mem_map_of_mem h)
theorem Seen.kok:∀ {d:Nat} {a:Ty},Seen d a->KOk a
 | 0,_,h=>h.elim
 | d+1,a,h=>by
   obtain ⟨h1,h2,-⟩:=empty_facts h.1.e
   have h12:=h.1.n12
   exact .mk a h1 (by omega) (fun b hb=>(h.2 b (kids_t hb)).kok) (fun b hb=>(h.2 b.t (kids_f hb)).kok)
theorem looks_clash:Looks clashP PClash:=by
 intro d a ar m hp hm har h0
 obtain ⟨h1,h2⟩:=hp
 refine ⟨hm,(empty_facts h2.own.e).2.2.1,fun hk=>?_⟩
 obtain ⟨x,hx⟩:=List.exists_mem_of_ne_nil _ hk
 obtain ⟨d',hd,-⟩:=h2.kids x hx
 refine ⟨by omega,d',hd,fun y hy=>?_⟩
 obtain ⟨d2,hd2,hs⟩:=h2.kids y hy
 obtain rfl:d'=d2:=by omega
 exact ⟨by omega,hs⟩
theorem walk_look {C:Nat} {r:Lt}:∀ d,WalkOk 45 lookP PLook C r d
 | 0=>walk_step _ (.inl rfl) lookP PLook C r looks_look (fun d q ar m w h1 h2 h3 _ h5 h6=>look_any q C r m ar w h1 h2 h3 (by omega) (by omega)) 0 (fun d' h=>by cases h)
 | d+1=>walk_step _ (.inl rfl) lookP PLook C r looks_look (fun d q ar m w h1 h2 h3 _ h5 h6=>look_any q C r m ar w h1 h2 h3 (by omega) (by omega)) (d+1) (fun d' h=>(Nat.succ.inj h)▸walk_look d)
theorem clash_look {C:Nat} {r:Lt} (d:Nat) (q:Lt) (ar m:Nat) (w:World) (h1:CAt w C r m) (h3:TyAt w (fun k=>k≠C) q) (h4:PClash d q.v ar):Calls Tryz.prog 47 #[.pointer (some ⟨C,0,none⟩),q.val,.int .i64 (ar:Int)] w (LookPost (clashP q.v ar m).1 (clashP q.v ar m).2 C r w) :=
 (clash_any _ _ q w (h3.weak (fun _ _ _=>trivial)) h4.2.kok).mono (fun e w' ⟨h5,h6⟩=>⟨h5,h1.below h6,gr_below h6 _⟩)
theorem walk_clash {C:Nat} {r:Lt}:∀ d,WalkOk 47 clashP PClash C r d
 | 0=>walk_step _ (.inr rfl) clashP PClash C r looks_clash (fun d q ar m w h1 _ h3 h4 _ _=>clash_look d q ar m w h1 h3 h4) 0 (fun d' h=>by cases h)
 | d+1=>walk_step _ (.inr rfl) clashP PClash C r looks_clash (fun d q ar m w h1 _ h3 h4 _ _=>clash_look d q ar m w h1 h3 h4) (d+1) (fun d' h=>(Nat.succ.inj h)▸walk_clash d)
theorem walkAll_seen {d:Nat} {ar:Nat} (ih:∀ (x:Ty) (m:Nat),m<=200->(walkF lookP (d+1) x (ar+1:Nat) m).1=0->Seen d x/\m+x.flat.length<=(walkF lookP (d+1) x (ar+1:Nat) m).2/\(walkF lookP (d+1) x (ar+1:Nat) m).2<=200):∀ (l:List Ty) (m:Nat),m<=200->(walkAll (fun x m=>walkF lookP (d+1) x ((ar:Int)+1) m) l m).1=0->(∀ x∈l,Seen d x)/\m+(l.flatMap Ty.flat).length<=(walkAll (fun x m=>walkF lookP (d+1) x ((ar:Int)+1) m) l m).2/\(walkAll (fun x m=>walkF lookP (d+1) x ((ar:Int)+1) m) l m).2<=200
 | [],m,hm,_=>⟨fun x hx=>absurd hx List.not_mem_nil,Nat.le_refl _,hm⟩
 | x::l,m,hm,h0=>by
   have e:((ar:Int)+1)=((ar+1:Nat):Int):=by omega
   rw [walkAll_cons] at h0 ⊢
   simp only [e] at h0 ⊢
   by_cases hz:(walkF lookP (d+1) x ((ar+1:Nat):Int) m).1=0
   ·rw [if_neg (fun g=>g hz)] at h0 ⊢
    obtain ⟨h1,h2,h3⟩:=ih x m hm hz
    have h:=walkAll_seen ih l _ h3 (by simp only [e];exact h0)
    simp only [e] at h
    obtain ⟨h4,h5,h6⟩:=h
    refine ⟨fun y hy=>?_,?_,h6⟩
    ·rcases List.mem_cons.1 hy with rfl|hy
     ·exact h1
     ·exact h4 y hy
    ·rw [List.flatMap_cons,List.length_append];omega
   ·rw [if_pos hz] at h0;exact absurd h0 hz
theorem walk_seen:∀ (d:Nat) (a:Ty) (ar m:Nat),ar+d=20->m<=200->(walkF lookP (d+1) a ar m).1=0->Seen d a/\m+a.flat.length<=(walkF lookP (d+1) a ar m).2/\(walkF lookP (d+1) a ar m).2<=200:=by
 intro d
 induction d with
 | zero =>
   intro a ar m had hm h0
   rw [walkF_succ] at h0
   by_cases hz:(lookP a ar m).1=0
   ·have:=(look_facts (show lookF a ar (m+1)=0 from hz)).2.1;omega
   ·rw [if_pos hz] at h0;exact absurd h0 hz
 | succ d ih =>
   intro a ar m had hm h0
   rw [walkF_succ] at h0 ⊢
   by_cases hz:(lookP a ar m).1=0
   ·rw [if_neg (fun g=>g hz)] at h0 ⊢
    obtain ⟨f1,f2,f3,f4,f5,f6,f7⟩:=look_facts (show lookF a ar (m+1)=0 from hz)
    obtain ⟨h1,h2,h3⟩:=walkAll_seen (d:=d) (ar:=ar) (fun x m hm h0=>ih x (ar+1) m (by omega) hm h0) (kidsT a) (lookP a ar m).2 f1 h0
    have hfl:a.flat.length<=((kidsT a).flatMap Ty.flat).length+1:=by
     by_cases hk:a.k=11
     ·rw [Ty.flat_union hk];unfold kidsT;rw [List.flatMap_append,List.length_append];omega
     ·rw [Ty.flat_one hk];simp
    have hm2:(lookP a ar m).2=m+1:=rfl
    rw [hm2] at h2 h3 ⊢
    refine ⟨⟨⟨f3,f4,f5,f6,f7,by omega⟩,h1⟩,by omega,h3⟩
   ·rw [if_pos hz] at h0;exact absurd h0 hz
theorem fields_zero:∀ (l:List (Fd Ty)) (p:Option ByteArray),fieldsL p l=0->(l.Pairwise fun x y=>Op.bytesLess x.n.toList y.n.toList=true)/\(∀ q,p=some q->∀ f∈l,Op.bytesLess q.toList f.n.toList=true)/\∀ f∈l,chkV f.d=0/\f.n.size<=100/\okText f.n.data.toList
 | [],p,_=>⟨.nil,fun _ _ f hf=>absurd hf List.not_mem_nil,fun f hf=>absurd hf List.not_mem_nil⟩
 | f::l,p,h=>by
   rw [fieldsL_cons] at h
   by_cases h1:fieldE p f=0
   ·rw [if_neg (fun g=>g h1)] at h
    by_cases h2:chkV f.d=0
    ·rw [if_neg (fun g=>g h2)] at h
     by_cases h3:f.h=false/\cmpD (SizeOf.sizeOf f.d) f.d .zero≠0
     ·rw [if_pos h3] at h;cases h
     rw [if_neg h3] at h
     obtain ⟨g1,g2,g3⟩:=fields_zero l (some f.n) h
     have hn:nameE f.n=0/\∀ q,p=some q->Op.bytesLess q.toList f.n.toList=true:=by
      cases p with
      | none =>
        change namesL none [f.n]=0 at h1
        rw [namesL_cons] at h1
        by_cases h4:nameE f.n=0
        ·exact ⟨h4,fun q e=>by cases e⟩
        ·rw [if_pos h4] at h1;exact absurd h1 h4
      | some q =>
        change namesL none [q,f.n]=0 at h1
        rw [namesL_cons] at h1
        by_cases h4:nameE q=0
        ·rw [if_neg (fun g=>g h4),if_neg (show ¬ notRise none q=true from fun g=>by cases g),namesL_cons] at h1
         by_cases h5:nameE f.n=0
         ·rw [if_neg (fun g=>g h5)] at h1
          by_cases h6:notRise (some q) f.n=true
          ·rw [if_pos h6] at h1;cases h1
          ·refine ⟨h5,fun q' e=>?_⟩
           cases e
           unfold notRise at h6
           simpa using h6
         ·rw [if_pos h5] at h1;exact absurd h1 h5
        ·rw [if_pos h4] at h1;exact absurd h1 h4
     have hnm:f.n.size<=100/\okText f.n.data.toList:=by
      have h4:=hn.1
      unfold nameE at h4
      by_cases h5:100<f.n.size
      ·rw [if_pos h5] at h4;cases h4
      rw [if_neg h5] at h4
      by_cases h6:okText f.n.data.toList
      ·exact ⟨by omega,h6⟩
      ·rw [if_pos h6] at h4;cases h4
     refine ⟨List.pairwise_cons.2 ⟨fun x hx=>g2 f.n rfl x hx,g1⟩,fun q e x hx=>?_,fun x hx=>?_⟩
     ·rcases List.mem_cons.1 hx with rfl|hx
      ·exact hn.2 q e
      ·exact bl_tr (hn.2 q e) (g2 f.n rfl x hx)
     ·rcases List.mem_cons.1 hx with rfl|hx
      ·exact ⟨h2,hnm⟩
      ·exact g3 x hx
    ·rw [if_pos h2] at h;omega
   ·rw [if_pos h1] at h;exact absurd h h1
theorem Seen.flds {d:Nat} {a:Ty} (h:Seen d a):(a.f.Pairwise fun x y=>Op.bytesLess x.n.toList y.n.toList=true)/\∀ f∈a.f,chkV f.d=0/\f.n.size<=100/\okText f.n.data.toList:=by
 by_cases hk:a.k=10
 ·have hf:=h.own.f hk
  unfold fieldsF at hf
  by_cases h2:200<a.f.length
  ·rw [if_pos h2] at hf;cases hf
  rw [if_neg h2] at hf
  obtain ⟨h3,-,h4⟩:=fields_zero _ _ hf
  exact ⟨h3,h4⟩
 ·rw [(empty_facts h.own.e).2.2.2.2 hk]
  exact ⟨.nil,fun f hf=>absurd hf List.not_mem_nil⟩
theorem rise_names {l:List (Fd Ty)} (h:l.Pairwise fun x y=>Op.bytesLess x.n.toList y.n.toList=true):(l.map Fd.n).Nodup:=by
 rw [List.Nodup,List.pairwise_map]
 refine h.imp (fun hxy e=>?_)
 rw [e,bl_no] at hxy;cases hxy
theorem Seen.uq:∀ {d:Nat} {a:Ty},Seen d a->Uq a
 | 0,_,h=>h.elim
 | d+1,a,h=>.mk a (rise_names h.flds.1) (fun b hb=>(h.2 b (kids_t hb)).uq) (fun b hb=>(h.2 b.t (kids_f hb)).uq)
theorem Seen.tok:∀ {d:Nat} {a:Ty},Seen d a->TOk a
 | 0,_,h=>h.elim
 | d+1,a,h=>by
   refine .mk a h.kok (empty_facts h.1.e).2.2.2.1 (fun hk=>?_) (by have:=h.1.fl;omega) (fun b hb=>(h.2 b (kids_t hb)).tok) (fun b hb=>(h.2 b.t (kids_f hb)).tok)
   have hx:=h.1.x hk
   unfold textsF at hx
   by_cases h0:a.x.length=0
   ·rw [if_pos h0] at hx;cases hx
   ·omega
theorem Seen.gd {d:Nat} {a:Ty} (h:Seen d a):∀ f∈a.f,Gd 20 f.d:=fun f hf=>chk_gd 20 f.d 0 (h.flds.2 f hf).1
theorem cat_cells {w:World} {C:Nat} {r:Lt} {m:Nat} (h:CAt w C r m):w.cell? ⟨C,0,none⟩=some (.slice none 0 0)/\w.cell? ⟨C,1,none⟩=some (.int .i64 r.v.k)/\w.cell? ⟨C,2,none⟩=some (.int .i64 r.v.lo)/\w.cell? ⟨C,3,none⟩=some (.int .i64 r.v.hi)/\w.cell? ⟨C,4,none⟩=some (.slice r.xd r.v.x.length r.xc)/\w.cell? ⟨C,5,none⟩=some (.slice r.td r.v.t.length r.tc)/\w.cell? ⟨C,6,none⟩=some (.slice r.fd r.v.f.length r.fc)/\w.cell? ⟨C,7,none⟩=some (.string r.v.n):=by
 unfold CAt at h
 refine ⟨?_,?_,?_,?_,?_,?_,?_,?_⟩<;>simp [World.cell?,h]
theorem all_any (fn:FuncId) (hfn:fn=45\/fn=47) (C:Nat) (r:Lt) (m m2:Nat) (code:Int) (w:World) (hc:CAt w C r m)
 (hw:Calls Tryz.prog 63 #[.pointer (some ⟨C,0,none⟩),r.val,.int .i64 0,.func (.func fn) #[.pointer (some ⟨C,0,none⟩)] #[]] w (LookPost code m2 C r w)) :
 Calls Tryz.prog 44 #[.pointer (some ⟨C,0,none⟩),.func (.func fn) #[.pointer (some ⟨C,0,none⟩)] #[]] w (LookPost code m2 C r w):=by
 obtain ⟨c0,c1,c2,c3,c4,c5,c6,c7⟩:=cat_cells hc
 unfold Lt.val at hw
 have HW:=hid hw
 clear hc hw
 rcases hfn with rfl|rfl
 all_goals
  go_enter Tryz.func44,Tryz.ntmps44
  go_wp2_with fail
  go_loopw [14] (fun v14 wr=>v14=.int .i64 0/\wr=w) (fun _ _=>0)
  case atStart=>exact ⟨rfl,rfl⟩
  case round =>
   obtain ⟨rfl,rfl⟩:=hrel
   go_wp2_with fail
   (with_reducible refine HW.out.mono ?_)
   rintro e w2 ⟨rfl,h2,h3⟩
   have HR:=hid h2
   have HG:=hid h3
   clear h2 h3 HW
   go_wp2_with fail
   try go_ret
   exact ⟨rfl,HR.out,HG.out⟩
noncomputable def typE (a:Ty):Int:=if (walkF lookP 21 a 0 0).1≠0 then (walkF lookP 21 a 0 0).1 else (walkF clashP 21 a 0 (walkF lookP 21 a 0 0).2).1
theorem typE_seen {a:Ty} (h:typE a=0):Seen 20 a:=by
 unfold typE at h
 by_cases hz:(walkF lookP 21 a 0 0).1=0
 ·exact (walk_seen 20 a 0 0 (by omega) (by omega) hz).1
 ·rw [if_pos hz] at h;exact absurd h hz
theorem typCheck_any (r:Lt) (w:World) (hr:TyAt w (fun _=>True) r) (hT:Tabs w) :
 Calls Tryz.prog 24 #[.agg #[.slice none 0 0,.int .i64 r.v.k,.int .i64 r.v.lo,.int .i64 r.v.hi,.slice r.xd r.v.x.length r.xc,.slice r.td r.v.t.length r.tc,.slice r.fd r.v.f.length r.fc,.string r.v.n]] w (IntB (typE r.v) w):=by
 obtain ⟨O1,hO1⟩:∃ O1,O1=Obj.cells #[.slice none 0 0,.int .i64 r.v.k,.int .i64 r.v.lo,.int .i64 r.v.hi,.slice r.xd r.v.x.length r.xc,.slice r.td r.v.t.length r.tc,.slice r.fd r.v.f.length r.fc,.string r.v.n] 41:=⟨_,rfl⟩
 obtain ⟨O2,hO2⟩:∃ O2,O2=Obj.cells #[.slice none 0 0,.int .i64 r.v.k,.int .i64 r.v.lo,.int .i64 r.v.hi,.slice r.xd r.v.x.length r.xc,.slice r.td r.v.t.length r.tc,.slice r.fd r.v.f.length r.fc,.string r.v.n,.int .i64 0] 104:=⟨_,rfl⟩
 obtain ⟨w1,hw1⟩:∃ w1,w1=w.alloc O1:=⟨_,rfl⟩
 obtain ⟨w2,hw2⟩:∃ w2,w2=w1.alloc O2:=⟨_,rfl⟩
 obtain ⟨C,hC⟩:∃ C,C=w.heap.size+1:=⟨_,rfl⟩
 have hs1:w1.heap.size=C:=by rw [hw1,hC];simp
 have hb1:Below w.heap.size w w1:=by rw [hw1];exact (Below.refl w.heap.size w).alloc (Nat.le_refl _) _
 have hb2:Below w.heap.size w w2:=by rw [hw2];exact hb1.alloc hb1.size _
 have hc1:w1.heap[w.heap.size]?=some O1:=by rw [hw1];exact heap_alloc_new w _
 have hc1b:w2.heap[w.heap.size]?=some O1:=by rw [hw2,Below.heap_alloc _ _ _ (by rw [hs1];omega)];exact hc1
 have hc2:w2.heap[C]?=some O2:=by rw [hw2,<-hs1];exact heap_alloc_new w1 _
 subst hO1 hO2
 have hCA:CAt w2 C r 0:=hc2
 have hTC:∀ W,Below w.heap.size w W->TabsC C W:=fun W hW w' hg=>hT.keep ⟨hg.os.trans hW.os,hg.tape.trans hW.tape,hg.output.trans hW.output,Nat.le_trans hW.size hg.size,fun i hi=>(hg.block i (Nat.lt_of_lt_of_le hi hW.size) (fun e=>by have:=Option.some.inj e;omega)).trans (hW.block i hi)⟩
 have hRC:∀ W,Below w.heap.size w W->TyAt W (fun k=>k≠C) r:=fun W hW=>hr.through hW.size (fun b _ hl=>hW.block b hl) (fun b _ hl=>by omega)
 have HLK:Hid (∀ W,Below w.heap.size w W->CAt W C r 0->Calls Tryz.prog 44 #[.pointer (some ⟨C,0,none⟩),.func (.func 45) #[.pointer (some ⟨C,0,none⟩)] #[]] W (LookPost (walkF lookP 21 r.v 0 0).1 (walkF lookP 21 r.v 0 0).2 C r W)):=hid (fun W hW hcw =>
  all_any _ (.inl rfl) C r 0 _ _ W hcw (walk_look 20 r 0 0 W hcw (hTC W hW) (hRC W hW) (by unfold PLook;omega) (by omega) (by omega)))
 have HCL:Hid (∀ W m,Below w.heap.size w W->CAt W C r m->m<=200->Seen 20 r.v->Calls Tryz.prog 44 #[.pointer (some ⟨C,0,none⟩),.func (.func 47) #[.pointer (some ⟨C,0,none⟩)] #[]] W (LookPost (walkF clashP 21 r.v 0 m).1 (walkF clashP 21 r.v 0 m).2 C r W)):=hid (fun W m hW hcw hm hs =>
  all_any _ (.inr rfl) C r m _ _ W hcw (walk_clash 20 r 0 m W hcw (hTC W hW) (hRC W hW) ⟨by omega,hs⟩ hm (by omega)))
 have HSE:=hid (walk_seen 20 r.v 0 0 (by omega) (by omega))
 have HTE:Hid (typE r.v=if (walkF lookP 21 r.v 0 0).1≠0 then (walkF lookP 21 r.v 0 0).1 else (walkF clashP 21 r.v 0 (walkF lookP 21 r.v 0 0).2).1):=hid rfl
 obtain ⟨LC,LM,hL⟩:∃ LC LM,walkF lookP 21 r.v 0 0=(LC,LM):=⟨_,_,rfl⟩
 rw [show ((0:Nat):Int)=0 from rfl,hL] at HSE
 rw [hL] at HTE HLK
 simp only at HTE HLK HSE
 have s0:w1.cell? ⟨w.heap.size,0,none⟩=some (.slice none 0 0):=by simp only [World.cell?,hc1];rfl
 have s1:w1.cell? ⟨w.heap.size,1,none⟩=some (.int .i64 r.v.k):=by simp only [World.cell?,hc1];rfl
 have s2:w1.cell? ⟨w.heap.size,2,none⟩=some (.int .i64 r.v.lo):=by simp only [World.cell?,hc1];rfl
 have s3:w1.cell? ⟨w.heap.size,3,none⟩=some (.int .i64 r.v.hi):=by simp only [World.cell?,hc1];rfl
 have s4:w1.cell? ⟨w.heap.size,4,none⟩=some (.slice r.xd r.v.x.length r.xc):=by simp only [World.cell?,hc1];rfl
 have s5:w1.cell? ⟨w.heap.size,5,none⟩=some (.slice r.td r.v.t.length r.tc):=by simp only [World.cell?,hc1];rfl
 have s6:w1.cell? ⟨w.heap.size,6,none⟩=some (.slice r.fd r.v.f.length r.fc):=by simp only [World.cell?,hc1];rfl
 have s7:w1.cell? ⟨w.heap.size,7,none⟩=some (.string r.v.n):=by simp only [World.cell?,hc1];rfl
 have HS:Hid (w2.cell? ⟨w.heap.size,0,none⟩=some (.slice none 0 0)):=hid (by simp only [World.cell?,hc1b];rfl)
 have HCA:=hid hCA
 have HB2:=hid hb2
 have HW1:=hid hw1
 have HW2:=hid hw2
 have HCC:=hid hC
 have HNZ:=hid (fun v W=>names_zero v W)
 have HSL:Hid (w.heap.size<w2.heap.size):=hid (by rw [hw2];simp;omega)
 have HS1:=hid hs1
 clear hCA hb1 hb2 hc1 hc1b hc2 hTC hRC hL hr hT hw1 hw2 hs1 hC
 go_enter Tryz.func24,Tryz.ntmps24
 go_upto_region 1 with fail
 rw [<-HW1.out]
 go_upto_region 2 with fail
 rw [<-HW2.out,HS1.out]
 have t0:=HS.out
 clear HW1 HW2 s0 s1 s2 s3 s4 s5 s6 s7
 go_wp2_with fail
 (with_reducible refine (HNZ.out _ _).mono ?_)
 rintro e w3 ⟨rfl,hb3⟩
 have HB3:=hid (HB2.out.trans (hb3.mono HB2.out.size))
 have HCA3:=hid (HCA.out.below hb3)
 have HS3:Hid (w3.cell? ⟨w.heap.size,0,none⟩=some (.slice none 0 0)):=hid ((hb3.cell (p:=⟨w.heap.size,0,none⟩) HSL.out).trans HS.out)
 have HSL3:Hid (w.heap.size<w3.heap.size):=hid (Nat.lt_of_lt_of_le HSL.out hb3.size)
 clear hb3 t0 HNZ HB2 HCA HS HSL
 go_wp2_with fail
 (with_reducible refine (HLK.out _ HB3.out HCA3.out).mono ?_)
 rintro e w4 ⟨rfl,hc4,hg4⟩
 have hB4:Below w.heap.size w w4:=HB3.out.grown hg4 HB3.out.size (fun b e=>by have h1:=Option.some.inj e;have h2:=HCC.out;omega)
 have hne:w.heap.size≠C:=by have:=HCC.out;omega
 have hbk:w4.heap[w.heap.size]?=w3.heap[w.heap.size]?:=hg4.block _ HSL3.out (fun e=>hne (Option.some.inj e))
 have t4:w4.cell? ⟨w.heap.size,0,none⟩=some (.slice none 0 0):=(World.cell?_of_block hbk).trans HS3.out
 have HC4:=hid hc4
 have HB4:=hid hB4
 clear hbk hne hc4 hg4 hB4 HLK HB3 HCA3 HS3 HSL3
 by_cases hz:LC=0
 rotate_left
 ·have HR:Hid (IntB (typE r.v) w (.returned (.int .i64 LC)) w4):=hid (by
   have h:=HTE.out
   rw [if_pos hz] at h
   rw [h];exact ⟨rfl,HB4.out⟩)
  have z0:(LC==0)=false:=beq_eq_false_iff_ne.2 hz
  have z1:(LC != 0)=true:=by rw [bne,z0];rfl
  clear HTE HSE HC4 HB4 hz HCL
  go_wp2_with fail
  try go_ret
  exact HR.out
 ·have hte:=HTE.out
  rw [if_neg (fun h=>h hz)] at hte
  obtain ⟨hseen,-,hlm⟩:=HSE.out hz
  have HC5:=hid (HCL.out w4 LM HB4.out HC4.out hlm hseen)
  have HTE2:=hid hte
  subst hz
  clear hte hseen hlm HTE HSE HCL HC4
  go_wp2_with fail
  go_loopw [33] (fun v33 wr=>v33=.int .i64 0/\wr=w4) (fun _ _=>0)
  case atStart=>exact ⟨rfl,rfl⟩
  case round =>
   obtain ⟨rfl,rfl⟩:=hrel
   go_wp2_with fail
   (with_reducible refine HC5.out.mono ?_)
   rintro e w5 ⟨rfl,hc5,hg5⟩
   have HR:Hid (IntB (typE r.v) w (.returned (.int .i64 (walkF clashP 21 r.v 0 LM).1)) w5):=hid (by
    rw [HTE2.out]
    exact ⟨rfl,HB4.out.grown hg5 HB4.out.size (fun b e=>by have h1:=Option.some.inj e;have h2:=HCC.out;omega)⟩)
   clear hc5 hg5 HC5 HTE2 HB4
   go_wp2_with fail
   try go_ret
   exact HR.out
theorem cmpL_nil {α:Type} {f:α->α->Int} {l:List α} (h:cmpL f l []=0):l=[]:=by
 cases l with
 | nil=>rfl
 | cons x l=>cases h
theorem cmp_bare {n:Nat} {v:V} (h:cmpD (n+1) v .zero=0):v.l=[]/\v.e=[]:=by
 rw [cmpD] at h
 have h0:∀ {x:Int} {l:List Int},orL (x::l)=0->x=0/\orL l=0:=fun {x l} h=>by
  rw [orL] at h
  by_cases hx:x=0
  ·rw [if_neg (fun g=>g hx)] at h;exact ⟨hx,h⟩
  ·rw [if_pos hx] at h;exact absurd h hx
 obtain ⟨-,h⟩:=h0 h
 obtain ⟨-,h⟩:=h0 h
 obtain ⟨-,h⟩:=h0 h
 obtain ⟨-,h⟩:=h0 h
 obtain ⟨h4,h⟩:=h0 h
 obtain ⟨h5,-⟩:=h0 h
 exact ⟨cmpL_nil h4,cmpL_nil h5⟩
theorem fields_bare:∀ (l:List (Fd Ty)) (p:Option ByteArray),fieldsL p l=0->∀ f∈l,f.h=false->f.d.l=[]/\f.d.e=[]
 | [],_,_,f,hf,_=>absurd hf List.not_mem_nil
 | g::l,p,h,f,hf,hh=>by
   rw [fieldsL_cons] at h
   by_cases h1:fieldE p g=0
   ·rw [if_neg (fun g=>g h1)] at h
    by_cases h2:chkV g.d=0
    ·rw [if_neg (fun g=>g h2)] at h
     by_cases h3:g.h=false/\cmpD (SizeOf.sizeOf g.d) g.d .zero≠0
     ·rw [if_pos h3] at h;cases h
     ·rw [if_neg h3] at h
      rcases List.mem_cons.1 hf with rfl|hf
      ·have h4:cmpD (SizeOf.sizeOf f.d) f.d .zero=0:=Classical.byContradiction fun e=>h3 ⟨hh,e⟩
       obtain ⟨n,hn⟩:∃ n,SizeOf.sizeOf f.d=n+1:=⟨SizeOf.sizeOf f.d - 1,by cases f.d;simp;omega⟩
       rw [hn] at h4
       exact cmp_bare h4
      ·exact fields_bare l _ h f hf hh
    ·rw [if_pos h2] at h;omega
   ·rw [if_pos h1] at h;exact absurd h h1
theorem Seen.bare {d:Nat} {a:Ty} (h:Seen d a):∀ f∈a.f,f.h=false->f.d.l=[]/\f.d.e=[]:=by
 by_cases hk:a.k=10
 ·have hf:=h.own.f hk
  unfold fieldsF at hf
  by_cases h2:200<a.f.length
  ·rw [if_pos h2] at hf;cases hf
  rw [if_neg h2] at hf
  exact fields_bare _ _ hf
 ·rw [(empty_facts h.own.e).2.2.2.2 hk]
  exact fun f hf=>absurd hf List.not_mem_nil
theorem Seen.ten {d:Nat} {a:Ty} (h:Seen d a) (hk:a.k=10):a.x=[]/\a.t=[]/\a.f.length<=200:=by
 have he:=h.own.e
 have hf:=h.own.f hk
 unfold emptyB at he
 rw [hk] at he
 simp only [Bool.and_eq_true,decide_eq_true_eq,Bool.or_eq_true,beq_iff_eq] at he
 obtain ⟨⟨⟨⟨-,h4⟩,h5⟩,-⟩,-⟩:=he
 refine ⟨List.eq_nil_of_length_eq_zero (h4.resolve_left (by decide)),List.eq_nil_of_length_eq_zero (by simpa using h5),?_⟩
 unfold fieldsF at hf
 by_cases h1:200<a.f.length
 ·rw [if_pos h1] at hf;cases hf
 ·omega
def Lt.withF (q:Lt) (l:List (Fd Ty)) (ao:Option Addr) (c:Nat):Lt:=⟨setF q.v l,q.xd,q.xc,q.td,q.tc,ao,c⟩
theorem TyAt.fields {W:World} {C:Nat->Prop} {q:Lt} (hq:q.v.wf) (hx:q.v.x=[]) (ht:q.v.t=[]) {l:List (Fd Ty)} {ao:Option Addr} {c:Nat} (h:TRow W C true l (.slice ao l.length c)):TyAt W C (q.withF l ao c):=by
 refine ⟨⟨hq.k0,hq.k1,hq.l0,hq.l1,hq.h0,hq.h1,hq.s1⟩,?_,?_,h⟩
 ·show SRow W C q.v.x (.slice q.xd q.v.x.length q.xc)
  rw [hx];exact .nil _ _
 ·show TRow W C false (tf q.v.t) (.slice q.td q.v.t.length q.tc)
  rw [ht];exact .nil _ _ _
theorem grown_from {w a b:World} {r:Option Nat} (h:Below w.heap.size w a) (g:a.grownBy b r):w.grownBy b r :=
 ⟨g.os.trans h.os,g.tape.trans h.tape,g.output.trans h.output,Nat.le_trans h.size g.size,fun k hk hn=>(g.block k (Nat.lt_of_lt_of_le hk h.size) hn).trans (h.block k hk)⟩
structure RecAt (w:World) (S:Nat->Prop) (q:Lt) (g:Nat) (ps:List Ft) (Sd:Nat->Nat->Prop):Prop where
 at_:TyAt w S q
 x:q.v.x=[]
 t:q.v.t=[]
 fd:q.fd=some ⟨g,0,none⟩
 own:w.ownsRow 1 65 16 (.slice (some ⟨g,0,none⟩) ps.length q.fc) ps.length (ps.flatMap (cellsF true))
 key:∀ p∈ps,p.n.size<=140737488351232
 hg:S g
 hps:ps.map Ft.fd=q.v.f
 hS:∀ i b,Sd i b->S b/\b≠g
 hD:∀ i j b,Sd i b->Sd j b->i=j
 hv:∀ i p,ps[i]?=some p->VAt w (Sd i) p.d
 ho:∀ i p,ps[i]?=some p->OwnT w (Sd i) p.t
theorem OwnT.recAt {w:World} {S:Nat->Prop} {q:Lt} (h:OwnT w S q) (hf:0<q.v.f.length):∃ g ps Sd,RecAt w S q g ps Sd:=by
 cases h with
 | leaf _ _ h hf0=>rw [hf0] at hf;cases hf
 | record _ _ ps Sd h hx ht ha hg hps hS hD hv ho =>
   have hl:ps.length=q.v.f.length:=by rw [<-hps,List.length_map]
   have hown:=ha.own
   rw [hl] at hown
   rcases hown.2 with ⟨h1,h2⟩|⟨g,cap,cur,h1,-⟩
   ·omega
   ·simp only [Value.slice.injEq] at h1
    obtain ⟨h1,-,rfl⟩:=h1
    rw [<-hl,h1] at hown
    rw [h1] at hg hS
    exact ⟨g,ps,Sd,h,hx,ht,h1,hown,ha.key,hg g rfl,hps,fun i b hb=>⟨(hS i b hb).1,fun e=>(hS i b hb).2 (by rw [e];rfl)⟩,hD,hv,ho⟩
namespace RecAt
variable {w w1 W:World} {S C:Nat->Prop} {q:Lt} {g:Nat} {ps:List Ft} {Sd:Nat->Nat->Prop} {i:Nat} {p:Ft}
theorem len (h:RecAt w S q g ps Sd):ps.length=q.v.f.length:=by rw [<-h.hps,List.length_map]
theorem wide (h:RecAt w S q g ps Sd):ps.length * 112<=140737488351232:=by rw [h.len];exact h.at_.f.wide
theorem lt (h:RecAt w S q g ps Sd):1<=g/\g<w.heap.size:=h.own.lt g rfl
theorem get (h:RecAt w S q g ps Sd) {f:Fd Ty} {s:ByteArray} (hf:fdOf q.v.f s=some f):∃ p:Ft,ps[fpos s q.v.f]?=some p/\p.fd=f:=by
 have h1:=(fpos_some hf).2
 rw [<-h.hps,List.getElem?_map] at h1
 rw [<-h.hps]
 exact Option.map_eq_some_iff.1 h1
theorem acc (h:RecAt w S q g ps Sd):AccT w 0 S true 65 (.slice (some ⟨g,0,none⟩) ps.length q.fc) ps:=by
 refine ⟨h.own,fun p hp=>?_,fun p hp=>?_,h.key⟩
 ·obtain ⟨i,hi⟩:=List.mem_iff_getElem?.1 hp
  exact (h.ho i p hi).at_.weak (fun b hb _=>⟨(h.hS i b hb).1,fun e=>(h.hS i b hb).2 (Option.some.inj e).symm⟩)
 ·obtain ⟨i,hi⟩:=List.mem_iff_getElem?.1 hp
  exact (h.hv i p hi).weak (fun b hb _=>⟨(h.hS i b hb).1,fun e=>(h.hS i b hb).2 (Option.some.inj e).symm⟩)
theorem own1 (h:RecAt w S q g ps Sd) (h1:KpS (Sd i) w w1):w1.ownsRow 1 65 16 (.slice (some ⟨g,0,none⟩) ps.length q.fc) ps.length (ps.flatMap (cellsF true)) :=
 own_same h.own (fun b e=>h1.block b (by have h8:=h.lt.2;have h9:g=b:=Option.some.inj e;omega) (fun hs=>(h.hS i b hs).2 (Option.some.inj e).symm))
theorem kps (h:RecAt w S q g ps Sd) (h1:KpS (Sd i) w w1) (hgr:w1.grownBy W (some g)):KpS S w W :=
 ⟨hgr.os.trans h1.os,hgr.tape.trans h1.tape,hgr.output.trans h1.output,Nat.le_trans h1.size hgr.size,fun k hk hn =>
   (hgr.block k (Nat.lt_of_lt_of_le hk h1.size) (fun e=>hn (by have:=Option.some.inj e;rw [this];exact h.hg))).trans (h1.block k hk (fun hs=>hn (h.hS i k hs).1))⟩
theorem done (h:RecAt w S q g ps Sd) {n:Nat} (hn:w.heap.size<=n) (hi:ps[i]?=some p) (hb:p.d.v.l=[]/\p.d.v.e=[]) (h1:KpS (Sd i) w w1) (y:Lt)
 (hW:W.ownsRow 1 65 16 (.slice (some ⟨g,0,none⟩) ps.length q.fc) ps.length ((ps.set i (p.setT y)).flatMap (cellsF true))) (hgr:w1.grownBy W (some g)) (hSC:∀ b,S b->C b) (hC:∀ b,n<=b->C b) (hy:TyAt w1 (fun b=>Sd i b\/n<=b) y) :
 TyAt W C (q.withF (q.v.f.set i { p.fd with t:=y.v }) q.fd q.fc):=by
 have hgl:=h.lt.2
 have hc:∀ j (p':Ft),(ps.set i (p.setT y))[j]?=some p'->(i=j/\p'=p.setT y)\/(i≠j/\ps[j]?=some p'):=fun j p' hj=>by
  rw [List.getElem?_set] at hj
  by_cases e:i=j
  ·rw [if_pos e] at hj
   subst e
   rw [if_pos (List.getElem?_eq_some_iff.1 hi).1] at hj
   exact .inl ⟨rfl,(Option.some.inj hj).symm⟩
  ·rw [if_neg e] at hj;exact .inr ⟨e,hj⟩
 have hne:∀ j b,Sd j b->(C b/\(Value.slice (some ⟨g,0,none⟩) ps.length q.fc).ownBlock≠some b):=fun j b hs=>⟨hSC b (h.hS j b hs).1,fun e=>(h.hS j b hs).2 (Option.some.inj e).symm⟩
 have ha:AccT W 0 C true 65 (.slice (some ⟨g,0,none⟩) ps.length q.fc) (ps.set i (p.setT y)):=by
  refine ⟨by rw [List.length_set];exact hW,fun p' hp=>?_,fun p' hp=>?_,fun p' hp=>?_⟩
  ·obtain ⟨j,hj⟩:=List.mem_iff_getElem?.1 hp
   rcases hc j p' hj with ⟨-,rfl⟩|⟨e,hj⟩
   ·refine (TyAt.grow (q:=y) hy hgr (fun b e hb=>?_)).weak (fun b hb _=>?_)
    ·obtain rfl:=Option.some.inj e
     rcases hb with hb|hb
     ·exact (h.hS i _ hb).2 rfl
     ·omega
    ·rcases hb with hb|hb
     ·exact hne i b hb
     ·exact ⟨hC b hb,fun e=>by have h9:g=b:=Option.some.inj e;omega⟩
   ·exact (((h.ho j p' hj).at_.through h1.size (fun b hb hl=>h1.block b hl (fun hs=>e (h.hD _ _ b hs hb))) (fun _ h _=>h)).grow hgr (fun b e hb=>(h.hS j b hb).2 (Option.some.inj e).symm)).weak (fun b hb _=>hne j b hb)
  ·obtain ⟨j,hj⟩:=List.mem_iff_getElem?.1 hp
   rcases hc j p' hj with ⟨-,rfl⟩|⟨e,hj⟩
   ·have hw:=(h.hv i p hi).wf
    refine ⟨hw,?_,?_⟩
    ·show RowAt W _ false (lp p.d.v.l) (.slice p.d.ad p.d.v.l.length p.d.cap)
     rw [hb.1];exact .nil _ _ _
    ·show RowAt W _ true p.d.v.e (.slice p.d.bd p.d.v.e.length p.d.dap)
     rw [hb.2];exact .nil _ _ _
   ·exact (((h.hv j p' hj).through h1.size (fun b hb hl=>h1.block b hl (fun hs=>e (h.hD _ _ b hs hb))) (fun _ h _=>h)).grow hgr (fun b e hb=>(h.hS j b hb).2 (Option.some.inj e).symm)).weak (fun b hb _=>hne j b hb)
  ·obtain ⟨j,hj⟩:=List.mem_iff_getElem?.1 hp
   rcases hc j p' hj with ⟨-,rfl⟩|⟨e,hj⟩
   ·exact h.key p (List.mem_of_getElem? hi)
   ·exact h.key p' (List.mem_of_getElem? hj)
 have he:q.v.f.set i { p.fd with t:=y.v }=(ps.set i (p.setT y)).map Ft.fd:=by
  rw [List.map_set,h.hps];rfl
 have hl:(q.v.f.set i { p.fd with t:=y.v }).length=ps.length:=by rw [List.length_set,h.len]
 refine TyAt.fields h.at_.wf h.x h.t ?_
 rw [hl,h.fd]
 exact ha.row2 (by rw [List.length_set];exact h.wide) he (fun _ _ h=>h) (fun b e=>by rw [<-Option.some.inj e];exact hSC _ h.hg)
theorem del (h:RecAt w S q g ps Sd) {s:ByteArray} (hi:fpos s q.v.f<ps.length) (hSC:∀ b,S b->C b)
 (ho:W.ownsRow 1 65 16 (.slice (some ⟨g,0,none⟩) (ps.length - 1) q.fc) (ps.length - 1) ((ps.flatMap (cellsF true)).take (fpos s q.v.f * 16)++(ps.flatMap (cellsF true)).drop ((fpos s q.v.f+1) * 16))) (hgr:w.grownBy W (some g)) :
 TRow W C true (delF q.v.f s) (.slice (some ⟨g,0,none⟩) (ps.length - 1) q.fc)/\(delF q.v.f s).length=ps.length - 1:=by
 have hd:=h.acc.del rfl (fpos s q.v.f) hi ho hgr
 have e:(ps.take (fpos s q.v.f)++ps.drop (fpos s q.v.f+1)).map Ft.fd=delF q.v.f s:=by rw [delF_eq,List.map_append,List.map_take,List.map_drop,h.hps]
 have hl:(ps.take (fpos s q.v.f)++ps.drop (fpos s q.v.f+1)).length=ps.length - 1:=by rw [List.length_append,List.length_take,List.length_drop];omega
 have hw:=h.wide
 refine ⟨hd.row2 (by rw [hl];omega) e.symm (fun b _ hb=>hSC b hb) (fun b e=>by rw [<-Option.some.inj e];exact hSC _ h.hg),?_⟩
 rw [<-e,List.length_map,hl]
end RecAt
end Go.Proofs.YtgnonbdkmmkdgaaGreatDoor
namespace Go.Proofs.YtgnonbdkmmkdgaaGreatDoor
open Go.RowKit Gx
structure RB (w:World) (S:Nat->Prop) (X M Z:Array Value) (W:World):Prop where
 k:KpS S w W
 s:w.heap.size+2<W.heap.size
 bt:W.heap[w.heap.size]?=some (.cells X 27)
 bm:W.heap[w.heap.size+1]?=some (.cells M 55)
 res:W.heap[w.heap.size+2]?=some (.cells Z 27)
namespace RB
variable {w W W':World} {S:Nat->Prop} {X X' M Z:Array Value}
theorem grow (h:RB w S X M Z W) {r:Option Nat} (hg:W.grownBy W' r) (hr:∀ b,r=some b->(b<w.heap.size/\S b)\/w.heap.size+2<b):RB w S X M Z W':=by
 have hs:=h.s
 have hc:∀ k,k<W.heap.size->w.heap.size<=k->k<=w.heap.size+2->W'.heap[k]?=W.heap[k]?:=fun k hk h1 h2=>hg.block k hk (fun e=>by rcases hr k e.symm with h|h<;>omega)
 exact ⟨h.k.grown hg (fun b e hb=>by rcases hr b e with h|h<;>first|exact h.2|omega),Nat.lt_of_lt_of_le h.s hg.size,(hc _ (by omega) (by omega) (by omega)).trans h.bt,(hc _ (by omega) (by omega) (by omega)).trans h.bm,(hc _ (by omega) (by omega) (by omega)).trans h.res⟩
theorem keep (h:RB w S X M Z W) (hb:Below W.heap.size W W'):RB w S X M Z W':=h.grow (grown_none hb) (fun _ e=>absurd e (by simp))
theorem setT (h:RB w S X M Z W) (hg:W.grownBy W' (some w.heap.size)) (hc:W'.heap[w.heap.size]?=some (.cells X' 27)):RB w S X' M Z W':=by
 have hs:=h.s
 have hk:∀ k,k<W.heap.size->k≠w.heap.size->W'.heap[k]?=W.heap[k]?:=fun k hk h1=>hg.block k hk (fun e=>h1 (Option.some.inj e))
 exact ⟨h.k.grown hg (fun b e hb=>by have:=Option.some.inj e;omega),Nat.lt_of_lt_of_le h.s hg.size,hc,(hk _ (by omega) (by omega)).trans h.bm,(hk _ (by omega) (by omega)).trans h.res⟩
theorem kps (h:RB w S X M Z W) {T:Nat->Prop} (hk:KpS T W W') (hT:∀ b,T b->b<w.heap.size/\S b):RB w S X M Z W':=by
 have hs:=h.s
 have hc:∀ k,k<W.heap.size->w.heap.size<=k->W'.heap[k]?=W.heap[k]?:=fun k hk' h1=>hk.block k hk' (fun ht=>by have:=(hT k ht).1;omega)
 exact ⟨h.k.trans hk (fun b _ ht=>(hT b ht).2),Nat.lt_of_lt_of_le h.s hk.size,(hc _ (by omega) (by omega)).trans h.bt,(hc _ (by omega) (by omega)).trans h.bm,(hc _ (by omega) (by omega)).trans h.res⟩
theorem fin (h:RB w S X M Z W) (hg:W.grownBy W' (some (w.heap.size+2))):KpS S w W':=h.k.grown hg (fun b e hb=>by have:=Option.some.inj e;omega)
theorem below (h:RB w (fun _=>False) X M Z W):Below w.heap.size w W:=h.k.below (Nat.le_refl _) (fun _ hb=>hb.elim)
theorem weak (h:RB w (fun _=>False) X M Z W):RB w S X M Z W:=⟨h.k.trans (T:=fun _=>False) KpS.refl (fun _ _ h=>h.elim) |> fun k=>⟨k.os,k.tape,k.output,k.size,fun b hb hn=>k.block b hb (fun h=>h)⟩,h.s,h.bt,h.bm,h.res⟩
theorem start (w:World) (S:Nat->Prop) (X M:Array Value):RB w S X M #[.int .i64 0,.int .i64 0,.int .i64 0,.slice none 0 0,.slice none 0 0,.slice none 0 0,.string ⟨#[]⟩] (((w.alloc (.cells X 27)).alloc (.cells M 55)).alloc (.cells #[.int .i64 0,.int .i64 0,.int .i64 0,.slice none 0 0,.slice none 0 0,.slice none 0 0,.string ⟨#[]⟩] 27)):=by
 refine ⟨KpS.of_below ((((Below.refl _ w).alloc (Nat.le_refl _) _).alloc (by simp) _).alloc (by simp;omega) _),by simp,?_,?_,?_⟩
 ·rw [Below.heap_alloc _ _ _ (by simp;omega),Below.heap_alloc _ _ _ (by simp)]
  exact heap_alloc_new w _
 ·rw [Below.heap_alloc _ _ _ (by simp)]
  have:=heap_alloc_new (w.alloc (.cells X 27)) (.cells M 55)
  rwa [World.size_alloc] at this
 ·have:=heap_alloc_new ((w.alloc (.cells X 27)).alloc (.cells M 55)) (.cells #[.int .i64 0,.int .i64 0,.int .i64 0,.slice none 0 0,.slice none 0 0,.slice none 0 0,.string ⟨#[]⟩] 27)
  rwa [World.size_alloc,World.size_alloc] at this
end RB
theorem withF_val (q:Lt) (l:List (Fd Ty)) (ao:Option Addr) (c:Nat):(q.withF l ao c).val=.agg #[.int .i64 q.v.k,.int .i64 q.v.lo,.int .i64 q.v.hi,.slice q.xd q.v.x.length q.xc,.slice q.td q.v.t.length q.tc,.slice ao l.length c,.string q.v.n]:=rfl
theorem RecAt.cells {w:World} {S:Nat->Prop} {q:Lt} {g:Nat} {ps:List Ft} {Sd:Nat->Nat->Prop} (h:RecAt w S q g ps Sd) {i:Nat} {p:Ft} (hi:ps[i]?=some p) (j:Nat) (u:Value) (hj:(cellsF true p)[j]?=some u):w.cell? ⟨g,i * 16+j,none⟩=some u:=by
 have hjl:j<16:=by have:=(List.getElem?_eq_some_iff.1 hj).1;rw [cellsF_len] at this;exact this
 have:=h.own.cells (g:=g) rfl (i * 16+j) u ((flat_get (cellsF_len true) ps i p hi j hjl).trans hj)
 rw [Addr.add_lit,Nat.zero_add] at this
 exact this
theorem flat_ones (ps:List Ft):∀ u∈ps.flatMap (cellsF true),u.oneCell'=true:=fun u hu=>by
 obtain ⟨p,-,h⟩:=List.mem_flatMap.1 hu
 exact cellsF_one true p u h
theorem askedF_none {a:Ty} {s:ByteArray} (h:fdOf a.f s=none):askedF a s=-1:=by unfold askedF;rw [h]
theorem askedF_some {a:Ty} {s:ByteArray} {f:Fd Ty} (h:fdOf a.f s=some f):askedF a s=if f.o || f.h then -2 else (fpos s a.f:Int):=by unfold askedF;rw [h]
theorem askedF_ways (a:Ty) (s:ByteArray):(fdOf a.f s=none/\askedF a s=-1)\/askedF a s=-2\/∃ f,fdOf a.f s=some f/\f.o=false/\f.h=false/\askedF a s=(fpos s a.f:Int):=by
 cases h:fdOf a.f s with
 | none=>exact .inl ⟨rfl,askedF_none h⟩
 | some f =>
   rw [askedF_some h]
   by_cases ho:(f.o || f.h)=true
   ·rw [if_pos ho];exact .inr (.inl rfl)
   ·rw [if_neg ho]
    rw [Bool.or_eq_true,not_or] at ho
    exact .inr (.inr ⟨f,rfl,by simpa using ho.1,by simpa using ho.2,rfl⟩)
end Go.Proofs.YtgnonbdkmmkdgaaGreatDoor
namespace Go.Proofs.YtgnonbdkmmkdgaaGreatDoor
open Go.RowKit Gx
theorem rec_err (d:Nat) (q:Lt) (m:Lm) (w:World) (S C:Nat->Prop) (hq:OwnT w S q) (hs:Seen d q.v) (hk:q.v.k=10) (hm:MvAt w (fun _=>True) m) (hT:Tabs w) (hSC:∀ b,S b->C b) (hC:∀ b,w.heap.size<=b->C b) (hc:(m.k=3/\askedF q.v m.key≠-1)\/(m.k≠3/\askedF q.v m.key<0)) :
 Calls Tryz.prog 49 #[q.val,m.val] w (TypedPost (fun u=>RecR m.mv q.v u) S C w):=by
 obtain ⟨h10x,h10t,h200⟩:=hs.ten hk
 have hrb:=RB.start w (fun _=>False) #[.int .i64 q.v.k,.int .i64 q.v.lo,.int .i64 q.v.hi,.slice q.xd q.v.x.length q.xc,.slice q.td q.v.t.length q.tc,.slice q.fd q.v.f.length q.fc,.string q.v.n] #[.int .i64 m.k,.slice m.pd m.p.length m.pc,.string m.key,.string m.dst,.int .i64 m.q.v.k,.int .i64 m.q.v.n,.int .u64 m.q.v.f,.string m.q.v.s,.slice m.q.ad m.q.v.l.length m.q.cap,.slice m.q.bd m.q.v.e.length m.q.dap]
 have hqt:TyAt w (fun _=>True) q:=hq.at_.weak (fun _ _ _=>trivial)
 unfold Lt.val Lm.val
 obtain ⟨nx,hnx⟩:∃ m,q.v.x.length=m:=⟨_,rfl⟩
 obtain ⟨nt,hnt⟩:∃ m,q.v.t.length=m:=⟨_,rfl⟩
 obtain ⟨nf,hnf⟩:∃ m,q.v.f.length=m:=⟨_,rfl⟩
 rw [hnx,hnt,hnf] at hrb ⊢
 have HNX:=hid hnx
 have HNT:=hid hnt
 have HNF:=hid hnf
 have HQ:=hid hq
 have HQT:=hid hqt
 have HM:=hid hm
 have HT:=hid hT
 have HS:=hid hs
 have HSC:=hid hSC
 have HC:=hid hC
 have HX0:=hid h10x
 have HT0:=hid h10t
 have H200:nf<=200:=by rw [<-hnf];exact h200
 clear hnx hnt hnf hq hqt hm hT hs hSC hC hk h10x h10t h200
 obtain ⟨I,hI⟩:∃ I,askedF q.v m.key=I:=⟨_,rfl⟩
 have hI2:I<0->I=-1\/I=-2:=fun h=>by
  rw [<-hI] at h ⊢
  rcases askedF_ways q.v m.key with ⟨-,h1⟩|h1|⟨f,-,-,-,h1⟩<;>omega
 rw [hI] at hc
 have HI:=hid hI
 have HC2:=hid hc
 have HI2:=hid hI2
 clear hI hc hI2
 go_enter Tryz.func49,Tryz.ntmps49
 go_upto_region 1 with fail
 generalize World.alloc (World.alloc (World.alloc w _) _) _=w1 at hrb ⊢
 have HR:=hid hrb
 clear hrb
 obtain ⟨a0,a1,a2,a3,a4,a5,a6,-⟩:=ty_cells HR.out.bt
 obtain ⟨b0,b1,b2,b3,b4,b5,b6,b7,b8,b9⟩:=ten_cells HR.out.bm
 have hask:=asked_any q m.key w1 (HQT.out.keep HR.out.below)
 unfold IntB Lt.val at hask
 rw [HNX.out,HNT.out,HNF.out] at hask
 have HASK:=hid hask
 clear hask
 go_wp2_with fail
 (with_reducible refine HASK.out.mono ?_)
 rintro e w2 ⟨rfl,hb2⟩
 have HR2:=hid (HR.out.keep hb2)
 clear a0 a1 a2 a3 a4 a5 a6 b0 b1 b2 b3 b4 b5 b6 b7 b8 b9 hb2 HR HASK
 obtain ⟨a0,a1,a2,a3,a4,a5,a6,-⟩:=ty_cells HR2.out.bt
 obtain ⟨b0,b1,b2,b3,b4,b5,b6,b7,b8,b9⟩:=ten_cells HR2.out.bm
 rw [HI.out]
 rcases HC2.out with ⟨k3,i1⟩|⟨k3,i1⟩
 ·have e3:(m.k==3)=true:=beq_iff_eq.2 k3
  have e1:(I != -1)=true:=by simp [bne_iff_ne];omega
  clear k3 i1 HC2 HI2
  obtain ⟨p0,p1,p2,p3,p4,p5,p6,pf⟩:=ty_cells HR2.out.res
  have pf0:=pf 0
  have pf1:=pf 1
  have pf2:=pf 2
  have pf3:=pf 3
  have pf4:=pf 4
  have pf5:=pf 5
  have pf6:=pf 6
  obtain ⟨W9,hW9,hr9,hg9⟩:=seven_all HR2.out.res (.int .i64 q.v.k) (.int .i64 q.v.lo) (.int .i64 q.v.hi) (.slice q.xd nx q.xc) (.slice q.td nt q.tc) (.slice q.fd nf q.fc) (.string q.v.n)
  obtain ⟨q0,q1,q2,q3,q4,q5,q6,-⟩:=ty_cells hr9
  have HW9:=hid hW9
  have HPOST:Hid (TypedPost (fun u=>RecR m.mv q.v u) S C w (.returned (.tuple #[.agg #[.int .i64 q.v.k,.int .i64 q.v.lo,.int .i64 q.v.hi,.slice q.xd nx q.xc,.slice q.td nt q.tc,.slice q.fd nf q.fc,.string q.v.n],.int .i64 9])) W9):=hid ⟨q,9,by unfold Lt.val;rw [HNX.out,HNT.out,HNF.out],(fun h=>by cases h),HR2.out.weak.fin hg9⟩
  clear hW9 hr9 hg9 pf
  go_wp2_with fail
  rw [<-HW9.out]
  exact bodyPost_ret (v:=.tuple #[.agg #[.int .i64 q.v.k,.int .i64 q.v.lo,.int .i64 q.v.hi,.slice q.xd nx q.xc,.slice q.td nt q.tc,.slice q.fd nf q.fc,.string q.v.n],.int .i64 9]) (by simp [results,Tryz.results49,go_sem,q0,q1,q2,q3,q4,q5,q6]) rfl HPOST.out
 ·have e3:(m.k==3)=false:=beq_eq_false_iff_ne.2 k3
  rcases HI2.out i1 with rfl|rfl
  ·skip
   clear k3 i1 HC2 HI2
   obtain ⟨p0,p1,p2,p3,p4,p5,p6,pf⟩:=ty_cells HR2.out.res
   have pf0:=pf 0
   have pf1:=pf 1
   have pf2:=pf 2
   have pf3:=pf 3
   have pf4:=pf 4
   have pf5:=pf 5
   have pf6:=pf 6
   obtain ⟨W9,hW9,hr9,hg9⟩:=seven_all HR2.out.res (.int .i64 q.v.k) (.int .i64 q.v.lo) (.int .i64 q.v.hi) (.slice q.xd nx q.xc) (.slice q.td nt q.tc) (.slice q.fd nf q.fc) (.string q.v.n)
   obtain ⟨q0,q1,q2,q3,q4,q5,q6,-⟩:=ty_cells hr9
   have HW9:=hid hW9
   have HPOST:Hid (TypedPost (fun u=>RecR m.mv q.v u) S C w (.returned (.tuple #[.agg #[.int .i64 q.v.k,.int .i64 q.v.lo,.int .i64 q.v.hi,.slice q.xd nx q.xc,.slice q.td nt q.tc,.slice q.fd nf q.fc,.string q.v.n],.int .i64 8])) W9):=hid ⟨q,8,by unfold Lt.val;rw [HNX.out,HNT.out,HNF.out],(fun h=>by cases h),HR2.out.weak.fin hg9⟩
   clear hW9 hr9 hg9 pf
   go_wp2_with fail
   rw [<-HW9.out]
   exact bodyPost_ret (v:=.tuple #[.agg #[.int .i64 q.v.k,.int .i64 q.v.lo,.int .i64 q.v.hi,.slice q.xd nx q.xc,.slice q.td nt q.tc,.slice q.fd nf q.fc,.string q.v.n],.int .i64 8]) (by simp [results,Tryz.results49,go_sem,q0,q1,q2,q3,q4,q5,q6]) rfl HPOST.out
  ·skip
   clear k3 i1 HC2 HI2
   obtain ⟨p0,p1,p2,p3,p4,p5,p6,pf⟩:=ty_cells HR2.out.res
   have pf0:=pf 0
   have pf1:=pf 1
   have pf2:=pf 2
   have pf3:=pf 3
   have pf4:=pf 4
   have pf5:=pf 5
   have pf6:=pf 6
   obtain ⟨W9,hW9,hr9,hg9⟩:=seven_all HR2.out.res (.int .i64 q.v.k) (.int .i64 q.v.lo) (.int .i64 q.v.hi) (.slice q.xd nx q.xc) (.slice q.td nt q.tc) (.slice q.fd nf q.fc) (.string q.v.n)
   obtain ⟨q0,q1,q2,q3,q4,q5,q6,-⟩:=ty_cells hr9
   have HW9:=hid hW9
   have HPOST:Hid (TypedPost (fun u=>RecR m.mv q.v u) S C w (.returned (.tuple #[.agg #[.int .i64 q.v.k,.int .i64 q.v.lo,.int .i64 q.v.hi,.slice q.xd nx q.xc,.slice q.td nt q.tc,.slice q.fd nf q.fc,.string q.v.n],.int .i64 11])) W9):=hid ⟨q,11,by unfold Lt.val;rw [HNX.out,HNT.out,HNF.out],(fun h=>by cases h),HR2.out.weak.fin hg9⟩
   clear hW9 hr9 hg9 pf
   go_wp2_with fail
   rw [<-HW9.out]
   exact bodyPost_ret (v:=.tuple #[.agg #[.int .i64 q.v.k,.int .i64 q.v.lo,.int .i64 q.v.hi,.slice q.xd nx q.xc,.slice q.td nt q.tc,.slice q.fd nf q.fc,.string q.v.n],.int .i64 11]) (by simp [results,Tryz.results49,go_sem,q0,q1,q2,q3,q4,q5,q6]) rfl HPOST.out
theorem ofC_all (K:List ByteArray) (hKn:K.length<=2000):∀ d,OfC K d
 | 0=>fun _ _ hg=>hg.elim
 | d+1=>fun q w hg hki hq hT=>by
   by_cases h5:q.v.k=5
   ·exact of_list_any K hKn d (ofC_all K hKn d) q w hg hki hq hT h5
   ·by_cases h6:q.v.k=6
    ·exact of_table_any K d (ofC_all K hKn d) q w hg hki hq hT h6
    ·exact of_leaf_any K d q w hg hki hq hT h5 h6
def OfOPost (v:V) (w:World) (e:Ending) (w':World):Prop:=∃ y:Lt,e=.returned (.tuple #[y.val,.int .i64 (chkV v)])/\(chkV v=0->OfR v y.v)/\TyAt w' (fun b=>w.heap.size<=b) y/\Below w.heap.size w w'
theorem ofO_any (q:Loc) (w:World) (hq:VAt w (fun _=>True) q) (hT:Tabs w):Calls Tryz.prog 72 #[q.val] w (OfOPost q.v w):=by
 have hom:=OM.start w #[.int .i64 q.v.k,.int .i64 q.v.n,.int .u64 q.v.f,.string q.v.s,.slice q.ad q.v.l.length q.cap,.slice q.bd q.v.e.length q.dap]
 have hchk:=fun (W:World) (hb:Below w.heap.size w W)=>Check_any q W (hT.keep hb) (hq.keep hb)
 unfold CheckPost at hchk
 unfold Loc.val at hchk ⊢
 have HCHK:=hid hchk
 have HQ:=hid hq
 have HT:=hid hT
 obtain ⟨c,hc⟩:∃ c,chkV q.v=c:=⟨_,rfl⟩
 rw [hc] at HCHK
 have HC:=hid hc
 clear hchk hq hT hc
 go_enter Tryz.func72,Tryz.ntmps72
 go_upto_region 1 with fail
 generalize World.alloc (World.alloc w _) _=w1 at hom ⊢
 have HO:=hid hom
 clear hom
 obtain ⟨a0,a1,a2,a3,a4,a5,-⟩:=six_cells HO.out.bx
 go_wp2_with fail
 (with_reducible refine (HCHK.out _ HO.out.g).mono ?_)
 rintro e w2 ⟨rfl,hb2⟩
 have HO2:=hid (HO.out.keep hb2)
 clear hb2 a0 a1 a2 a3 a4 a5 HO
 by_cases h0:c=0
 ·subst h0
  obtain ⟨K,hK1,hK2⟩:=good_keys HC.out
  have hof:=ofC_all K hK2 20 q w2 (chk_gd 20 q.v 0 HC.out) hK1 (HQ.out.keep HO2.out.g) (HT.out.keep HO2.out.g)
  unfold OfPost at hof
  unfold Loc.val at hof
  have HOF:=hid hof
  clear hof hK1 hK2
  obtain ⟨a0,a1,a2,a3,a4,a5,-⟩:=six_cells HO2.out.bx
  go_wp2_with fail
  (with_reducible refine HOF.out.mono ?_)
  rintro e w5 ⟨z,rfl,hz,hza,hb5⟩
  unfold Lt.val
  have HR:=hid (HO2.out.keep hb5)
  have HZ:=hid hz
  have HZA:=hid (hza.weak (C:=fun b=>w.heap.size+1<b) (fun b hb _=>by have:=HO2.out.vlt;omega))
  obtain ⟨zx,hzx⟩:∃ m,z.v.x.length=m:=⟨_,rfl⟩
  obtain ⟨zt,hzt⟩:∃ m,z.v.t.length=m:=⟨_,rfl⟩
  obtain ⟨zf,hzf⟩:∃ m,z.v.f.length=m:=⟨_,rfl⟩
  rw [hzx,hzt,hzf]
  have HZX:=hid hzx
  have HZT:=hid hzt
  have HZF:=hid hzf
  clear hz hza hb5 a0 a1 a2 a3 a4 a5 HO2 hzx hzt hzf HOF
  obtain ⟨p0,p1,p2,p3,p4,p5,p6,pf⟩:=ty_cells HR.out.res
  have pf0:=pf 0
  have pf1:=pf 1
  have pf2:=pf 2
  have pf3:=pf 3
  have pf4:=pf 4
  have pf5:=pf 5
  have pf6:=pf 6
  obtain ⟨W9,hW9,hr9,hg9⟩:=seven_all HR.out.res (.int .i64 z.v.k) (.int .i64 z.v.lo) (.int .i64 z.v.hi) (.slice z.xd zx z.xc) (.slice z.td zt z.tc) (.slice z.fd zf z.fc) (.string z.v.n)
  obtain ⟨q0,q1,q2,q3,q4,q5,q6,-⟩:=ty_cells hr9
  have HW9:=hid hW9
  have HPOST:Hid (OfOPost q.v w (.returned (.tuple #[.agg #[.int .i64 z.v.k,.int .i64 z.v.lo,.int .i64 z.v.hi,.slice z.xd zx z.xc,.slice z.td zt z.tc,.slice z.fd zf z.fc,.string z.v.n],.int .i64 0])) W9):=hid ⟨z,by unfold Lt.val;rw [HZX.out,HZT.out,HZF.out,HC.out];rfl,fun _=>HZ.out.o,(HZA.out.grow hg9 (fun b e hb=>by have:=Option.some.inj e;omega)).weak (fun b hb _=>by omega),HR.out.g.grown hg9 (by have:=HR.out.vlt;omega) (fun b e=>by have:=Option.some.inj e;omega)⟩
  clear hW9 hr9 hg9 pf
  go_wp2_with fail
  rw [<-HW9.out]
  exact bodyPost_ret (v:=.tuple #[.agg #[.int .i64 z.v.k,.int .i64 z.v.lo,.int .i64 z.v.hi,.slice z.xd zx z.xc,.slice z.td zt z.tc,.slice z.fd zf z.fc,.string z.v.n],.int .i64 0]) (by simp [results,Tryz.results72,go_sem,q0,q1,q2,q3,q4,q5,q6]) rfl HPOST.out
 ·have e0:((c:Int) != 0)=true:=by simp;omega
  have HR:=HO2
  obtain ⟨p0,p1,p2,p3,p4,p5,p6,pf⟩:=ty_cells HR.out.res
  have pf0:=pf 0
  have pf1:=pf 1
  have pf2:=pf 2
  have pf3:=pf 3
  have pf4:=pf 4
  have pf5:=pf 5
  have pf6:=pf 6
  obtain ⟨W9,hW9,hr9,hg9⟩:=seven_all HR.out.res (.int .i64 0) (.int .i64 0) (.int .i64 0) (.slice none 0 0) (.slice none 0 0) (.slice none 0 0) (.string ⟨#[]⟩)
  obtain ⟨q0,q1,q2,q3,q4,q5,q6,-⟩:=ty_cells hr9
  have HW9:=hid hW9
  have HN0:=hid h0
  have HPOST:Hid (OfOPost q.v w (.returned (.tuple #[.agg #[.int .i64 0,.int .i64 0,.int .i64 0,.slice none 0 0,.slice none 0 0,.slice none 0 0,.string ⟨#[]⟩],.int .i64 c])) W9):=hid ⟨⟨.zero,none,0,none,0,none,0⟩,by rw [HC.out];rfl,fun h=>absurd h (by rw [HC.out];exact HN0.out),TyAt.zero _ _ _ _ _ _ _ _,HR.out.g.grown hg9 (by have:=HR.out.vlt;omega) (fun b e=>by have:=Option.some.inj e;omega)⟩
  clear hW9 hr9 hg9 pf h0
  go_wp2_with fail
  rw [<-HW9.out]
  exact bodyPost_ret (v:=.tuple #[.agg #[.int .i64 0,.int .i64 0,.int .i64 0,.slice none 0 0,.slice none 0 0,.slice none 0 0,.string ⟨#[]⟩],.int .i64 c]) (by simp [results,Tryz.results72,go_sem,q0,q1,q2,q3,q4,q5,q6]) rfl HPOST.out
end Go.Proofs.YtgnonbdkmmkdgaaGreatDoor
