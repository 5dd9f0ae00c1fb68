/-
  Lemmas for the statement: plain laws, and what functions answer; the conditions stand in each.
-/
import Derived.Test.YtgnonbdkmmkdgaaGreatDoorChainTypedAllQ18
set_option linter.unusedVariables false
set_option linter.unusedSimpArgs false
set_option maxHeartbeats 16000000
set_option maxRecDepth 100000
open Go.Lib (hid)
namespace Go.Proofs.YtgnonbdkmmkdgaaGreatDoor
open Go.RowKit Gx
def zeroLoc:Loc:=⟨.zero,none,0,none,0⟩
theorem zeroLoc_at (w:World):VAt w (fun _=>True) zeroLoc:=⟨V.wf_zero,.nil _ _ _,.nil _ _ _⟩
def nsAt (l:List (Fd Ty)) (k:Nat) (f:Fd Ty):List ByteArray:=match prevB l k with|none=>[f.n]|some g=>[g.n,f.n]
theorem nsAt_e (l:List (Fd Ty)) (k:Nat) (f:Fd Ty):namesL none (nsAt l k f)=fieldE ((prevB l k).map Fd.n) f:=by
 unfold nsAt
 cases prevB l k<;>rfl
theorem prevB_some {α:Type} {l:List α} {k:Nat} (h:0<k) (hk:k<=l.length):∃ g,prevB l k=some g/\l[k - 1]?=some g:=by
 obtain ⟨g,hg⟩:∃ g,l[k - 1]?=some g:=⟨_,List.getElem?_eq_getElem (by omega)⟩
 exact ⟨g,by unfold prevB;rw [if_neg (by omega)];exact hg,hg⟩
theorem nsAt_len {l:List (Fd Ty)} {k:Nat} {f:Fd Ty} (hf:l[k]?=some f):((nsAt l k f).length:Int)=min ((k:Int)+1) 2:=by
 have hlt:=(List.getElem?_eq_some_iff.1 hf).1
 rcases Nat.eq_zero_or_pos k with h|h
 ·subst h;rfl
 ·obtain ⟨g,hg,-⟩:=prevB_some h (Nat.le_of_lt hlt)
  unfold nsAt
  rw [hg]
  show (2:Int)=_
  omega
theorem nsAt_get {l:List (Fd Ty)} {k:Nat} {f:Fd Ty} (hf:l[k]?=some f) {j:Nat} {s:ByteArray} (hj:(nsAt l k f)[j]?=some s):j<=1/\∃ x,l[k - 1+j]?=some x/\x.n=s:=by
 have hlt:=(List.getElem?_eq_some_iff.1 hf).1
 rcases Nat.eq_zero_or_pos k with h|h
 ·subst h
  unfold nsAt prevB at hj
  rw [if_pos rfl] at hj
  match j,hj with
  | 0,hj=>exact ⟨by omega,f,hf,by simpa using hj⟩
 ·obtain ⟨g,hg,hg2⟩:=prevB_some h (Nat.le_of_lt hlt)
  unfold nsAt at hj
  rw [hg] at hj
  match j,hj with
  | 0,hj=>exact ⟨by omega,g,hg2,by simpa using hj⟩
  | 1,hj=>exact ⟨by omega,f,by rw [Nat.sub_add_cancel h];exact hf,by simpa using hj⟩
theorem fields_any (ad:Option Addr) (cap:Nat) (l:List (Fd Ty)) (w:World) (h:TRow w (fun _=>True) true l (.slice ad l.length cap)) (hT:Tabs w) :
 Calls Tryz.prog 66 #[.slice ad l.length cap] w (IntB (fieldsF l) w):=by
 have hbn:=h.bound
 obtain ⟨n,hn⟩:∃ n,l.length=n:=⟨_,rfl⟩
 have HN:=hid hn
 have hb1:=(Below.refl w.heap.size w).alloc (Nat.le_refl _) (.cells #[.slice ad n cap] 25)
 have hc1:=heap_alloc_new w (.cells #[.slice ad n cap] 25)
 have H:=hid (h.keep' hb1)
 have HT:=hid (hT.keep hb1)
 have HB1:=hid hb1
 rw [hn] at hbn ⊢
 have HF:Hid (fieldsF l=if 200<n then 2 else fieldsL none l):=hid (by unfold fieldsF;rw [hn])
 clear h hT hn hb1
 go_enter Tryz.func66,Tryz.ntmps66
 go_upto_region 1 with fail
 generalize World.alloc w _=w1 at hc1 H HT HB1 ⊢
 generalize hLb:w.heap.size=Lb at hc1 ⊢
 obtain ⟨i0,-⟩:=cell_one hc1
 have HLB:=hid hc1
 clear hc1 hLb
 by_cases h2:200<n
 ·have HR:Hid (IntB (fieldsF l) w (.returned (.int .i64 2)) w1):=hid (by rw [HF.out,if_pos h2];exact ⟨rfl,HB1.out⟩)
  have c3:(200:Int)<(n:Int):=by omega
  clear HF HB1
  go_wp2_with fail
  try go_ret
  exact HR.out
 have HL:Hid (fieldsF l=fieldsL none l):=hid (by rw [HF.out,if_neg h2])
 have c3:¬ (200:Int)<(n:Int):=by omega
 clear HF
 go_wp2_with fail
 clear i0
 go_loopw [12] (fun v12 wr=>∃ k:Nat,k<=n/\v12=.int .i64 k/\Hid (fieldsF l=fieldsL ((prevB l k).map Fd.n) (l.drop k))/\Hid (Below w1.heap.size w1 wr)) (fun v12 _=>n - (intOf v12).toNat)
 case atStart=>exact ⟨0,Nat.zero_le _,rfl,hid (by rw [HL.out];rfl),hid (Below.refl _ _)⟩
 case round =>
  obtain ⟨k,hkn,rfl,HE,HB⟩:=hrel
  by_cases hlt:k<n
  ·obtain ⟨f,hf⟩:∃ f,l[k]?=some f:=⟨_,List.getElem?_eq_getElem (by rw [HN.out];exact hlt)⟩
   obtain ⟨b1,o1,hd1,-,hbl1,hcs⟩:=H.out.fieldF (by rw [HN.out];omega)
   subst hd1
   obtain ⟨p,hp,-,hpd,-,hpc⟩:=hcs k f hf
   obtain ⟨c0,c1,c2,c3',c4,c5,c6,c7,c8,c9,c10,c11,c12,c13,c14,c15⟩:=hpc.through (w':=wr) (HB.out.block _ hbl1)
   have hba:=((Below.refl wr.heap.size wr).alloc (Nat.le_refl _) (.cells #[.int .i64 (k:Int)] 3)).alloc (by simp) (.cells #[.string p.n,.bool p.o,.bool p.h,.int .i64 p.t.v.k,.int .i64 p.t.v.lo,.int .i64 p.t.v.hi,.slice p.t.xd p.t.v.x.length p.t.xc,.slice p.t.td p.t.v.t.length p.t.tc,.slice p.t.fd p.t.v.f.length p.t.fc,.string p.t.v.n,.int .i64 p.d.v.k,.int .i64 p.d.v.n,.int .u64 p.d.v.f,.string p.d.v.s,.slice p.d.ad p.d.v.l.length p.d.cap,.slice p.d.bd p.d.v.e.length p.d.dap] 65)
   have hib:((wr.alloc (.cells #[.int .i64 (k:Int)] 3)).alloc (.cells #[.string p.n,.bool p.o,.bool p.h,.int .i64 p.t.v.k,.int .i64 p.t.v.lo,.int .i64 p.t.v.hi,.slice p.t.xd p.t.v.x.length p.t.xc,.slice p.t.td p.t.v.t.length p.t.tc,.slice p.t.fd p.t.v.f.length p.t.fc,.string p.t.v.n,.int .i64 p.d.v.k,.int .i64 p.d.v.n,.int .u64 p.d.v.f,.string p.d.v.s,.slice p.d.ad p.d.v.l.length p.d.cap,.slice p.d.bd p.d.v.e.length p.d.dap] 65)).heap[wr.heap.size]?=_:=(Below.heap_alloc _ _ _ (by simp)).trans (heap_alloc_new wr (.cells #[.int .i64 (k:Int)] 3))
   have hfb:=heap_alloc_new (wr.alloc (.cells #[.int .i64 (k:Int)] 3)) (.cells #[.string p.n,.bool p.o,.bool p.h,.int .i64 p.t.v.k,.int .i64 p.t.v.lo,.int .i64 p.t.v.hi,.slice p.t.xd p.t.v.x.length p.t.xc,.slice p.t.td p.t.v.t.length p.t.tc,.slice p.t.fd p.t.v.f.length p.t.fc,.string p.t.v.n,.int .i64 p.d.v.k,.int .i64 p.d.v.n,.int .u64 p.d.v.f,.string p.d.v.s,.slice p.d.ad p.d.v.l.length p.d.cap,.slice p.d.bd p.d.v.e.length p.d.dap] 65)
   rw [World.size_alloc] at hfb
   have HBa:Hid (Below w1.heap.size w1 ((wr.alloc (.cells #[.int .i64 (k:Int)] 3)).alloc (.cells #[.string p.n,.bool p.o,.bool p.h,.int .i64 p.t.v.k,.int .i64 p.t.v.lo,.int .i64 p.t.v.hi,.slice p.t.xd p.t.v.x.length p.t.xc,.slice p.t.td p.t.v.t.length p.t.tc,.slice p.t.fd p.t.v.f.length p.t.fc,.string p.t.v.n,.int .i64 p.d.v.k,.int .i64 p.d.v.n,.int .u64 p.d.v.f,.string p.d.v.s,.slice p.d.ad p.d.v.l.length p.d.cap,.slice p.d.bd p.d.v.e.length p.d.dap] 65))):=hid (HB.out.trans (hba.mono HB.out.size))
   have hE:=HE.out
   rw [drop_at hf,fieldsL_cons] at hE
   have HE2:=hid hE
   have r1:(0:Int)<=(k:Int):=by omega
   have r2:(k:Int)<(n:Int):=by omega
   have HX:=hid hf
   have HP:=hid hp
   have HPD:=hid hpd
   have HCS:Hid (∀ (j:Nat) (x:Fd Ty),l[j]?=some x->x.n.size<=140737488351232):=hid (fun j x hj=>by
    obtain ⟨p',hp',-,-,hs',-⟩:=hcs j x hj
    rw [<-hp'];exact hs')
   clear hcs hf hp hpd hpc hba hE HE
   go_upto_region 6 with fail
   generalize World.alloc (World.alloc wr _) _=wx at hib hfb HBa ⊢
   generalize hxbe:wr.heap.size=xb at hib hfb ⊢
   clear hxbe c0 c1 c2 c3' c4 c5 c6 c7 c8 c9 c10 c11 c12 c13 c14 c15
   obtain ⟨z0,-⟩:=cell_one hib
   have hLx:wx.heap[Lb]?=_:=(HBa.out.block _ (Array.getElem?_eq_some_iff.1 HLB.out).1).trans HLB.out
   obtain ⟨z1,-⟩:=cell_one hLx
   obtain ⟨nn,hnn⟩:∃ nn,(nsAt l k f).length=nn:=⟨_,rfl⟩
   have hmin:=nsAt_len HX.out
   rw [hnn] at hmin
   have hmin2:min ((k:Int)+1) 2=(nn:Int):=hmin.symm
   have hcall:=names_any (.pointer (some ⟨Lb,0,none⟩)) (.pointer (some ⟨xb,0,none⟩)) (nsAt l k f) (by have:=hmin;omega) wx (HT.out.keep HBa.out) (fun j s W hj hW=>by
    obtain ⟨h1,x,hx,rfl⟩:=nsAt_get HX.out hj
    have hl':(wx.heap[Lb]?=some (.cells #[.slice (some ⟨b1,o1,none⟩) l.length cap] 25)):=by rw [HN.out];exact hLx
    refine ⟨HCS.out _ x hx,fields1_any Lb xb _ cap l k j x W (H.out.keep' (HBa.out.trans (hW.mono HBa.out.size))) (cell_one ((hW.block _ (Array.getElem?_eq_some_iff.1 hl').1).trans hl')).1 (cell_one ((hW.block _ (Array.getElem?_eq_some_iff.1 hib).1).trans hib)).1 (by omega) hx⟩)
   rw [hnn,nsAt_e] at hcall
   have HC1:=hid hcall
   have HFB:=hid hfb
   obtain ⟨E1,hE1⟩:∃ E1,fieldE ((prevB l k).map Fd.n) f=E1:=⟨_,rfl⟩
   have hE:=HE2.out
   rw [hE1] at hE HC1
   have HE3:=hid hE
   clear hcall hfb hib hLx hE hE1 HE2 hmin hnn
   go_wp2_with fail
   (with_reducible refine HC1.out.mono ?_)
   rintro e w2 ⟨rfl,hb2⟩
   have HB2:=hid (HBa.out.trans (hb2.mono HBa.out.size))
   have HFB2:=hid ((hb2.block _ (Array.getElem?_eq_some_iff.1 HFB.out).1).trans HFB.out)
   clear hb2 HC1 HFB HBa z0 z1 hmin2
   by_cases he1:E1=0
   rotate_left
   ·have HR:Hid (IntB (fieldsF l) w (.returned (.int .i64 E1)) w2):=hid (by have hE:=HE3.out;rw [if_pos he1] at hE;rw [hE];exact ⟨rfl,HB1.out.trans (HB2.out.mono HB1.out.size)⟩)
    have c4:(E1==0)=false:=beq_eq_false_iff_ne.2 he1
    have c5:(E1 != 0)=true:=by rw [bne,c4];rfl
    clear HE3 HB2 HFB2 HX HP HPD HCS he1
    go_wp2_with fail
    try go_ret
    exact HR.out
   have hE:=HE3.out
   rw [if_neg (fun g=>g he1)] at hE
   subst he1
   obtain ⟨z0,z1,z2,z3,z4,z5,z6,z7,z8,z9,z10,z11,z12,z13,z14,z15⟩:=FcAt.box HFB2.out
   have hpd:p.d.v=f.d:=by rw [<-HP.out];rfl
   have hph:p.h=f.h:=by rw [<-HP.out];rfl
   have hcall:=Check_any p.d w2 (HT.out.keep HB2.out) (HPD.out.keep HB2.out)
   unfold CheckPost at hcall
   rw [hpd] at hcall
   unfold Loc.val at hcall
   rw [<-hpd] at hE hcall
   have HC2:=hid hcall
   obtain ⟨E2,hE2⟩:∃ E2,chkV p.d.v=E2:=⟨_,rfl⟩
   rw [hE2] at HC2 hE
   have HE4:=hid hE
   have HPH:=hid hph
   clear hcall hE hE2 HE3 hpd hph
   go_wp2_with fail
   (with_reducible refine HC2.out.mono ?_)
   rintro e w3 ⟨rfl,hb3⟩
   have HB3:=hid (HB2.out.trans (hb3.mono HB2.out.size))
   have HFB3:=hid ((hb3.block _ (Array.getElem?_eq_some_iff.1 HFB2.out).1).trans HFB2.out)
   clear hb3 HC2 HFB2 HB2 z0 z1 z2 z3 z4 z5 z6 z7 z8 z9 z10 z11 z12 z13 z14 z15
   by_cases he2:E2=0
   rotate_left
   ·have HR:Hid (IntB (fieldsF l) w (.returned (.int .i64 (E2:Int))) w3):=hid (by have hE:=HE4.out;rw [if_pos he2] at hE;rw [hE];exact ⟨rfl,HB1.out.trans (HB3.out.mono HB1.out.size)⟩)
    have c4:((E2:Int)==0)=false:=beq_eq_false_iff_ne.2 (by omega)
    have c5:((E2:Int) != 0)=true:=by rw [bne,c4];rfl
    clear HE4 HB3 HFB3 HX HP HPD HCS he2
    go_wp2_with fail
    try go_ret
    exact HR.out
   have hE:=HE4.out
   rw [if_neg (fun g=>g he2)] at hE
   subst he2
   obtain ⟨z0,z1,z2,z3,z4,z5,z6,z7,z8,z9,z10,z11,z12,z13,z14,z15⟩:=FcAt.box HFB3.out
   obtain ⟨ph,hph⟩:∃ ph,p.h=ph:=⟨_,rfl⟩
   rw [hph] at z2
   have hcall:=Compare_any (SizeOf.sizeOf p.d.v) p.d zeroLoc w3 (Nat.le_refl _) (HPD.out.keep HB3.out) (zeroLoc_at w3)
   obtain ⟨E3,hE3⟩:∃ E3,cmpD (SizeOf.sizeOf p.d.v) p.d.v .zero=E3:=⟨_,rfl⟩
   rw [show zeroLoc.v=.zero from rfl,hE3] at hcall
   rw [show zeroLoc.val=.agg #[.int .i64 0,.int .i64 0,.int .u64 0,.string ⟨#[]⟩,.slice none 0 0,.slice none 0 0] from rfl] at hcall
   unfold Loc.val at hcall
   have HC3:=hid hcall
   have hpd:p.d.v=f.d:=by rw [<-HP.out];rfl
   rw [<-HPH.out,hE3,hph] at hE
   have HE5:=hid hE
   have H1:Hid (¬ (ph=false/\E3≠0)->fieldsF l=fieldsL ((prevB l (k+1)).map Fd.n) (l.drop (k+1))):=hid (fun h=>by
    have hE:=HE5.out
    rw [if_neg h] at hE
    rw [hE,prevB_succ,HX.out];rfl)
   have HZ:Hid (∀ W,Below w3.heap.size w3 W->ph=false->E3≠0->IntB (fieldsF l) w (.returned (.int .i64 10)) W):=hid (fun W hW h1 h2=>by
    have hE:=HE5.out
    rw [if_pos ⟨h1,h2⟩] at hE
    rw [hE];exact ⟨rfl,HB1.out.trans ((HB3.out.trans (hW.mono HB3.out.size)).mono HB1.out.size)⟩)
   clear hcall hE hE3 hph hpd HE4 HPH HX HP HPD HCS HFB3 HE5
   cases ph with
   | true =>
     have H2:Hid (fieldsF l=fieldsL ((prevB l (k+1)).map Fd.n) (l.drop (k+1))):=hid (H1.out (fun h=>by cases h.1))
     clear H1 HZ HC3
     go_wp2_with fail
     go_roundw
     case rel=>exact ⟨k+1,by omega,by go_num,H2,HB3⟩
     case measure=>simp [intOf];omega
   | false =>
     have HZf:Hid (∀ W,Below w3.heap.size w3 W->E3≠0->IntB (fieldsF l) w (.returned (.int .i64 10)) W):=hid (fun W hW h2=>HZ.out W hW rfl h2)
     have H1f:Hid (E3=0->fieldsF l=fieldsL ((prevB l (k+1)).map Fd.n) (l.drop (k+1))):=hid (fun h0=>H1.out (fun h=>h.2 h0))
     clear HZ H1
     go_wp2_with fail
     (with_reducible refine HC3.out.mono ?_)
     rintro e w4 ⟨rfl,hb4⟩
     have HB4:=hid (HB3.out.trans (hb4.mono HB3.out.size))
     have HZ4:=hid (HZf.out w4 hb4)
     clear hb4 HZf HC3 HB3 z0 z1 z2 z3 z4 z5 z6 z7 z8 z9 z10 z11 z12 z13 z14 z15
     by_cases he3:E3=0
     ·have H2:Hid (fieldsF l=fieldsL ((prevB l (k+1)).map Fd.n) (l.drop (k+1))):=hid (H1f.out he3)
      subst he3
      clear H1f HZ4
      go_wp2_with fail
      go_roundw
      case rel=>exact ⟨k+1,by omega,by go_num,H2,HB4⟩
      case measure=>simp [intOf];omega
     ·have HR:=hid (HZ4.out he3)
      have c4:(E3==0)=false:=beq_eq_false_iff_ne.2 he3
      have c5:(E3 != 0)=true:=by rw [bne,c4];rfl
      clear H1f HZ4 he3
      go_wp2_with fail
      try go_ret
      exact HR.out
  ·obtain rfl:k=n:=by omega
   have HR:Hid (IntB (fieldsF l) w (.returned (.int .i64 0)) wr):=hid (by rw [HE.out,List.drop_of_length_le (by rw [HN.out];exact Nat.le_refl _),fieldsL_nil];exact ⟨rfl,HB1.out.trans (HB.out.mono HB1.out.size)⟩)
   clear HE HB
   go_wp2_with fail
   try go_ret
   exact HR.out
end Go.Proofs.YtgnonbdkmmkdgaaGreatDoor
