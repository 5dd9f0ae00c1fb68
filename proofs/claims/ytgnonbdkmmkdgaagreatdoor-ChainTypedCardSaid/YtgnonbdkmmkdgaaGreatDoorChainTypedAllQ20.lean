/-
  Lemmas for the statement: plain laws, and what functions answer; the conditions stand in each.
-/
import Derived.Test.YtgnonbdkmmkdgaaGreatDoorChainTypedAllQ11
import Derived.Test.YtgnonbdkmmkdgaaGreatDoorChainTypedAllQ19
set_option linter.unusedVariables false
set_option linter.unusedSimpArgs false
set_option maxHeartbeats 16000000
set_option maxRecDepth 100000
open Go.Lib (hid)
namespace Go.Proofs.YtgnonbdkmmkdgaaGreatDoor
open Go.RowKit Gx
def CAt (w:World) (C:Nat) (r:Lt) (m:Nat):Prop:=w.heap[C]?=some (.cells #[.slice none 0 0,.int .i64 r.v.k,.int .i64 r.v.lo,.int .i64 r.v.hi,.slice r.xd r.v.x.length r.xc,.slice r.td r.v.t.length r.tc,.slice r.fd r.v.f.length r.fc,.string r.v.n,.int .i64 (m:Int)] 104)
theorem gr_below {w w':World} (h:Below w.heap.size w w') (row:Option Nat):w.grownBy w' row:=⟨h.os,h.tape,h.output,h.size,fun k hk _=>h.block k hk⟩
def TabsC (C:Nat) (w:World):Prop:=∀ w',w.grownBy w' (some C)->Tabs w'
theorem TabsC.step {C:Nat} {w w':World} (h:TabsC C w) (g:w.grownBy w' (some C)):TabsC C w':=fun w'' g'=>h w'' (g.trans g')
theorem TabsC.here {C:Nat} {w:World} (h:TabsC C w):Tabs w:=h w (gr_below (Below.refl _ w) _)
def LookPost (code:Int) (m:Nat) (C:Nat) (r:Lt) (w:World) (e:Ending) (w':World):Prop:=e=.returned (.int .i64 code)/\CAt w' C r m/\w.grownBy w' (some C)
theorem CAt.below {w w':World} {C:Nat} {r:Lt} {m:Nat} (h:CAt w C r m) (hb:Below w.heap.size w w'):CAt w' C r m:=(hb.block C (Array.getElem?_eq_some_iff.1 h).1).trans h
theorem cat_set {w:World} {C:Nat} {r:Lt} {m:Nat} (h:CAt w C r m):CAt (w.setCell ⟨C,8,none⟩ (.int .i64 ((m:Int)+1))) C r (m+1):=by
 unfold CAt at h ⊢
 have e:((m+1:Nat):Int)=(m:Int)+1:=by omega
 rw [e]
 simp [World.setCell,Array.getElem?_modify,h]
theorem cat_cell {w:World} {C:Nat} {r:Lt} {m:Nat} (h:CAt w C r m):w.cell? ⟨C,8,none⟩=some (.int .i64 (m:Int))/\w.cell? ⟨C,0,none⟩=some (.slice none 0 0)/\w.frozen? ⟨C,8,none⟩=false:=by
 unfold CAt at h
 exact ⟨by simp [World.cell?,h],by simp [World.cell?,h],by simp [World.frozen?,h]⟩
theorem def_none (C:Nat) (s:ByteArray) (w:World) (hc:w.cell? ⟨C,0,none⟩=some (.slice none 0 0)):Calls Tryz.prog 67 #[.pointer (some ⟨C,0,none⟩),.string s] w (IntB (-1) w):=by
 have hlt:=World.block_lt_of_cell? w _ hc
 have hb:=(Below.refl w.heap.size w).alloc (Nat.le_refl _) (.cells #[.string s] 9)
 have hc1:=(hb.cell (p:=⟨C,0,none⟩) hlt).trans hc
 have HB:=hid hb
 have HI:Hid (∀ (v:Value) (W:World),Calls Tryz.prog 91 #[.slice none 0 0,v] W (fun e w'=>e=.returned (.int .i64 (-1))/\W=w')):=hid (fun v W=>by
  clear hlt hb hc1 hc HB
  go_enter Tryz.func91,Tryz.ntmps91
  go_wp2_with fail
  go_loopw [8] (fun v8 wr=>v8=.int .i64 0/\wr=W) (fun _ _=>0)
  case atStart=>exact ⟨rfl,rfl⟩
  case round =>
   obtain ⟨rfl,rfl⟩:=hrel
   go_wp2_with fail
   try go_ret
   exact ⟨rfl,rfl⟩)
 clear hlt hb hc
 go_enter Tryz.func67,Tryz.ntmps67
 go_upto_region 1 with fail
 generalize World.alloc w _=w1 at hc1 HB ⊢
 go_wp2_with fail
 (with_reducible refine (HI.out _ _).mono ?_)
 rintro e w2 ⟨rfl,rfl⟩
 go_wp2_with fail
 try go_ret
 exact ⟨rfl,HB.out⟩
theorem look_any (q:Lt) (C:Nat) (r:Lt) (m ar:Nat) (w:World) (hc:CAt w C r m) (hT:TabsC C w) (hq:TyAt w (fun k=>k≠C) q) (hm:m<=1000000) (har:ar<=1000000) :
 Calls Tryz.prog 45 #[.pointer (some ⟨C,0,none⟩),q.val,.int .i64 (ar:Int)] w (LookPost (lookP q.v ar m).1 (lookP q.v ar m).2 C r w):=by
 have hCl:=(Array.getElem?_eq_some_iff.1 hc).1
 have hb:=(Below.refl w.heap.size w).alloc (Nat.le_refl _) (.cells #[.int .i64 q.v.k,.int .i64 q.v.lo,.int .i64 q.v.hi,.slice q.xd q.v.x.length q.xc,.slice q.td q.v.t.length q.tc,.slice q.fd q.v.f.length q.fc,.string q.v.n] 27)
 have hnew:=heap_alloc_new w (.cells #[.int .i64 q.v.k,.int .i64 q.v.lo,.int .i64 q.v.hi,.slice q.xd q.v.x.length q.xc,.slice q.td q.v.t.length q.tc,.slice q.fd q.v.f.length q.fc,.string q.v.n] 27)
 have hc1:=hc.below hb
 have hq1:=hq.keep hb
 have hT1:=hT.step (gr_below hb _)
 have HCODE:Hid (∀ code w',(lookF q.v ar (m+1)=code)->CAt w' C r (m+1)->w.grownBy w' (some C)->LookPost (lookP q.v ar m).1 (lookP q.v ar m).2 C r w (.returned (.int .i64 code)) w'):=hid (fun code w' h1 h2 h3=>by subst h1;exact ⟨rfl,h2,h3⟩)
 generalize hQQ:LookPost (lookP q.v ar m).1 (lookP q.v ar m).2 C r w=QQ at HCODE ⊢
 have HQQ:=hid hQQ
 have HQV:Hid q.v.wf:=hid hq.wf
 have hgb:=gr_below hb (some C)
 unfold Lt.val
 clear hb hc hq hT hQQ
 go_enter Tryz.func45,Tryz.ntmps45
 go_upto_region 1 with fail
 generalize World.alloc w _=w1 at hnew hc1 hq1 hT1 hgb ⊢
 generalize hTb:w.heap.size=Tb at hnew hCl ⊢
 have hne:Tb≠C:=by omega
 obtain ⟨m0,m1,m2⟩:=cat_cell hc1
 have hcs:=cat_set hc1
 have hg2:=grown_cell w1 C 8 (.int .i64 ((m:Int)+1))
 have hnew2:=(hg2.block Tb (Array.getElem?_eq_some_iff.1 hnew).1 (fun e=>hne (Option.some.inj e))).trans hnew
 have hq2:TyAt (w1.setCell ⟨C,8,none⟩ (.int .i64 ((m:Int)+1))) (fun k=>k≠C) q:=hq1.grow hg2 (fun b e h=>h (Option.some.inj e).symm)
 have hT2:=hT1.step hg2
 have hgb2:=hgb.trans hg2
 have hwm:IntKind.i64.wrap ((m:Int)+1)=(m:Int)+1:=by rw [IntKind.wrap_i64];omega
 clear hnew hc1 hq1 hT1 hgb hTb hg2
 go_upto_region 2 with fail
 generalize World.setCell w1 _ _=w2 at hcs hnew2 hq2 hT2 hgb2 ⊢
 clear m0 m1 m2
 obtain ⟨k0,k8,-⟩:=cat_cell hcs
 have ek:((m+1:Nat):Int)=(m:Int)+1:=by omega
 rw [ek] at k0
 obtain ⟨c0,c1,c2,c3,c4,c5,c6,-⟩:=ty_cells hnew2
 have HCS:=hid hcs
 have HN2:=hid hnew2
 have HQ2:=hid hq2
 have HT2:=hid hT2
 have HG2:=hid hgb2
 clear hcs hnew2 hq2 hT2 hgb2 hwm ek
 by_cases h1:200<m+1
 ·have HR:=hid (HCODE.out 2 w2 (by unfold lookF;rw [if_pos h1]) HCS.out HG2.out)
  have e1:(200:Int)<(m:Int)+1:=by omega
  clear HCODE HCS HG2 HN2 HQ2 HT2 h1
  go_wp2_with fail
  try go_ret
  exact HR.out
 have e1:¬ (200:Int)<(m:Int)+1:=by omega
 by_cases h2:(20:Int)<=(ar:Int)
 ·have HR:=hid (HCODE.out 5 w2 (by unfold lookF;rw [if_neg h1,if_pos h2]) HCS.out HG2.out)
  clear HCODE HCS HG2 HN2 HQ2 HT2 h1
  go_wp2_with fail
  try go_ret
  exact HR.out
 obtain ⟨eb,heb⟩:∃ eb,emptyB q.v=eb:=⟨_,rfl⟩
 have hcall:=empty_any q w2 HQV.out
 rw [heb] at hcall
 unfold Lt.val at hcall
 have HCE:=hid hcall
 have HH1:=hid h1
 have HEB:=hid heb
 clear hcall heb h1
 go_wp2_with fail
 (with_reducible refine HCE.out.mono ?_)
 rintro e w3 ⟨rfl,hb3⟩
 have HCS3:=hid (HCS.out.below hb3)
 have HG3:=hid (HG2.out.trans (gr_below hb3 (some C)))
 have HQ3:=hid (HQ2.out.keep hb3)
 have HT3:=hid (HT2.out.step (gr_below hb3 (some C)))
 have hn3:=(hb3.block _ (Array.getElem?_eq_some_iff.1 HN2.out).1).trans HN2.out
 clear c0 c1 c2 c3 c4 c5 c6 k0 k8
 obtain ⟨c0,c1,c2,c3,c4,c5,c6,-⟩:=ty_cells hn3
 obtain ⟨-,k8,-⟩:=cat_cell HCS3.out
 clear hb3 hn3 HCE HCS HG2 HN2 HQ2 HT2
 cases eb with
 | false =>
   have HR:=hid (HCODE.out 10 w3 (by unfold lookF;rw [if_neg HH1.out,if_neg (Int.not_le.2 h2),if_pos HEB.out]) HCS3.out HG3.out)
   clear HCODE HCS3 HG3 HQ3 HT3 HEB HH1
   go_wp2_with fail
   try go_ret
   exact HR.out
 | true =>
   have hE3:¬ emptyB q.v=false:=by rw [HEB.out];decide
   have HE3:=hid hE3
   clear hE3 HEB
   have HREST:Hid (¬ (q.v.hi<q.v.lo\/(q.v.k≠4/\q.v.lo<0))->lookF q.v ar (m+1)=if q.v.k=7 then textsF q.v.x else if q.v.k=10 then fieldsF q.v.f else if q.v.k=12 then 8 else 0):=hid (fun h=>by
    unfold lookF;rw [if_neg HH1.out,if_neg (Int.not_le.2 h2),if_neg HE3.out,if_neg h])
   by_cases h4:q.v.hi<q.v.lo\/(q.v.k≠4/\q.v.lo<0)
   ·have HR:=hid (HCODE.out 7 w3 (by unfold lookF;rw [if_neg HH1.out,if_neg (Int.not_le.2 h2),if_neg HE3.out,if_pos h4]) HCS3.out HG3.out)
    clear HCODE HCS3 HG3 HQ3 HT3 HE3 HH1 HREST
    by_cases h5:q.v.hi<q.v.lo
    ·clear h4
     go_wp2_with fail
     try go_ret
     exact HR.out
    ·obtain ⟨h6,h7⟩:q.v.k≠4/\q.v.lo<0:=by
      rcases h4 with h|h
      ·exact absurd h h5
      ·exact h
     have e4:(q.v.k==4)=false:=beq_eq_false_iff_ne.2 h6
     clear h4
     go_wp2_with fail
     try go_ret
     exact HR.out
   ·have HF:=hid (HREST.out h4)
    have h5:¬ q.v.hi<q.v.lo:=fun h=>h4 (.inl h)
    have h6:q.v.k=4\/(q.v.k≠4/\¬ q.v.lo<0):=by
     by_cases h:q.v.k=4
     ·exact .inl h
     ·exact .inr ⟨h,fun h'=>h4 (.inr ⟨h,h'⟩)⟩
    clear HE3 HH1 HREST h4
    by_cases h7:q.v.k=7
    ·have hx:=HQ3.out.x
     have hcall:=texts_any q.xd q.xc q.v.x w3 (hx.through (Nat.le_refl _) (fun _ _ _=>rfl) (fun _ _ _=>trivial)) HT3.out.here
     have HC4:=hid hcall
     have hf:=HF.out
     rw [if_pos h7] at hf
     have HF2:=hid hf
     have e4:(q.v.k==4)=false:=beq_eq_false_iff_ne.2 (by omega)
     have n4:¬ q.v.k=4:=by omega
     have e7:(q.v.k==7)=true:=beq_iff_eq.2 h7
     have h8:¬ q.v.lo<0:=by
      rcases h6 with h|h
      ·omega
      ·exact h.2
     clear hcall hf hx h7 h6 HF
     go_wp2_with fail
     (with_reducible refine HC4.out.mono ?_)
     rintro e w4 ⟨rfl,hb4⟩
     have HR:=hid (HCODE.out _ w4 HF2.out (HCS3.out.below hb4) (HG3.out.trans (gr_below hb4 (some C))))
     clear HC4 HCODE HCS3 HG3 HQ3 HT3 HF2 hb4
     go_wp2_with fail
     try go_ret
     exact HR.out
    by_cases h10:q.v.k=10
    ·have hx:=HQ3.out.f
     have hcall:=fields_any q.fd q.fc q.v.f w3 (hx.through (Nat.le_refl _) (fun _ _ _=>rfl) (fun _ _ _=>trivial)) HT3.out.here
     have HC4:=hid hcall
     have hf:=HF.out
     rw [if_neg h7,if_pos h10] at hf
     have HF2:=hid hf
     have e4:(q.v.k==4)=false:=beq_eq_false_iff_ne.2 (by omega)
     have n4:¬ q.v.k=4:=by omega
     have e7:(q.v.k==7)=false:=beq_eq_false_iff_ne.2 h7
     have e10:(q.v.k==10)=true:=beq_iff_eq.2 h10
     have h8:¬ q.v.lo<0:=by
      rcases h6 with h|h
      ·omega
      ·exact h.2
     clear hcall hf hx h7 h6 h10 HF
     go_wp2_with fail
     (with_reducible refine HC4.out.mono ?_)
     rintro e w4 ⟨rfl,hb4⟩
     have HR:=hid (HCODE.out _ w4 HF2.out (HCS3.out.below hb4) (HG3.out.trans (gr_below hb4 (some C))))
     clear HC4 HCODE HCS3 HG3 HQ3 HT3 HF2 hb4
     go_wp2_with fail
     try go_ret
     exact HR.out
    have e7:(q.v.k==7)=false:=beq_eq_false_iff_ne.2 h7
    have e10:(q.v.k==10)=false:=beq_eq_false_iff_ne.2 h10
    by_cases h12:q.v.k=12
    ·have hcall:=def_none C q.v.n w3 k8
     have HC4:=hid hcall
     have hf:=HF.out
     rw [if_neg h7,if_neg h10,if_pos h12] at hf
     have HF2:=hid hf
     have e4:(q.v.k==4)=false:=beq_eq_false_iff_ne.2 (by omega)
     have n4:¬ q.v.k=4:=by omega
     have e12:(q.v.k==12)=true:=beq_iff_eq.2 h12
     have h8:¬ q.v.lo<0:=by
      rcases h6 with h|h
      ·omega
      ·exact h.2
     clear hcall hf h7 h6 h10 h12 HF
     go_wp2_with fail
     (with_reducible refine HC4.out.mono ?_)
     rintro e w4 ⟨rfl,hb4⟩
     have HR:=hid (HCODE.out _ w4 HF2.out (HCS3.out.below hb4) (HG3.out.trans (gr_below hb4 (some C))))
     clear HC4 HCODE HCS3 HG3 HQ3 HT3 HF2 hb4
     go_wp2_with fail
     try go_ret
     exact HR.out
    ·have hf:=HF.out
     rw [if_neg h7,if_neg h10,if_neg h12] at hf
     have HR:=hid (HCODE.out _ w3 hf HCS3.out HG3.out)
     have e12:(q.v.k==12)=false:=beq_eq_false_iff_ne.2 h12
     clear hf h7 h10 h12 HF HCODE HCS3 HG3 HQ3 HT3
     rcases h6 with h|⟨h,h8⟩
     ·rw [h] at c0
      clear h e7 e10 e12
      go_wp2_with fail
      try go_ret
      exact HR.out
     ·have e4:(q.v.k==4)=false:=beq_eq_false_iff_ne.2 h
      go_wp2_with fail
      try go_ret
      exact HR.out
end Go.Proofs.YtgnonbdkmmkdgaaGreatDoor
