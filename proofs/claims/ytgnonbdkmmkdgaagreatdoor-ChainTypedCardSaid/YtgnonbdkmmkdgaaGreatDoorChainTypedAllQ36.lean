/-
  Lemmas for the statement: plain laws, and what functions answer; the conditions stand in each.
-/
import Derived.Test.YtgnonbdkmmkdgaaGreatDoorChainTypedAllQ35
set_option linter.unusedVariables false
set_option linter.unusedSimpArgs false
set_option maxHeartbeats 16000000
set_option maxRecDepth 100000
open Go.Lib (hid)
namespace Go.Proofs.YtgnonbdkmmkdgaaGreatDoor
open Go.RowKit Gx
theorem MRow.keep {w w':World} {ad:Option Addr} {ms:List Lm} (h:MRow w ad ms) (hb:Below w.heap.size w w'):MRow w' ad ms:=by
 refine ⟨h.1,fun hne=>?_,fun i m hi=>?_⟩
 ·obtain ⟨b,o,e,hl⟩:=h.2.1 hne
  exact ⟨b,o,e,Nat.lt_of_lt_of_le hl hb.size⟩
 ·obtain ⟨b,o,e,hl,hm,hc⟩:=h.cells hi
  exact ⟨hm.keep hb,b,o,e,fun j u hj=>(hb.cell (p:=⟨b,o+i * 10+j,none⟩) hl).trans (hc j u hj)⟩
theorem movesOf_drop {ls:List Ln} {o:List Nat} {j i:Nat} {k:Ln} (hj:o[j]?=some i) (hi:ls[i]?=some k):movesOf ls (o.drop j)=k.ms.map Lm.mv++movesOf ls (o.drop (j+1)):=by
 obtain ⟨hl,he⟩:=List.getElem?_eq_some_iff.1 hj
 unfold movesOf
 rw [List.drop_eq_getElem_cons hl,he,List.flatMap_cons,hi]
 rfl
def RunPost (u:Ty) (w:World) (e:Ending) (w':World):Prop:=∃ (y:Loc) (i code:Int),e=.returned (.tuple #[y.val,.int .i64 i,.int .i64 code])/\(code=0\/code=2\/code=5) /\
 (code=0->Fit false u y.v/\chkV y.v=0/\VAt w' (fun b=>w.heap.size<=b) y)/\Below w.heap.size w w'
theorem runV_any (ad:Option Addr) (cap:Nat) (ls:List Ln) (fr to_:Int) (q:Loc) (u:Ty) (f:Int->Option Nat) (o:List Nat) (w:World) (hL:LRow w ad ls) (hLk:Lk w ad cap (linksOf ls)) (ha:(Lit.int .i64 fr).wf=true) (hb:(Lit.int .i64 to_).wf=true)
 (hd:Dist (linksOf ls) to_ f) (hw:Way (linksOf ls) f o fr to_) (hq:VAt w (fun _=>True) q) (hT:Tabs w) (hP:∀ W,Below w.heap.size w W->P10 W) (hA:Amid (movesOf ls o) u q) :
 Calls Tryz.prog 8 #[.slice ad ls.length cap,.int .i64 fr,.int .i64 to_,q.val] w (RunPost u w):=by
 have hrb:=v2_start w #[.int .i64 q.v.k,.int .i64 q.v.n,.int .u64 q.v.f,.string q.v.s,.slice q.ad q.v.l.length q.cap,.slice q.bd q.v.e.length q.dap]
 have hv:chkV q.v=0:=by obtain ⟨-,-,-,-,h⟩:=hA;exact h
 have hpl:∀ W,Below w.heap.size w W->Calls Tryz.prog 9 #[.slice ad ls.length cap,.int .i64 fr,.int .i64 to_] W (PlanB (linksOf ls) fr to_ W):=fun W hb'=>by
  have h:=planB_any ad cap (linksOf ls) fr to_ W (hLk.keep hb') ha hb
  rw [show (linksOf ls).length=ls.length from List.length_map _] at h
  exact h
 unfold Loc.val
 obtain ⟨nl,hnl⟩:∃ m,q.v.l.length=m:=⟨_,rfl⟩
 obtain ⟨ne,hne⟩:∃ m,q.v.e.length=m:=⟨_,rfl⟩
 obtain ⟨nk,hnk⟩:∃ m,ls.length=m:=⟨_,rfl⟩
 rw [hnl,hne] at hrb ⊢
 simp only [hnk] at hpl
 rw [hnk]
 have HPL:=hid hpl
 have HNL:=hid hnl
 have HNE:=hid hne
 have HNK:=hid hnk
 have HQ:=hid hq
 have HL:=hid hL
 have HT:=hid hT
 have HP:=hid hP
 have HV:=hid hv
 have HA:=hid hA
 have HD:=hid hd
 have HW:=hid hw
 clear hnl hne hnk hq hL hLk hT hP hv hA hd hw hpl ha hb
 go_enter Tryz.func8,Tryz.ntmps8
 go_upto_region 1 with fail
 generalize World.alloc (World.alloc w _) _=w1 at hrb ⊢
 have HR:=hid hrb
 clear hrb
 have HPL1:=hid (HPL.out w1 HR.out.g)
 have HS1:Hid (w.heap.size+1<w1.heap.size):=hid HR.out.vlt
 go_wp2_with fail
 (with_reducible refine HPL1.out.mono ?_)
 rintro e w2 ⟨wd,n,wc',cp,rfl,hb2,hway,hno⟩
 have HR2:=hid (HR.out.keep hb2)
 have HWAY:=hid hway
 have HNO:=hid hno
 clear hb2 hway hno HPL1 HR HPL
 obtain ⟨a0,a1,a2,a3,a4,a5,-⟩:=six_cells HR2.out.bx
 by_cases h0:cp=0
 case neg =>
  have hc2:cp=2:=by
   rcases HNO.out h0 with h|⟨f',hd',hn'⟩
   ·exact h
   ·have h1:=dist_uq hd' HD.out
    subst h1
    have h2:=Way.len HW.out 0 HD.out.d1
    rw [hn'] at h2;cases h2
  subst hc2
  have e1:((2:Int)==0)=false:=rfl
  have e2:((2:Int) != 0)=true:=rfl
  clear h0 HNO HWAY
  obtain ⟨p0,p1,p2,p3,p4,p5,pf⟩:=six_cells HR2.out.res
  have pf0:=pf 0
  have pf1:=pf 1
  have pf2:=pf 2
  have pf3:=pf 3
  have pf4:=pf 4
  have pf5:=pf 5
  obtain ⟨W9,hW9,hr9,hg9⟩:=val_all HR2.out.res (.int .i64 0) (.int .i64 0) (.int .u64 0) (.string ⟨#[]⟩) (.slice none 0 0) (.slice none 0 0)
  obtain ⟨q0,q1,q2,q3,q4,q5,-⟩:=six_cells hr9
  have HW9:=hid hW9
  have HPOST:Hid (RunPost u w (.returned (.tuple #[.agg #[.int .i64 0,.int .i64 0,.int .u64 0,.string ⟨#[]⟩,.slice none 0 0,.slice none 0 0],.int .i64 0,.int .i64 2])) W9):=hid ⟨⟨.zero,none,0,none,0⟩,0,2,rfl,.inr (.inl rfl),(fun h=>by cases h),HR2.out.g.grown hg9 (by have:=HR2.out.vlt;omega) (fun b e=>by have:=Option.some.inj e;omega)⟩
  clear hW9 hr9 hg9 pf
  go_wp2_with fail
  rw [<-HW9.out]
  exact bodyPost_ret (v:=.tuple #[.agg #[.int .i64 0,.int .i64 0,.int .u64 0,.string ⟨#[]⟩,.slice none 0 0,.slice none 0 0],.int .i64 0,.int .i64 2]) (by simp [results,Tryz.results8,go_sem,q0,q1,q2,q3,q4,q5]) rfl HPOST.out
 obtain rfl:cp=0:=h0
 have e1:((0:Int)==0)=true:=rfl
 have e2:((0:Int) != 0)=false:=rfl
 obtain ⟨f',o',hd',hw',hn,hrd,hfr⟩:=HWAY.out (by first|rfl|trivial)
 obtain rfl:f'=f:=dist_uq hd' HD.out
 obtain rfl:o'=o:=way_uq HD.out.d1 hw' HW.out
 have HFR:Hid (∀ z,wd=some z->w.heap.size+1<z.block):=hid (fun z hz=>by have:=hfr z hz;have:=HS1.out;omega)
 have HN:=hid hn
 have HRD:=hid hrd
 clear hd' hw' hn hrd hfr HWAY HNO
 have hck:=Check_any q w2 (HT.out.keep HR2.out.g) (HQ.out.keep HR2.out.g)
 unfold CheckPost Loc.val at hck
 rw [HNL.out,HNE.out,HV.out] at hck
 have HCK:=hid hck
 clear hck
 go_wp2_with fail
 (with_reducible refine HCK.out.mono ?_)
 rintro e w3 ⟨rfl,hb3⟩
 have HR3:=hid (HR2.out.keep hb3)
 have HRD3:=hid (HRD.out.keep hb3)
 clear a0 a1 a2 a3 a4 a5 hb3 HR2 HRD HCK
 obtain ⟨a0,a1,a2,a3,a4,a5,-⟩:=six_cells HR3.out.bx
 have how:=own_any' q w3 (HQ.out.keep HR3.out.g)
 unfold CopyPost Loc.val at how
 rw [HNL.out,HNE.out] at how
 have HOW:=hid how
 clear how
 go_wp2_with fail
 (with_reducible refine HOW.out.mono ?_)
 rintro e w4 ⟨y0,rfl,hyv,hya,hb4⟩
 have HR4:=hid (HR3.out.keep hb4)
 have HRD4:=hid (HRD3.out.keep hb4)
 have hs2:=HR3.out.vlt
 have HA0:Hid (Amid (movesOf ls o') u y0):=hid (by obtain ⟨b,h1,h2,h3,h4⟩:=HA.out;exact ⟨b,h1,h2,by rw [hyv];exact h3,by rw [hyv];exact h4⟩)
 have HY4:=hid (hya.weak (C:=fun b=>w.heap.size+1<b) (fun b hb _=>by omega))
 obtain ⟨d0,d1,d2,d3,d4,d5,df⟩:=six_cells HR4.out.bx
 have df0:=df 0
 have df1:=df 1
 have df2:=df 2
 have df3:=df 3
 have df4:=df 4
 have df5:=df 5
 obtain ⟨W5,hW5,hr5,hg5⟩:=val_all HR4.out.bx (.int .i64 y0.v.k) (.int .i64 y0.v.n) (.int .u64 y0.v.f) (.string y0.v.s) (.slice y0.ad y0.v.l.length y0.cap) (.slice y0.bd y0.v.e.length y0.dap)
 have HR5:=hid (HR4.out.setX hr5 hg5)
 have HW5:=hid hW5
 have HY5:=hid (HY4.out.grow hg5 (fun b e hb=>by have:=Option.some.inj e;omega))
 have HRD5:Hid (Rd .i64 W5 wd wc' (o'.map Int.ofNat)):=hid (HRD4.out.grown hg5 (fun a ha _ e=>by have h8:=HFR.out a ha;have h9:=Option.some.inj e;omega))
 clear a0 a1 a2 a3 a4 a5 hyv hya hb4 hW5 hr5 hg5 df HR3 HRD3 HRD4 HOW HY4 hs2 HA
 go_upto_region 7 with fail
 rw [<-HW5.out]
 clear d0 d1 d2 d3 d4 d5 df0 df1 df2 df3 df4 df5 HR4 HW5
 obtain rfl:n=o'.length:=HN.out
 obtain ⟨n,hn⟩:∃ n,o'.length=n:=⟨_,rfl⟩
 rw [hn]
 have HNN:=hid hn
 clear hn HN
 go_wp2_with fail
 go_loopw [12,14,34] (fun v12 v14 v34 wr=>∃ (j:Nat) (y:Loc),j<=n/\v34=.int .i64 j/\Hid (Amid (movesOf ls (o'.drop j)) u y)/\Hid (V2 w (w.heap.size+1) #[.int .i64 y.v.k,.int .i64 y.v.n,.int .u64 y.v.f,.string y.v.s,.slice y.ad y.v.l.length y.cap,.slice y.bd y.v.e.length y.dap] wr)/\Hid (VAt wr (fun b=>w.heap.size+1<b) y)/\Hid (Rd .i64 wr wd wc' (o'.map Int.ofNat))) (fun v12 v14 v34 _=>n - (intOf v34).toNat)
 case atStart=>exact ⟨0,y0,Nat.zero_le _,rfl,hid (by rw [List.drop_zero];exact HA0.out),HR5,HY5,HRD5⟩
 case round =>
  obtain ⟨j,y,hjn,rfl,HAM,HRr,HYr,HRDr⟩:=hrel
  clear HA0 HR5 HY5 HRD5
  by_cases hlt:j<n
  ·obtain ⟨i,hi⟩:∃ i,o'[j]?=some i:=⟨_,List.getElem?_eq_getElem (by rw [HNN.out];exact hlt)⟩
   have hil:i<ls.length:=by
    have:=Way.lt HW.out i (List.mem_of_getElem? hi)
    rwa [show (linksOf ls).length=ls.length from List.length_map _] at this
   obtain ⟨k,hk⟩:∃ k,ls[i]?=some k:=⟨_,List.getElem?_eq_getElem hil⟩
   obtain ⟨lb,lo,rfl,hlb,hmr,hlc⟩:=HL.out.cells hk
   have hl2:=(HRr.out.g.cell (p:=⟨lb,lo+i * 3+2,none⟩) hlb).trans hlc
   obtain ⟨rb,ro,hra,hrb',hrc⟩:=HRDr.out.addr (by rw [List.length_map,HNN.out];omega)
   obtain rfl:=hra
   have hrj:wr.cell? ⟨rb,ro+j,none⟩=some (.int .i64 (i:Int)):=by
    have:=hrc j (by rw [List.length_map,HNN.out];exact hlt)
    rw [this,List.getD_eq_getElem?_getD,List.getElem?_map,hi];rfl
   have hnb:n<=9223372036854775807:=by have h8:=HRDr.out.ncap;have h9:=HRDr.out.cap63;rw [List.length_map,HNN.out] at h8;omega
   have r1:(0:Int)<=(j:Int):=by omega
   have r2:(j:Int)<(n:Int):=by omega
   have r3:(0:Int)<=(i:Int):=by omega
   have r4:(i:Int)<(nk:Int):=by have:=HNK.out;omega
   have HAM2:Hid (Amid (k.ms.map Lm.mv++movesOf ls (o'.drop (j+1))) u y):=hid (by rw [<-movesOf_drop hi hk];exact HAM.out)
   have hall:=allV_any y k.ms k.ad k.cap (movesOf ls (o'.drop (j+1))) u wr.drew (((HYr.out.weak (fun _ _ _=>trivial)).keep (Gx.drewN_below wr 1 _):VAt wr.drew (fun _=>True) y)) (hmr.keep (HRr.out.g.trans ((Gx.drewN_below wr 1 _).mono HRr.out.g.size))) ((HT.out.keep HRr.out.g).keep (Gx.drewN_below wr 1 _)) (fun W h'=>HP.out W (HRr.out.g.trans (((Gx.drewN_below wr 1 _).trans h').mono HRr.out.g.size))) HAM2.out
   unfold AllPost Loc.val at hall
   obtain ⟨nm,hnm⟩:∃ m,k.ms.length=m:=⟨_,rfl⟩
   rw [hnm] at hl2 hall hlc
   have HALL:=hid hall
   obtain ⟨a0,a1,a2,a3,a4,a5,-⟩:=six_cells HRr.out.bx
   clear hi hil hk hmr hrc hrb' hnm hall HAM HAM2
   go_upto_region 10 with fail
   have HVd:Hid (V2 w (w.heap.size+1) #[.int .i64 y.v.k,.int .i64 y.v.n,.int .u64 y.v.f,.string y.v.s,.slice y.ad y.v.l.length y.cap,.slice y.bd y.v.e.length y.dap] wr.drew):=hid (HRr.out.keep (Gx.drewN_below wr 1 _))
   have HRDd:Hid (Rd .i64 wr.drew (some ⟨rb,ro,none⟩) wc' (o'.map Int.ofNat)):=hid (HRDr.out.keep (Gx.drewN_below wr 1 _))
   have hrw:∀ W,Below w.heap.size w W->World.cell? W ⟨lb,lo+i * 3+2,none⟩=some (.slice k.ad nm k.cap)/\True:=fun W hb=>⟨(hb.cell (p:=⟨lb,lo+i * 3+2,none⟩) hlb).trans hlc,trivial⟩
   have HRW:=hid hrw
   clear hrw hlc
   refine wp_region_held_drew (S:=fun w'=>World.cell? w' ⟨lb,lo+i * 3+2,none⟩=some (.slice k.ad nm k.cap)/\True) (by kernel_rfl) ⟨hl2,trivial⟩ (fun hHeld=>?_)
   generalize World.drew wr=wd' at HALL HVd HRDd hHeld ⊢
   clear a0 a1 a2 a3 a4 a5 hl2 hrj
   refine wpAnyH_take (i:=1) (v:=.slice (some ⟨lb,lo,none⟩) nk cap) rfl (by kernel_rfl) (by kernel_rfl) (by kernel_rfl) (fun _ _ _ h=>h) (Or.inl ⟨by kernel_rfl,fun w' hSw=>?_⟩) (by assumption) ?_
   ·obtain ⟨s0,s1⟩:=hSw;clear hHeld;go_simp;try rfl
   try simp only [Act.put,Go.setq]
   refine wpAnyH_take (i:=2) (v:=.int .i64 (i:Int)) rfl (by kernel_rfl) (by kernel_rfl) (by kernel_rfl) (fun _ _ _ h=>h) (Or.inl ⟨by kernel_rfl,fun w' hSw=>?_⟩) (by assumption) ?_
   ·obtain ⟨s0,s1⟩:=hSw;clear hHeld;go_simp;try rfl
   try simp only [Act.put,Go.setq]
   refine wpAnyH_take (i:=3) (v:=.pointer (some ⟨lb,lo+i * 3,none⟩)) rfl (by kernel_rfl) (by kernel_rfl) (by kernel_rfl) (fun _ _ _ h=>h) (Or.inl ⟨by kernel_rfl,fun w' hSw=>?_⟩) (by assumption) ?_
   ·obtain ⟨s0,s1⟩:=hSw;clear hHeld;go_simp;try rfl
   try simp only [Act.put,Go.setq]
   refine wpAnyH_take (i:=4) (v:=.pointer (some ⟨lb,lo+i * 3+2,none⟩)) rfl (by kernel_rfl) (by kernel_rfl) (by kernel_rfl) (fun _ _ _ h=>h) (Or.inl ⟨by kernel_rfl,fun w' hSw=>?_⟩) (by assumption) ?_
   ·obtain ⟨s0,s1⟩:=hSw;clear hHeld;go_simp;try rfl
   try simp only [Act.put,Go.setq]
   refine wpAnyH_take (i:=5) (v:=.slice k.ad nm k.cap) rfl (by kernel_rfl) (by kernel_rfl) (by kernel_rfl) (fun _ _ _ h=>h) (Or.inl ⟨by kernel_rfl,fun w' hSw=>?_⟩) (by assumption) ?_
   ·obtain ⟨s0,s1⟩:=hSw;clear hHeld;go_simp;try rfl
   try simp only [Act.put,Go.setq]
   refine wpAnyH_ready (rs:=[0]) (by kernel_rfl) (by simp) ?_
   refine AllReadyH.cons rfl (fun KK hK=>?_) AllReadyH.nil
   obtain ⟨a0,a1,a2,a3,a4,a5,-⟩:=six_cells HVd.out.bx
   go_simp
   clear a0 a1 a2 a3 a4 a5
   refine hK.out _ _ (HRW.out _ HVd.out.g) (fun hHeld=>?_)
   clear hK KK
   try simp only [Act.put,Go.setq]
   refine wpAnyH_ready (rs:=[6]) (by kernel_rfl) (by simp) ?_
   refine AllReadyH.cons rfl (fun KK hK=>?_) AllReadyH.nil
   go_simp
   (with_reducible refine HALL.out.mono ?_)
   rintro e w6 ⟨x,xi,code,rfl,hcode,hgood,hb6⟩
   have HR6:=hid (HVd.out.keep hb6)
   have HRD6:=hid (HRDd.out.keep hb6)
   have hsa:=HVd.out.vlt
   clear hHeld
   try simp only [Loc.val]
   refine hK.out _ _ (HRW.out _ HR6.out.g) (fun hHeld=>?_)
   clear hK KK
   try simp only [Act.put,Go.setq]
   refine wpAnyH_take (i:=7) (v:=.tuple #[.agg #[.int .i64 x.v.k,.int .i64 x.v.n,.int .u64 x.v.f,.string x.v.s,.slice x.ad x.v.l.length x.cap,.slice x.bd x.v.e.length x.dap],.int .i64 xi,.int .i64 code]) rfl (by kernel_rfl) (by kernel_rfl) (by kernel_rfl) (fun _ _ _ h=>h) (Or.inl ⟨by kernel_rfl,fun w' hSw=>?_⟩) (by assumption) ?_
   ·clear hHeld hSw;go_simp;try rfl
   try simp only [Act.put,Go.setq]
   refine wpAnyH_take (i:=8) (v:=.agg #[.int .i64 x.v.k,.int .i64 x.v.n,.int .u64 x.v.f,.string x.v.s,.slice x.ad x.v.l.length x.cap,.slice x.bd x.v.e.length x.dap]) rfl (by kernel_rfl) (by kernel_rfl) (by kernel_rfl) (fun _ _ _ h=>h) (Or.inl ⟨by kernel_rfl,fun w' hSw=>?_⟩) (by assumption) ?_
   ·clear hHeld hSw;go_simp;try rfl
   try simp only [Act.put,Go.setq]
   refine wpAnyH_take (i:=9) (v:=.int .i64 xi) rfl (by kernel_rfl) (by kernel_rfl) (by kernel_rfl) (fun _ _ _ h=>h) (Or.inl ⟨by kernel_rfl,fun w' hSw=>?_⟩) (by assumption) ?_
   ·clear hHeld hSw;go_simp;try rfl
   try simp only [Act.put,Go.setq]
   refine wpAnyH_take (i:=10) (v:=.int .i64 code) rfl (by kernel_rfl) (by kernel_rfl) (by kernel_rfl) (fun _ _ _ h=>h) (Or.inl ⟨by kernel_rfl,fun w' hSw=>?_⟩) (by assumption) ?_
   ·clear hHeld hSw;go_simp;try rfl
   try simp only [Act.put,Go.setq]
   obtain ⟨d0,d1,d2,d3,d4,d5,df⟩:=six_cells HR6.out.bx
   have df0:=df 0
   have df1:=df 1
   have df2:=df 2
   have df3:=df 3
   have df4:=df 4
   have df5:=df 5
   obtain ⟨W7,hW7,hr5,hg5⟩:=val_all HR6.out.bx (.int .i64 x.v.k) (.int .i64 x.v.n) (.int .u64 x.v.f) (.string x.v.s) (.slice x.ad x.v.l.length x.cap) (.slice x.bd x.v.e.length x.dap)
   have HR7:=hid (HR6.out.setX hr5 hg5)
   have HW7:=hid hW7
   have HX7:Hid (code=0->Amid (movesOf ls (o'.drop (j+1))) u x/\VAt W7 (fun b=>w.heap.size+1<b) x):=hid (fun h=>by
    obtain ⟨b,h1,h2,h3,h4,h5⟩:=hgood h
    exact ⟨⟨b,h1,h2,h3,h4⟩,(h5.weak (C:=fun b=>w.heap.size+1<b) (fun b hb _=>by omega)).grow hg5 (fun b e hb=>by have:=Option.some.inj e;omega)⟩)
   have HRD7:Hid (Rd .i64 W7 (some ⟨rb,ro,none⟩) wc' (o'.map Int.ofNat)):=hid (HRD6.out.grown hg5 (fun a ha _ e=>by have h8:=HFR.out a ha;have h9:=Option.some.inj e;omega))
   have HCODE:=hid hcode
   clear hcode hgood hb6 hW7 hr5 hg5 df HRr HYr HRDr HRD6 HALL hsa HVd HRDd
   refine wpAnyH_ready (rs:=[11]) (by kernel_rfl) (by simp) ?_
   refine AllReadyH.cons rfl (fun KK hK=>?_) AllReadyH.nil
   go_simp
   rw [<-HW7.out]
   clear d0 d1 d2 d3 d4 d5 df0 df1 df2 df3 df4 df5
   refine hK.out _ _ (HRW.out _ HR7.out.g) (fun hHeld2=>?_)
   clear hK KK
   try simp only [Act.put,Go.setq]
   refine wpAnyH_ready (rs:=[12]) (by kernel_rfl) (by simp) ?_
   refine AllReadyH.cons rfl (fun KK hK=>?_) AllReadyH.nil
   go_simp
   refine hK.out _ _ (HRW.out _ HR7.out.g) (fun hHeld3=>?_)
   clear hK KK
   try simp only [Act.put,Go.setq]
   refine wpAnyH_done (by kernel_rfl) ?_ _
   clear hHeld hHeld2 hHeld3 HR6 HW7 HRW
   go_upto_region 11 with fail
   by_cases h0:code=0
   case neg =>
    have e3:(code != 0)=true:=by simp [h0]
    obtain ⟨p0,p1,p2,p3,p4,p5,pf⟩:=six_cells HR7.out.res
    have pf0:=pf 0
    have pf1:=pf 1
    have pf2:=pf 2
    have pf3:=pf 3
    have pf4:=pf 4
    have pf5:=pf 5
    obtain ⟨W9,hW9,hr9,hg9⟩:=val_all HR7.out.res (.int .i64 0) (.int .i64 0) (.int .u64 0) (.string ⟨#[]⟩) (.slice none 0 0) (.slice none 0 0)
    obtain ⟨q0,q1,q2,q3,q4,q5,-⟩:=six_cells hr9
    have HW9:=hid hW9
    have HPOST:Hid (RunPost u w (.returned (.tuple #[.agg #[.int .i64 0,.int .i64 0,.int .u64 0,.string ⟨#[]⟩,.slice none 0 0,.slice none 0 0],.int .i64 (i:Int),.int .i64 code])) W9):=hid ⟨⟨.zero,none,0,none,0⟩,(i:Int),code,rfl,HCODE.out,fun h=>absurd h h0,HR7.out.g.grown hg9 (by have:=HR7.out.vlt;omega) (fun b e=>by have:=Option.some.inj e;omega)⟩
    clear hW9 hr9 hg9 pf
    go_wp2_with fail
    rw [<-HW9.out]
    exact bodyPost_ret (v:=.tuple #[.agg #[.int .i64 0,.int .i64 0,.int .u64 0,.string ⟨#[]⟩,.slice none 0 0,.slice none 0 0],.int .i64 (i:Int),.int .i64 code]) (by simp [results,Tryz.results8,go_sem,q0,q1,q2,q3,q4,q5]) rfl HPOST.out
   obtain rfl:code=0:=h0
   have e3:((0:Int) != 0)=false:=rfl
   have HX8:Hid (Amid (movesOf ls (o'.drop (j+1))) u x/\VAt W7 (fun b=>w.heap.size+1<b) x):=hid (HX7.out (by first|rfl|trivial))
   have HA8:Hid (Amid (movesOf ls (o'.drop (j+1))) u x):=hid HX8.out.1
   have HXA8:Hid (VAt W7 (fun b=>w.heap.size+1<b) x):=hid HX8.out.2
   clear HX7 HX8 HCODE
   go_wp2_with fail
   go_roundw
   case rel=>exact ⟨j+1,x,by omega,by go_num,HA8,HR7,HXA8,HRD7⟩
   case measure=>simp [intOf];omega
  ·obtain rfl:j=n:=by omega
   have HA8:Hid (Fit false u y.v/\chkV y.v=0):=hid (by
    have h:=HAM.out
    rw [<-HNN.out,List.drop_length] at h
    obtain ⟨b,h1,h2,h3,h4⟩:=h
    cases h1
    exact ⟨h3,h4⟩)
   have r2:¬ ((j:Int)<(j:Int)):=by omega
   obtain ⟨a0,a1,a2,a3,a4,a5,-⟩:=six_cells HRr.out.bx
   clear HAM
   obtain ⟨p0,p1,p2,p3,p4,p5,pf⟩:=six_cells HRr.out.res
   have pf0:=pf 0
   have pf1:=pf 1
   have pf2:=pf 2
   have pf3:=pf 3
   have pf4:=pf 4
   have pf5:=pf 5
   obtain ⟨W9,hW9,hr9,hg9⟩:=val_all HRr.out.res (.int .i64 y.v.k) (.int .i64 y.v.n) (.int .u64 y.v.f) (.string y.v.s) (.slice y.ad y.v.l.length y.cap) (.slice y.bd y.v.e.length y.dap)
   obtain ⟨q0,q1,q2,q3,q4,q5,-⟩:=six_cells hr9
   have HW9:=hid hW9
   have HPOST:Hid (RunPost u w (.returned (.tuple #[.agg #[.int .i64 y.v.k,.int .i64 y.v.n,.int .u64 y.v.f,.string y.v.s,.slice y.ad y.v.l.length y.cap,.slice y.bd y.v.e.length y.dap],.int .i64 0,.int .i64 0])) W9):=hid ⟨y,0,0,rfl,.inl rfl,fun _=>⟨HA8.out.1,HA8.out.2,(HYr.out.grow hg9 (fun b e hb=>by have:=Option.some.inj e;omega)).weak (fun b hb _=>by omega)⟩,HRr.out.g.grown hg9 (by have:=HRr.out.vlt;omega) (fun b e=>by have:=Option.some.inj e;omega)⟩
   clear hW9 hr9 hg9 pf
   go_wp2_with fail
   rw [<-HW9.out]
   exact bodyPost_ret (v:=.tuple #[.agg #[.int .i64 y.v.k,.int .i64 y.v.n,.int .u64 y.v.f,.string y.v.s,.slice y.ad y.v.l.length y.cap,.slice y.bd y.v.e.length y.dap],.int .i64 0,.int .i64 0]) (by simp [results,Tryz.results8,go_sem,q0,q1,q2,q3,q4,q5]) rfl HPOST.out
end Go.Proofs.YtgnonbdkmmkdgaaGreatDoor
