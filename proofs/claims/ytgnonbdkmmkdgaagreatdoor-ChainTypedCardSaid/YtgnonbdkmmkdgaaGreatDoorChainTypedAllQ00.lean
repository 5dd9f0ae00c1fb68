/-
  Lemmas for the statement: plain laws, and what functions answer; the conditions stand in each.
-/
import Derived.Test.YtgnonbdkmmkdgaaGreatDoorChainTypedAllPartH
set_option linter.unusedVariables false
set_option linter.unusedSimpArgs false
set_option maxHeartbeats 16000000
set_option maxRecDepth 100000
open Go.Lib (hid)
namespace Go.Proofs.YtgnonbdkmmkdgaaGreatDoor
open Go.RowKit Gx
theorem along_cons (m:Lm) (Kb:Nat) (s:ByteArray) (p:List ByteArray) (IH:AlongC m Kb p):AlongC m Kb (s::p):=by
 intro d q z pd pc B w hz hg hq hm hK hp hpc hpc1 hT
 obtain ⟨hk,hin,x,hx,hzz⟩:=alongV_ways hz
 obtain ⟨d,rfl⟩:∃ e,d=e+1:=by
  cases d with
  | zero=>exact hg.elim
  | succ d=>exact ⟨d,rfl⟩
 have hn:=(ownV_zero hg.1).2.2.2.1
 have hv:=v2_start w #[.int .i64 q.v.k,.int .i64 q.v.n,.int .u64 q.v.f,.string q.v.s,.slice q.ad q.v.l.length q.cap,.slice q.bd q.v.e.length q.dap]
 have hlow:RowAt w (fun b=>B b/\b<w.heap.size) false (lp q.v.l) (.slice q.ad q.v.l.length q.cap):=hq.l.through (Nat.le_refl _) (fun _ _ _=>rfl) (fun b h1 h2=>⟨h1,h2⟩)
 have hqt:VAt w (fun _=>True) q:=hq.weak (fun _ _ _=>trivial)
 obtain ⟨pb,po,rfl,-,hpl,hpcs⟩:=hp.at_ (by simp)
 obtain ⟨hs0,hs1⟩:=hpcs 0 s rfl
 have hptail:=fun c'=>hp.tail c'
 unfold Loc.val
 obtain ⟨nl,hnl⟩:∃ m,q.v.l.length=m:=⟨_,rfl⟩
 obtain ⟨ne,hne⟩:∃ m,q.v.e.length=m:=⟨_,rfl⟩
 obtain ⟨qb,hqb⟩:∃ m,q.bd=m:=⟨_,rfl⟩
 obtain ⟨np,hnp⟩:∃ m,p.length=m:=⟨_,rfl⟩
 rw [List.length_cons,hnp] at hpc ⊢
 rw [hnl,hne,hqb] at hv ⊢
 rw [hnl] at hlow
 rw [hne] at hn
 have HNL:=hid hnl
 have HNE:=hid hne
 have HQB:=hid hqb
 have HNP:=hid hnp
 have HQ:=hid hq
 have HQT:=hid hqt
 have HM:=hid hm
 have HKK:=hid hK
 have HT:=hid hT
 have HG:=hid hg
 have HLOW:=hid hlow
 have HPT:=hid hptail
 have HX:=hid hx
 have HZ:=hid hzz
 have HIN:=hid hin
 have HIH:=hid IH
 have HS0:=hid hs0
 have HS1:=hid hs1
 have e6:(q.v.k != 6)=false:=by simp [hk]
 have e0:(((np+1:Nat):Int)==0)=false:=by simp;omega
 clear hz hg hq hm hK hp hpcs hT hnl hne hqb hnp hlow hqt hptail hx hzz hin IH hk hs0 hs1
 go_enter Tryz.func60,Tryz.ntmps60
 go_upto_region 1 with fail
 generalize World.alloc (World.alloc w _) _=w1 at hv ⊢
 have HV:=hid hv
 clear hv
 obtain ⟨a0,a1,a2,a3,a4,a5,-⟩:=six_cells HV.out.bx
 have k0:w1.cell? ⟨pb,po,none⟩=some (.string s):=(HV.out.g.cell (p:=⟨pb,po,none⟩) hpl).trans HS0.out
 have hfi:=find_any q.bd q.dap q.v.e s w1.drew ((HQT.out.e.keep HV.out.g).keep (Gx.drewN_below w1 1 _))
 unfold IdxPostE at hfi
 rw [HNE.out,HQB.out,if_pos (by rw [<-HNE.out];exact HIN.out)] at hfi
 have HFI:=hid hfi
 have r1:(0:Int)<((np+1:Nat):Int):=by omega
 clear hfi
 go_upto_region 5 with fail
 go_still_tail 5,(by kernel_rfl)
 change wpList _ _ _ _ _ w1.drew
 go_wp2_with fail
 (with_reducible refine HFI.out.mono ?_)
 rintro e w2 ⟨rfl,hb2⟩
 have HV2:=hid (HV.out.keep ((Gx.drewN_below w1 1 _).trans hb2))
 obtain ⟨ii,hii⟩:∃ ii,fidx s q.v.e=ii:=⟨_,rfl⟩
 obtain ⟨x0,hx0⟩:∃ x,q.v.e[fidx s q.v.e]?=some x:=⟨_,List.getElem?_eq_getElem HIN.out⟩
 have hie:fidx s q.v.e<ne:=by rw [<-HNE.out];exact HIN.out
 obtain ⟨b1',o1,hd1,-,hbl1,hcs1⟩:=HQT.out.e.entry (by rw [HNE.out];omega)
 obtain rfl:qb=some ⟨b1',o1,none⟩:=by rw [<-HQB.out];exact hd1
 obtain ⟨-,-,p1,hp1,hpa1,hpc1'⟩:=hcs1 _ x0 hx0
 have HPV:Hid (p1.v=entAt q.v.e s):=hid (by rw [hp1,entAt_of hx0])
 have HGP:Hid (Gd d p1.v):=hid (by rw [hp1];exact HG.out.e x0 (List.mem_of_getElem? hx0))
 rw [hii] at hpc1' hie ⊢
 obtain ⟨d0,d1,d2,d3,d4,d5⟩:=(hpc1'.through (HV2.out.g.block _ hbl1)).seven
 have q1:(0:Int)<=(ii:Int):=by omega
 have q2:(ii:Int)<(ne:Int):=by omega
 have q4:(ii:Int).toNat=ii:=rfl
 have HHP:=hid ((hpa1.weak (C:=fun b=>b<w.heap.size) (fun b _ h=>h)).keep HV2.out.g)
 have HWG:=hid HV2.out.g
 clear hb2 HV HFI a0 a1 a2 a3 a4 a5 k0 hii hx0 hd1 hcs1 hp1 hpa1 hpc1'
 have HAL:Hid (∀ (W:World) (tb tk tc:Nat),Below w2.heap.size w2 W->SRow w (fun _=>True) p (.slice (some ⟨tb,tk,none⟩) np tc)->np<=tc->tc<=9223372036854775807->Calls Tryz.prog 60 #[.agg #[.int .i64 p1.v.k,.int .i64 p1.v.n,.int .u64 p1.v.f,.string p1.v.s,.slice p1.ad p1.v.l.length p1.cap,.slice p1.bd p1.v.e.length p1.dap],.slice (some ⟨tb,tk,none⟩) np tc,(.func (.func 61) #[] #[.pointer (some ⟨Kb,0,none⟩)])] W (BecVPost x (fun b=>b<w.heap.size) W)):=hid (fun W tb tk tc hb hp h1 h2=>by
  have hbw:=HWG.out.trans (hb.mono HWG.out.size)
  have h:=HIH.out d p1 x (some ⟨tb,tk,none⟩) tc (fun b=>b<w.heap.size) W (by rw [HPV.out];exact HX.out) HGP.out (HHP.out.keep hb) (HM.out.keep hbw) ((hbw.block _ (Array.getElem?_eq_some_iff.1 HKK.out).1).trans HKK.out) (by rw [HNP.out];exact hp.keep hbw) (by rw [HNP.out];exact h1) h2 (fun W' h'=>HT.out W' (hbw.trans (h'.mono hbw.size)))
  rw [HNP.out] at h
  exact h)
 unfold BecVPost at HAL
 obtain ⟨a0,a1,a2,a3,a4,a5,-⟩:=six_cells HV2.out.bx
 go_upto_region 8 with fail
 go_cut [9,10] (fun v9 v10 wx=>∃ (xb:Nat) (y:Loc),v9=.pointer (some ⟨xb,0,none⟩)/\v10=.int .i64 0/\w.heap.size+1<xb/\Hid (y.v=x)/\Hid (wx.heap[xb]?=some (.cells #[.int .i64 y.v.k,.int .i64 y.v.n,.int .u64 y.v.f,.string y.v.s,.slice y.ad y.v.l.length y.cap,.slice y.bd y.v.e.length y.dap] 32))/\Hid (VAt wx (fun _=>True) y)/\Hid (V2 w (w.heap.size+1) #[.int .i64 q.v.k,.int .i64 q.v.n,.int .u64 q.v.f,.string q.v.s,.slice q.ad nl q.cap,.slice (some ⟨b1',o1,none⟩) ne q.dap] wx))
 case first =>
  refine wp_region_held_drew (S:=fun w'=>World.cell? w' ⟨w.heap.size,5,none⟩=some (.slice (some ⟨b1',o1,none⟩) ne q.dap)/\World.cell? w' ⟨b1',o1+ii * 7+1,none⟩=some (.int .i64 p1.v.k)/\World.cell? w' ⟨b1',o1+ii * 7+2,none⟩=some (.int .i64 p1.v.n)/\World.cell? w' ⟨b1',o1+ii * 7+3,none⟩=some (.int .u64 p1.v.f)/\World.cell? w' ⟨b1',o1+ii * 7+4,none⟩=some (.string p1.v.s)/\World.cell? w' ⟨b1',o1+ii * 7+5,none⟩=some (.slice p1.ad p1.v.l.length p1.cap)/\World.cell? w' ⟨b1',o1+ii * 7+6,none⟩=some (.slice p1.bd p1.v.e.length p1.dap)) (by kernel_rfl) ⟨a5,d0,d1,d2,d3,d4,d5⟩ (fun hHeld=>?_)
  refine wpAnyH_take (i:=0) (v:=.pointer (some ⟨w.heap.size,5,none⟩)) rfl (by kernel_rfl) (by kernel_rfl) (by kernel_rfl) (fun _ _ _ h=>h) (Or.inl ⟨by kernel_rfl,fun w' hSw=>?_⟩) (by assumption) ?_
  ·obtain ⟨s0,s1,s2,s3,s4,s5,s6⟩:=hSw;clear hHeld;go_simp;try rfl
  try simp only [Act.put,Go.setq]
  refine wpAnyH_take (i:=1) (v:=.slice (some ⟨b1',o1,none⟩) ne q.dap) rfl (by kernel_rfl) (by kernel_rfl) (by kernel_rfl) (fun _ _ _ h=>h) (Or.inl ⟨by kernel_rfl,fun w' hSw=>?_⟩) (by assumption) ?_
  ·obtain ⟨s0,s1,s2,s3,s4,s5,s6⟩:=hSw;clear hHeld;go_simp;try rfl
  try simp only [Act.put,Go.setq]
  refine wpAnyH_take (i:=2) (v:=.int .i64 (ii:Int)) rfl (by kernel_rfl) (by kernel_rfl) (by kernel_rfl) (fun _ _ _ h=>h) (Or.inl ⟨by kernel_rfl,fun w' hSw=>?_⟩) (by assumption) ?_
  ·obtain ⟨s0,s1,s2,s3,s4,s5,s6⟩:=hSw;clear hHeld;go_simp;try rfl
  try simp only [Act.put,Go.setq]
  refine wpAnyH_take (i:=3) (v:=.pointer (some ⟨b1',o1+ii * 7,none⟩)) rfl (by kernel_rfl) (by kernel_rfl) (by kernel_rfl) (fun _ _ _ h=>h) (Or.inl ⟨by kernel_rfl,fun w' hSw=>?_⟩) (by assumption) ?_
  ·obtain ⟨s0,s1,s2,s3,s4,s5,s6⟩:=hSw;clear hHeld;go_simp;try rfl
  try simp only [Act.put,Go.setq]
  refine wpAnyH_take (i:=4) (v:=.pointer (some ⟨b1',o1+ii * 7+1,none⟩)) rfl (by kernel_rfl) (by kernel_rfl) (by kernel_rfl) (fun _ _ _ h=>h) (Or.inl ⟨by kernel_rfl,fun w' hSw=>?_⟩) (by assumption) ?_
  ·obtain ⟨s0,s1,s2,s3,s4,s5,s6⟩:=hSw;clear hHeld;go_simp;try rfl
  try simp only [Act.put,Go.setq]
  refine wpAnyH_take (i:=5) (v:=.agg #[.int .i64 p1.v.k,.int .i64 p1.v.n,.int .u64 p1.v.f,.string p1.v.s,.slice p1.ad p1.v.l.length p1.cap,.slice p1.bd p1.v.e.length p1.dap]) rfl (by kernel_rfl) (by kernel_rfl) (by kernel_rfl) (fun _ _ _ h=>h) (Or.inl ⟨by kernel_rfl,fun w' hSw=>?_⟩) (by assumption) ?_
  ·obtain ⟨s0,s1,s2,s3,s4,s5,s6⟩:=hSw;clear hHeld;go_simp;try rfl
  try simp only [Act.put,Go.setq]
  refine wpAnyH_take (i:=6) (v:=.slice (some ⟨pb,po,none⟩) (np+1) pc) rfl (by kernel_rfl) (by kernel_rfl) (by kernel_rfl) (fun _ _ _ h=>h) (Or.inl ⟨by kernel_rfl,fun w' hSw=>?_⟩) (by assumption) ?_
  ·obtain ⟨s0,s1,s2,s3,s4,s5,s6⟩:=hSw;clear hHeld;go_simp;try rfl
  try simp only [Act.put,Go.setq]
  obtain ⟨tk,htk,hsr⟩:∃ tk:Nat,(if pc=1 then some (⟨pb,po,none⟩:Addr) else some ⟨pb,po+1,none⟩)=some ⟨pb,tk,none⟩/\SRow w (fun _=>True) p (.slice (some ⟨pb,tk,none⟩) np (pc - 1)):=by
   have ht:=HPT.out (pc - 1)
   rw [HNP.out] at ht
   by_cases hpc2:pc=1
   ·refine ⟨po,by rw [if_pos hpc2],?_⟩
    have h0:p=[]:=List.eq_nil_of_length_eq_zero (by rw [HNP.out];omega)
    have h1:np=0:=by omega
    rw [h0,h1];exact .nil _ _
   ·exact ⟨po+1,by rw [if_neg hpc2],ht⟩
  have HTK:=hid htk
  have HSR:=hid hsr
  have g1:(1:Int)<=((np+1:Nat):Int):=by omega
  have g2:((np+1:Nat):Int)<=(pc:Int):=by omega
  have g3:¬ ((np:Int)+1<1):=by omega
  clear htk hsr
  refine wpAnyH_take (i:=7) (v:=.slice (some ⟨pb,tk,none⟩) np (pc - 1)) rfl (by kernel_rfl) (by kernel_rfl) (by kernel_rfl) (fun _ _ _ h=>h) (Or.inl ⟨by kernel_rfl,fun w' hSw=>?_⟩) (by assumption) ?_
  ·clear hHeld hSw;rw [<-HTK.out];go_simp;try (intro h;exfalso;omega)
  try simp only [Act.put,Go.setq]
  refine wpAnyH_take (i:=8) (v:=(.func (.func 61) #[] #[.pointer (some ⟨Kb,0,none⟩)])) rfl (by kernel_rfl) (by kernel_rfl) (by kernel_rfl) (fun _ _ _ h=>h) (Or.inl ⟨by kernel_rfl,fun w' hSw=>?_⟩) (by assumption) ?_
  ·obtain ⟨s0,s1,s2,s3,s4,s5,s6⟩:=hSw;clear hHeld;go_simp;try rfl
  try simp only [Act.put,Go.setq]
  have HVd:Hid (V2 w (w.heap.size+1) #[.int .i64 q.v.k,.int .i64 q.v.n,.int .u64 q.v.f,.string q.v.s,.slice q.ad nl q.cap,.slice (some ⟨b1',o1,none⟩) ne q.dap] w2.drew):=hid (HV2.out.keep (Gx.drewN_below w2 1 _))
  have HGd:Hid (Below w2.heap.size w2 w2.drew):=hid (Gx.drewN_below w2 1 _)
  have HRW:Hid (∀ W,Below w2.heap.size w2 W->World.cell? W ⟨w.heap.size,5,none⟩=some (.slice (some ⟨b1',o1,none⟩) ne q.dap)/\World.cell? W ⟨b1',o1+ii * 7+1,none⟩=some (.int .i64 p1.v.k)/\World.cell? W ⟨b1',o1+ii * 7+2,none⟩=some (.int .i64 p1.v.n)/\World.cell? W ⟨b1',o1+ii * 7+3,none⟩=some (.int .u64 p1.v.f)/\World.cell? W ⟨b1',o1+ii * 7+4,none⟩=some (.string p1.v.s)/\World.cell? W ⟨b1',o1+ii * 7+5,none⟩=some (.slice p1.ad p1.v.l.length p1.cap)/\World.cell? W ⟨b1',o1+ii * 7+6,none⟩=some (.slice p1.bd p1.v.e.length p1.dap)):=hid (fun W hb=>by
   have hc:∀ b o,b<w2.heap.size->W.cell? ⟨b,o,none⟩=w2.cell? ⟨b,o,none⟩:=fun b o hl=>hb.cell (p:=⟨b,o,none⟩) hl
   have h1:=HV2.out.vlt
   have h2:=HV2.out.lt
   have h3:=HV2.out.g.size
   refine ⟨(hc _ _ (by omega)).trans a5,(hc _ _ (by omega)).trans d0,(hc _ _ (by omega)).trans d1,(hc _ _ (by omega)).trans d2,(hc _ _ (by omega)).trans d3,(hc _ _ (by omega)).trans d4,(hc _ _ (by omega)).trans d5⟩)
  generalize World.drew w2=wd at HVd HGd hHeld ⊢
  clear a0 a1 a2 a3 a4 a5 d0 d1 d2 d3 d4 d5
  refine wpAnyH_ready (rs:=[9,13]) (by kernel_rfl) (by simp) ?_
  refine AllReadyH.cons rfl (fun KK hK=>?_) (AllReadyH.cons rfl (fun KK hK=>?_) AllReadyH.nil)
  ·skip
   go_simp
   (with_reducible refine (HAL.out wd pb tk (pc - 1) HGd.out HSR.out (by omega) (by omega)).mono ?_)
   rintro e w5 ⟨y,rfl,hyv,hya,hb5⟩
   have HVw5:=hid (HVd.out.keep hb5)
   have HGw5:=hid (HGd.out.trans (hb5.mono HGd.out.size))
   have HYV:=hid hyv
   have HYA:Hid (VAt w5 (fun b=>b<w5.heap.size/\(b<w.heap.size\/wd.heap.size<=b)) y):=hid (hya.through (Nat.le_refl _) (fun _ _ _=>rfl) (fun b h1 h2=>⟨h2,h1⟩))
   try simp only [Loc.val]
   have hs2:=HV2.out.vlt
   have hs5:=HGw5.out.size
   clear hyv hya hb5 hHeld
   refine hK.out _ _ (HRW.out _ HGw5.out) (fun hHeld=>?_)
   clear hK KK
   try simp only [Act.put,Go.setq]
   refine wpAnyH_take (i:=10) (v:=.tuple #[.agg #[.int .i64 y.v.k,.int .i64 y.v.n,.int .u64 y.v.f,.string y.v.s,.slice y.ad y.v.l.length y.cap,.slice y.bd y.v.e.length y.dap],.int .i64 0]) rfl (by kernel_rfl) (by kernel_rfl) (by kernel_rfl) (fun _ _ _ h=>h) (Or.inl ⟨by kernel_rfl,fun w' hSw=>?_⟩) (by assumption) ?_
   ·clear hHeld hSw;go_simp;try rfl
   try simp only [Act.put,Go.setq]
   refine wpAnyH_take (i:=11) (v:=.agg #[.int .i64 y.v.k,.int .i64 y.v.n,.int .u64 y.v.f,.string y.v.s,.slice y.ad y.v.l.length y.cap,.slice y.bd y.v.e.length y.dap]) rfl (by kernel_rfl) (by kernel_rfl) (by kernel_rfl) (fun _ _ _ h=>h) (Or.inl ⟨by kernel_rfl,fun w' hSw=>?_⟩) (by assumption) ?_
   ·clear hHeld hSw;go_simp;try rfl
   try simp only [Act.put,Go.setq]
   refine wpAnyH_take (i:=12) (v:=.int .i64 0) rfl (by kernel_rfl) (by kernel_rfl) (by kernel_rfl) (fun _ _ _ h=>h) (Or.inl ⟨by kernel_rfl,fun w' hSw=>?_⟩) (by assumption) ?_
   ·clear hHeld hSw;go_simp;try rfl
   try simp only [Act.put,Go.setq]
   refine wpAnyH_ready (rs:=[13]) (by kernel_rfl) (by simp) ?_
   refine AllReadyH.cons rfl (fun KK hK=>?_) AllReadyH.nil
   go_simp
   have hal:=(Below.refl w5.heap.size w5).alloc (Nat.le_refl _) (.cells #[.int .i64 0,.int .i64 0,.int .u64 0,.string ⟨#[]⟩,.slice none 0 0,.slice none 0 0] 32)
   have HG6:=hid (HGw5.out.trans (hal.mono hs5))
   have HV6:=hid (HVw5.out.keep hal)
   have HC6:=hid (heap_alloc_new w5 (.cells #[.int .i64 0,.int .i64 0,.int .u64 0,.string ⟨#[]⟩,.slice none 0 0,.slice none 0 0] 32))
   have HY6:=hid (HYA.out.keep hal)
   clear hal HYA
   have HYA:=HY6
   obtain ⟨xb,hxb⟩:∃ xb,w5.heap.size=xb:=⟨_,rfl⟩
   rw [hxb] at HC6 HYA hs5 ⊢
   generalize World.alloc w5 _=w6 at HG6 HV6 HC6 HYA ⊢
   refine hK.out _ _ (HRW.out _ HG6.out) (fun hHeld=>?_)
   clear hK KK
   try simp only [Act.put,Go.setq]
   refine wpAnyH_ready (rs:=[14]) (by kernel_rfl) (by simp) ?_
   refine AllReadyH.cons rfl (fun KK hK=>?_) AllReadyH.nil
   obtain ⟨W8,hW8,hr8,hg8⟩:=val_all HC6.out (.int .i64 y.v.k) (.int .i64 y.v.n) (.int .u64 y.v.f) (.string y.v.s) (.slice y.ad y.v.l.length y.cap) (.slice y.bd y.v.e.length y.dap)
   have hz0:=six_cells HC6.out
   have z0:=hz0.1
   have z1:=hz0.2.1
   have z2:=hz0.2.2.1
   have z3:=hz0.2.2.2.1
   have z4:=hz0.2.2.2.2.1
   have z5:=hz0.2.2.2.2.2.1
   have zf0:=hz0.2.2.2.2.2.2 0
   have zf1:=hz0.2.2.2.2.2.2 1
   have zf2:=hz0.2.2.2.2.2.2 2
   have zf3:=hz0.2.2.2.2.2.2 3
   have zf4:=hz0.2.2.2.2.2.2 4
   have zf5:=hz0.2.2.2.2.2.2 5
   have HW8:=hid hW8
   clear hz0 hW8
   go_simp
   rw [<-HW8.out]
   clear z0 z1 z2 z3 z4 z5 zf0 zf1 zf2 zf3 zf4 zf5
   have HG8:Hid (Below w2.heap.size w2 W8):=hid (HG6.out.grown hg8 HG6.out.size (fun b e=>by have:=Option.some.inj e;omega))
   refine hK.out _ _ (HRW.out _ HG8.out) (fun hHeld2=>?_)
   clear hK KK
   try simp only [Act.put,Go.setq]
   refine wpAnyH_take (i:=15) (v:=.int .i64 0) rfl (by kernel_rfl) (by kernel_rfl) (by kernel_rfl) (fun _ _ _ h=>h) (Or.inl ⟨by kernel_rfl,fun w' hSw=>?_⟩) (by assumption) ?_
   ·clear hHeld2 hSw;go_simp;try rfl
   try simp only [Act.put,Go.setq]
   refine wpAnyH_done (by kernel_rfl) ?_ _
   go_wp2_with fail
   go_meet
   exact ⟨xb,y,rfl,rfl,by omega,HYV,hid hr8,hid ((HYA.out.grow hg8 (fun b e hb=>by have:=Option.some.inj e;omega)).weak (fun _ _ _=>trivial)),hid (HV6.out.grow hg8 (fun b e=>by have:=Option.some.inj e;omega))⟩
  ·skip
   go_simp
   have hs2:=HV2.out.vlt
   have hsd:=HGd.out.size
   have hal:=(Below.refl wd.heap.size wd).alloc (Nat.le_refl _) (.cells #[.int .i64 0,.int .i64 0,.int .u64 0,.string ⟨#[]⟩,.slice none 0 0,.slice none 0 0] 32)
   have HGa:=hid (HGd.out.trans (hal.mono hsd))
   have HVa:=hid (HVd.out.keep hal)
   have HCa:=hid (heap_alloc_new wd (.cells #[.int .i64 0,.int .i64 0,.int .u64 0,.string ⟨#[]⟩,.slice none 0 0,.slice none 0 0] 32))
   have hsa:(wd.alloc (.cells #[.int .i64 0,.int .i64 0,.int .u64 0,.string ⟨#[]⟩,.slice none 0 0,.slice none 0 0] 32)).heap.size=wd.heap.size+1:=World.size_alloc _ _
   clear hal
   obtain ⟨xb,hxb⟩:∃ xb,wd.heap.size=xb:=⟨_,rfl⟩
   rw [hxb] at HCa hsa hsd ⊢
   generalize World.alloc wd _=wa at HGa HVa HCa hsa ⊢
   refine hK.out _ _ (HRW.out _ HGa.out) (fun hHeld=>?_)
   clear hK KK
   try simp only [Act.put,Go.setq]
   refine wpAnyH_ready (rs:=[9]) (by kernel_rfl) (by simp) ?_
   refine AllReadyH.cons rfl (fun KK hK=>?_) AllReadyH.nil
   go_simp
   (with_reducible refine (HAL.out wa pb tk (pc - 1) HGa.out HSR.out (by omega) (by omega)).mono ?_)
   rintro e w5 ⟨y,rfl,hyv,hya,hb5⟩
   have HVw5:=hid (HVa.out.keep hb5)
   have HGw5:=hid (HGa.out.trans (hb5.mono HGa.out.size))
   have HYV:=hid hyv
   have HYA:Hid (VAt w5 (fun b=>b<w5.heap.size/\(b<w.heap.size\/wa.heap.size<=b)) y):=hid (hya.through (Nat.le_refl _) (fun _ _ _=>rfl) (fun b h1 h2=>⟨h2,h1⟩))
   try simp only [Loc.val]
   have HC5:=hid ((hb5.block xb (by omega)).trans HCa.out)
   clear hyv hya hb5 hHeld
   refine hK.out _ _ (HRW.out _ HGw5.out) (fun hHeld=>?_)
   clear hK KK
   try simp only [Act.put,Go.setq]
   refine wpAnyH_take (i:=10) (v:=.tuple #[.agg #[.int .i64 y.v.k,.int .i64 y.v.n,.int .u64 y.v.f,.string y.v.s,.slice y.ad y.v.l.length y.cap,.slice y.bd y.v.e.length y.dap],.int .i64 0]) rfl (by kernel_rfl) (by kernel_rfl) (by kernel_rfl) (fun _ _ _ h=>h) (Or.inl ⟨by kernel_rfl,fun w' hSw=>?_⟩) (by assumption) ?_
   ·clear hHeld hSw;go_simp;try rfl
   try simp only [Act.put,Go.setq]
   refine wpAnyH_take (i:=11) (v:=.agg #[.int .i64 y.v.k,.int .i64 y.v.n,.int .u64 y.v.f,.string y.v.s,.slice y.ad y.v.l.length y.cap,.slice y.bd y.v.e.length y.dap]) rfl (by kernel_rfl) (by kernel_rfl) (by kernel_rfl) (fun _ _ _ h=>h) (Or.inl ⟨by kernel_rfl,fun w' hSw=>?_⟩) (by assumption) ?_
   ·clear hHeld hSw;go_simp;try rfl
   try simp only [Act.put,Go.setq]
   refine wpAnyH_take (i:=12) (v:=.int .i64 0) rfl (by kernel_rfl) (by kernel_rfl) (by kernel_rfl) (fun _ _ _ h=>h) (Or.inl ⟨by kernel_rfl,fun w' hSw=>?_⟩) (by assumption) ?_
   ·clear hHeld hSw;go_simp;try rfl
   try simp only [Act.put,Go.setq]
   refine wpAnyH_ready (rs:=[14]) (by kernel_rfl) (by simp) ?_
   refine AllReadyH.cons rfl (fun KK hK=>?_) AllReadyH.nil
   obtain ⟨W8,hW8,hr8,hg8⟩:=val_all HC5.out (.int .i64 y.v.k) (.int .i64 y.v.n) (.int .u64 y.v.f) (.string y.v.s) (.slice y.ad y.v.l.length y.cap) (.slice y.bd y.v.e.length y.dap)
   have hz0:=six_cells HC5.out
   have z0:=hz0.1
   have z1:=hz0.2.1
   have z2:=hz0.2.2.1
   have z3:=hz0.2.2.2.1
   have z4:=hz0.2.2.2.2.1
   have z5:=hz0.2.2.2.2.2.1
   have zf0:=hz0.2.2.2.2.2.2 0
   have zf1:=hz0.2.2.2.2.2.2 1
   have zf2:=hz0.2.2.2.2.2.2 2
   have zf3:=hz0.2.2.2.2.2.2 3
   have zf4:=hz0.2.2.2.2.2.2 4
   have zf5:=hz0.2.2.2.2.2.2 5
   have HW8:=hid hW8
   clear hz0 hW8
   go_simp
   rw [<-HW8.out]
   clear z0 z1 z2 z3 z4 z5 zf0 zf1 zf2 zf3 zf4 zf5
   have HG8:Hid (Below w2.heap.size w2 W8):=hid (HGw5.out.grown hg8 HGw5.out.size (fun b e=>by have:=Option.some.inj e;omega))
   refine hK.out _ _ (HRW.out _ HG8.out) (fun hHeld2=>?_)
   clear hK KK
   try simp only [Act.put,Go.setq]
   refine wpAnyH_take (i:=15) (v:=.int .i64 0) rfl (by kernel_rfl) (by kernel_rfl) (by kernel_rfl) (fun _ _ _ h=>h) (Or.inl ⟨by kernel_rfl,fun w' hSw=>?_⟩) (by assumption) ?_
   ·clear hHeld2 hSw;go_simp;try rfl
   try simp only [Act.put,Go.setq]
   refine wpAnyH_done (by kernel_rfl) ?_ _
   go_wp2_with fail
   go_meet
   exact ⟨xb,y,rfl,rfl,by omega,HYV,hid hr8,hid ((HYA.out.grow hg8 (fun b e hb=>by have:=Option.some.inj e;omega)).weak (fun _ _ _=>trivial)),hid (HVw5.out.grow hg8 (fun b e=>by have:=Option.some.inj e;omega))⟩
 case rest =>
  obtain ⟨xb,y,rfl,rfl,hxb,HYV,HCX,HYA,HVc⟩:=hcut
  clear a0 a1 a2 a3 a4 a5 d0 d1 d2 d3 d4 d5 HAL HHP HWG HIH HPT HM HKK HT HG HGP HX HPV HV2
  have k0:wc.cell? ⟨pb,po,none⟩=some (.string s):=(HVc.out.g.cell (p:=⟨pb,po,none⟩) hpl).trans HS0.out
  obtain ⟨a0,a1,a2,a3,a4,a5,-⟩:=six_cells HVc.out.bx
  obtain ⟨c0,c1,c2,c3,c4,c5,-⟩:=six_cells HCX.out
  have hput:=put_any q.bd q.dap ne q.v.e s y wc.drew (by rw [<-HNE.out];exact (HQT.out.e.keep HVc.out.g).keep (Gx.drewN_below wc 1 _)) HNE.out (by omega) (HYA.out.keep (Gx.drewN_below wc 1 _)) HS1.out
  unfold PutVPost Loc.val at hput
  rw [HQB.out] at hput
  have HPUT:=hid hput
  clear hput
  go_upto_region 10 with fail
  go_still_tail 6,(by kernel_rfl)
  change wpList _ _ _ _ _ wc.drew
  go_wp2_with fail
  (with_reducible refine HPUT.out.mono ?_)
  rintro e w5 ⟨vo,vc,n5,rfl,hlen,hrow,hb5⟩
  have HV5:=hid (HVc.out.keep ((Gx.drewN_below wc 1 _).trans hb5))
  have HLEN:Hid ((putL q.v.e s x).length=n5):=hid (by rw [<-HYV.out];exact hlen)
  have HROW:Hid (RowAt w5 (fun b=>w.heap.size+1<b) true (putL q.v.e s x) (.slice vo n5 vc)):=hid (by rw [<-HYV.out];exact hrow.weak (fun b hb _=>by have h1:=HVc.out.vlt;have h2:wc.heap.size<=wc.drew.heap.size:=Nat.le_refl _;omega))
  have HQL:=hid (HLOW.out.keep HV5.out.g)
  clear hlen hrow hb5 a0 a1 a2 a3 a4 a5 c0 c1 c2 c3 c4 c5 k0 HPUT HCX HVc HYA
  obtain ⟨a0,a1,a2,a3,a4,a5,af⟩:=six_cells HV5.out.bx
  have af5:=af 5
  have gx:=grown_cell w5 w.heap.size 5 (.slice vo n5 vc)
  have hv6:=HV5.out.setX (vone_store HV5.out.bx 5 (.slice vo n5 vc)) gx
  have hr6:=HROW.out.grow gx (fun b e hb=>by have:=Option.some.inj e;omega)
  have hl6:=HQL.out.grow gx (fun b e hb=>by have:=Option.some.inj e;have:=hb.2;omega)
  have H6:=hid hv6
  have HR6:=hid hr6
  have HL6:=hid hl6
  clear gx hv6 hr6 hl6 af HROW
  go_upto_region 11 with fail
  generalize World.setCell w5 _ _=w6 at H6 HR6 HL6 ⊢
  clear a0 a1 a2 a3 a4 a5 af5 HV5
  obtain ⟨a0,a1,a2,a3,a4,a5,-⟩:=six_cells H6.out.bx
  obtain ⟨p0,p1,p2,p3,p4,p5,pf⟩:=six_cells H6.out.res
  have pf0:=pf 0
  have pf1:=pf 1
  have pf2:=pf 2
  have pf3:=pf 3
  have pf4:=pf 4
  have pf5:=pf 5
  obtain ⟨W9,hW9,hr9,hg9⟩:=val_all H6.out.res (.int .i64 q.v.k) (.int .i64 q.v.n) (.int .u64 q.v.f) (.string q.v.s) (.slice q.ad nl q.cap) (.slice vo n5 vc)
  obtain ⟨q0,q1',q2',q3,q4',q5,-⟩:=six_cells hr9
  have HW9:=hid hW9
  have HPOST:Hid (BecVPost z B w (.returned (.tuple #[.agg #[.int .i64 q.v.k,.int .i64 q.v.n,.int .u64 q.v.f,.string q.v.s,.slice q.ad nl q.cap,.slice vo n5 vc],.int .i64 0])) W9):=hid (by
   refine ⟨⟨setE q.v (putL q.v.e s x),q.ad,q.cap,vo,vc⟩,?_,HZ.out.symm,⟨?_,?_,?_⟩,H6.out.g.grown hg9 (by have:=H6.out.vlt;omega) (fun b e=>by have:=Option.some.inj e;omega)⟩
   ·unfold Loc.val
    rw [show (setE q.v (putL q.v.e s x)).l.length=nl from HNL.out,show (setE q.v (putL q.v.e s x)).e.length=n5 from HLEN.out]
    rfl
   ·exact ⟨HQ.out.wf.k0,HQ.out.wf.k1,HQ.out.wf.n0,HQ.out.wf.n1,HQ.out.wf.f0,HQ.out.wf.f1,HQ.out.wf.s1⟩
   ·show RowAt W9 _ false (lp q.v.l) (.slice q.ad q.v.l.length q.cap)
    rw [HNL.out]
    exact (HL6.out.grow hg9 (fun b e hb=>by have:=Option.some.inj e;have:=hb.2;omega)).weak (fun b hb _=>.inl hb.1)
   ·show RowAt W9 _ true (putL q.v.e s x) (.slice vo ((putL q.v.e s x)).length vc)
    rw [HLEN.out]
    exact (HR6.out.grow hg9 (fun b e hb=>by have:=Option.some.inj e;omega)).weak (fun b hb _=>.inr (by omega)))
  clear hW9 hr9 hg9 pf
  go_wp2_with fail
  rw [<-HW9.out]
  exact bodyPost_ret (v:=.tuple #[.agg #[.int .i64 q.v.k,.int .i64 q.v.n,.int .u64 q.v.f,.string q.v.s,.slice q.ad nl q.cap,.slice vo n5 vc],.int .i64 0]) (by simp [results,Tryz.results60,go_sem,q0,q1',q2',q3,q4',q5]) rfl HPOST.out
theorem along_any (m:Lm) (Kb:Nat):∀ p,AlongC m Kb p
 | []=>along_nil m Kb
 | s::p=>along_cons m Kb s p (along_any m Kb p)
end Go.Proofs.YtgnonbdkmmkdgaaGreatDoor
