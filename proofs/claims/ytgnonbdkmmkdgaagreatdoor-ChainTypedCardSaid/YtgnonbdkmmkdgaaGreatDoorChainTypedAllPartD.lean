/-
  Lemmas for the statement: plain laws, and what functions answer; the conditions stand in each.
-/
import Derived.Laws.CopyRow
import Derived.Laws.Externs
import Derived.Lib.Overlaps
import Derived.Lib.AppendZerosOnto
import Derived.Test.YtgnonbdkmmkdgaaGreatDoorChecked
import Derived.Deep.Slices
import Derived.ChangeSame
import Derived.Test.YtgnonbdkmmkdgaaGreatDoorChainTypedAllPartC
set_option linter.unusedVariables false
set_option linter.unusedSimpArgs false
set_option maxHeartbeats 16000000
set_option maxRecDepth 100000
open Go.Lib (hid)
namespace Go.Proofs.YtgnonbdkmmkdgaaGreatDoor
open Go.RowKit Gx
def CopyPost (v:V) (w:World) (e:Ending) (w':World):Prop:=∃ p:Loc,e=.returned p.val/\p.v=v/\VAt w' (fun b=>w.heap.size<=b) p/\Below w.heap.size w w'
structure OS (w:World) (k n f:Int) (s:ByteArray) (sl se:Value) (W:World):Prop where
 box:W.heap[w.heap.size]?=some (.cells #[.int .i64 k,.int .i64 n,.int .u64 f,.string s,sl,se] 32)
 res:W.heap[w.heap.size+1]?=some (.cells #[.int .i64 0,.int .i64 0,.int .u64 0,.string ⟨#[]⟩,.slice none 0 0,.slice none 0 0] 32)
 g:Below w.heap.size w W
namespace OS
variable {w W W':World} {k n f:Int} {s:ByteArray} {sl se:Value}
theorem vlt (h:OS w k n f s sl se W):w.heap.size+1<W.heap.size:=(Array.getElem?_eq_some_iff.1 h.res).1
theorem grow (h:OS w k n f s sl se W) {r:Option Nat} (hg:W.grownBy W' r) (hr:∀ b,r=some b->w.heap.size+1<b):OS w k n f s sl se W':=by
 have h1:=h.vlt
 exact ⟨(hg.block _ (by omega) (fun e=>by have:=hr _ e.symm;omega)).trans h.box,(hg.block _ h1 (fun e=>by have:=hr _ e.symm;omega)).trans h.res,
  ⟨hg.os.trans h.g.os,hg.tape.trans h.g.tape,hg.output.trans h.g.output,Nat.le_trans h.g.size hg.size,fun i hi=>(hg.block i (by omega) (fun e=>by have:=hr _ e.symm;omega)).trans (h.g.block i hi)⟩⟩
theorem keep (h:OS w k n f s sl se W) (hb:Below W.heap.size W W'):OS w k n f s sl se W':=h.grow (grown_none hb) (fun _ e=>absurd e (by simp))
theorem setAll (h:OS w k n f s sl se W) (j:Nat) (u:Value) {sl' se':Value} (he:#[Value.int .i64 k,.int .i64 n,.int .u64 f,.string s,sl,se].setIfInBounds j u=#[.int .i64 k,.int .i64 n,.int .u64 f,.string s,sl',se']) :
 OS w k n f s sl' se' (W.setCell ⟨w.heap.size,j,none⟩ u):=by
 have h1:=h.vlt
 exact ⟨by rw [six_store h.box j u,he],((grown_cell W _ j u).block _ h1 (fun e=>by have:=Option.some.inj e;omega)).trans h.res,h.g.setCell (Nat.le_refl _) u⟩
theorem setL (h:OS w k n f s sl se W) (u:Value):OS w k n f s u se (W.setCell ⟨w.heap.size,4,none⟩ u):=h.setAll 4 u rfl
theorem setE (h:OS w k n f s sl se W) (u:Value):OS w k n f s sl u (W.setCell ⟨w.heap.size,5,none⟩ u):=h.setAll 5 u rfl
theorem cells (h:OS w k n f s sl se W):W.cell? ⟨w.heap.size,0,none⟩=some (.int .i64 k)/\W.cell? ⟨w.heap.size,1,none⟩=some (.int .i64 n)/\W.cell? ⟨w.heap.size,2,none⟩=some (.int .u64 f)/\W.cell? ⟨w.heap.size,3,none⟩=some (.string s)/\W.cell? ⟨w.heap.size,4,none⟩=some sl/\W.cell? ⟨w.heap.size,5,none⟩=some se/\(∀ j,W.frozen? ⟨w.heap.size,j,none⟩=false):=six_cells h.box
theorem start (w:World) (q:Loc):OS w q.v.k q.v.n q.v.f q.v.s (.slice q.ad q.v.l.length q.cap) (.slice q.bd q.v.e.length q.dap) ((w.alloc (.cells #[.int .i64 q.v.k,.int .i64 q.v.n,.int .u64 q.v.f,.string q.v.s,.slice q.ad q.v.l.length q.cap,.slice q.bd q.v.e.length q.dap] 32)).alloc (.cells #[.int .i64 0,.int .i64 0,.int .u64 0,.string ⟨#[]⟩,.slice none 0 0,.slice none 0 0] 32)):=by
 refine ⟨?_,?_,((Below.refl _ w).alloc (Nat.le_refl _) _).alloc (by simp) _⟩
 ·rw [Below.heap_alloc _ _ _ (by simp)]
  exact heap_alloc_new w _
 ·have:=heap_alloc_new (w.alloc (.cells #[.int .i64 q.v.k,.int .i64 q.v.n,.int .u64 q.v.f,.string q.v.s,.slice q.ad q.v.l.length q.cap,.slice q.bd q.v.e.length q.dap] 32)) (.cells #[.int .i64 0,.int .i64 0,.int .u64 0,.string ⟨#[]⟩,.slice none 0 0,.slice none 0 0] 32)
  rwa [World.size_alloc] at this
end OS
theorem take_snoc {α:Type} {l:List α} {j:Nat} {x:α} (h:l[j]?=some x):l.take (j+1)=l.take j++[x]:=by
 obtain ⟨hj,rfl⟩:=List.getElem?_eq_some_iff.1 h
 exact List.take_succ_eq_append_getElem hj
theorem own_step (v:V) (ad bd:Option Addr) (cap dap:Nat) (w:World) (hq:VAt w (fun _=>True) ⟨v,ad,cap,bd,dap⟩)
 (ih:∀ (q:Loc) (w:World),SizeOf.sizeOf q.v<SizeOf.sizeOf v->VAt w (fun _=>True) q->Calls Tryz.prog 20 #[q.val] w (CopyPost q.v w)) :
 Calls Tryz.prog 20 #[.agg #[.int .i64 v.k,.int .i64 v.n,.int .u64 v.f,.string v.s,.slice ad v.l.length cap,.slice bd v.e.length dap]] w (CopyPost v w):=by
 have hos:=OS.start w ⟨v,ad,cap,bd,dap⟩
 have HQ:=hid hq
 have IH:=hid ih
 have hl1:=hq.l.lbound
 have he1:=hq.e.ebound
 simp only at hl1 he1 hos
 obtain ⟨nl,hnl⟩:∃ nl,v.l.length=nl:=⟨_,rfl⟩
 obtain ⟨ne,hne⟩:∃ ne,v.e.length=ne:=⟨_,rfl⟩
 rw [hnl,hne] at hos ⊢
 rw [hnl] at hl1
 rw [hne] at he1
 have HNL:=hid hnl
 have HNE:=hid hne
 clear hq ih hnl hne
 go_enter Tryz.func20,Tryz.ntmps20
 go_upto_region 1 with fail
 generalize hw2:World.alloc (World.alloc w _) _=w2 at hos ⊢
 obtain ⟨a0,a1,a2,a3,a4,a5,af⟩:=hos.cells
 have HOS:=hid hos
 clear hw2 hos
 go_quiet (fail)
 have hos2:=(HOS.out.keep (Gx.drewN_below w2 nq _))
 generalize hw3:w2.drewN nq=w3 at hos2 ⊢
 have hos3:=hos2.setL (.slice none 0 0)
 have hos4:=hos3.setE (.slice none 0 0)
 have af4:=hos2.cells.2.2.2.2.2.2 4
 have af5:=hos3.cells.2.2.2.2.2.2 5
 clear hw3 HOS a0 a1 a2 a3 a4 a5 af
 obtain ⟨a0,a1,a2,a3,a4,a5,af⟩:=hos2.cells
 obtain ⟨b0,b1,b2,b3,b4,b5,bf⟩:=hos3.cells
 have HOS:=hid hos4
 clear hos2 hos3 hos4 af bf
 go_wp2_with fail
 clear a0 a1 a2 a3 a4 a5 b0 b1 b2 b3 b4 b5 af4 af5
 go_loopw [17] (fun v17 wr=>∃ (k:Nat) (ps:List (ByteArray×Loc)) (ao:Option Addr) (cp:Nat),k<=nl/\v17=.int .i64 k/\Hid (ps.length=k)/\Hid (OS w v.k v.n v.f v.s (.slice ao k cp) (.slice none 0 0) wr)/\Hid (Acc wr (w.heap.size+1) false 32 (.slice ao k cp) ps)/\Hid (∀ p∈ps,p.1=⟨#[]⟩)/\Hid (ps.map (·.2.v)=v.l.take k)) (fun v17 _=>nl - (intOf v17).toNat)
 case atStart=>exact ⟨0,[],none,0,Nat.zero_le _,rfl,hid rfl,HOS,hid (Acc.nil _ _ _ _),hid (fun _ h=>absurd h List.not_mem_nil),hid rfl⟩
 case round =>
  obtain ⟨k,ps,ao,cp,hk,rfl,HN,HO,HA,HZ,HTK⟩:=hrel
  clear HOS
  by_cases hlt:k<nl
  ·obtain ⟨x,hx⟩:∃ x,v.l[k]?=some x:=⟨_,List.getElem?_eq_getElem (by rw [HNL.out];exact hlt)⟩
   obtain ⟨b1,o1,hd1,-,hbl1,hcs1⟩:=HQ.out.l.elem (by show 0<v.l.length;rw [HNL.out];omega)
   simp only at hd1
   subst hd1
   obtain ⟨q1,hq1,hv1,hg1⟩:=hcs1 k x hx
   clear hcs1
   have hg:=HO.out.g
   obtain ⟨c0,c1,c2,c3,c4,c5⟩:=hg1.through (hg.block _ hbl1)
   have r1:(0:Int)<=(k:Int):=by omega
   have r2:(k:Int)<(nl:Int):=by omega
   have r4:(k:Int).toNat=k:=rfl
   have hba:=(Below.refl wr.heap.size wr).alloc (Nat.le_refl _) (.cells #[.int .i64 q1.v.k,.int .i64 q1.v.n,.int .u64 q1.v.f,.string q1.v.s,.slice q1.ad q1.v.l.length q1.cap,.slice q1.bd q1.v.e.length q1.dap] 32)
   have hob:=HO.out.keep hba
   have hab:=HA.out.grow (grown_none hba) (fun _ e=>absurd e (by simp))
   have hvb:=(hv1.keep hg).keep hba
   have hcb:=CellsAt.box (q:=q1) (heap_alloc_new wr (.cells #[.int .i64 q1.v.k,.int .i64 q1.v.n,.int .u64 q1.v.f,.string q1.v.s,.slice q1.ad q1.v.l.length q1.cap,.slice q1.bd q1.v.e.length q1.dap] 32))
   have hwl:wr.heap.size<(wr.alloc (.cells #[.int .i64 q1.v.k,.int .i64 q1.v.n,.int .u64 q1.v.f,.string q1.v.s,.slice q1.ad q1.v.l.length q1.cap,.slice q1.bd q1.v.e.length q1.dap] 32)).heap.size:=by simp
   have HX:Hid (v.l[k]?=some q1.v):=hid (by rw [hx,hq1])
   have HSZ:Hid (SizeOf.sizeOf q1.v<SizeOf.sizeOf v):=hid (by rw [hq1];exact V.lt_l (List.mem_of_getElem? hx))
   have HRA:=hid (show w.heap.size+1<wr.heap.size from HO.out.vlt)
   clear hx hq1 hv1 hg1 hg hba HO HA
   go_upto_region 6 with fail
   generalize hwx:World.alloc wr _=wx at hob hab hvb hcb hwl ⊢
   generalize hxb:wr.heap.size=xb at hcb hwl HRA ⊢
   have HOB:=hid (hab.above)
   have HOd:=hid (hob.keep (Gx.drewN_below wx 1 _))
   have HAd:Hid (Acc wx.drew (w.heap.size+1) false 32 (.slice ao k cp) ps):=hid (hab.grow (r:=none) ⟨rfl,rfl,rfl,Nat.le_refl _,fun _ _ _=>rfl⟩ (fun _ e=>absurd e (by simp)))
   have hih:=IH.out q1 wx.drew HSZ.out (hvb.keep (Gx.drewN_below wx 1 _))
   simp only [Loc.val] at hih
   have HCd:=hid hih
   obtain ⟨e0,e1,e2,e3,e4,e5⟩:=hcb
   obtain ⟨-,-,-,-,k4,-,-⟩:=hob.cells
   clear hwx hxb c0 c1 c2 c3 c4 c5 hob hab hvb hih
   go_region_law (first
    | (go_simp;(with_reducible refine HCd.out.mono ?_);rintro e w5 ⟨p,rfl,hpv,hp,hb5⟩;have ho5:=HOd.out.keep hb5;obtain ⟨-,-,-,-,k5,-,-⟩:=ho5.cells;obtain ⟨-,-,-,-,k5a,-,-⟩:=(ho5.grow (World.grownBy_alloc w5 (.cells #[.int .i64 p.v.k,.int .i64 p.v.n,.int .u64 p.v.f,.string p.v.s,.slice p.ad p.v.l.length p.cap,.slice p.bd p.v.e.length p.dap] 32) none) (fun b e=>absurd e (by simp))).cells;have HO5:=hid ho5;have HA5:=hid (HAd.out.grow (grown_none hb5) (fun _ e=>absurd e (by simp)));have HQ5:=hid (HAd.out.fresh HOd.out.vlt hp);have HPV:=hid hpv;clear hp hb5 hpv ho5;simp only [Loc.val])
    | (refine step_acc Tryz.underlying29 Tryz.info_val rfl (by decide) rfl (.tmp 22) (.tmp 25) rfl HA5.out HO5.out.vlt (⟨#[]⟩,p) HQ5.out (by show (0:Nat)<=140737488351232;decide) _ rfl rfl rfl k HN.out (by omega) (by omega) ?_;intro ao6 c6 w6 ha6 hg6;have ho6:=HO5.out.grow hg6 HOB.out;obtain ⟨-,-,-,-,k6,-,kf⟩:=ho6.cells;have kf6:=kf 4;have HO6:=hid ho6;have HA6:=hid ha6;clear ha6 hg6 ho6 kf))
   all_goals
    go_wp2_with fail
    obtain ⟨y,hy⟩:∃ y:ByteArray×Loc,(⟨#[]⟩,p)=y:=⟨_,rfl⟩
    have hy1:y.1=⟨#[]⟩:=by rw [<-hy]
    have hyv:y.2.v=q1.v:=by rw [<-hy];exact HPV.out
    have ho:=HO6.out.setL (.slice ao6 (k+1) c6)
    have ha:=HA6.out.grow (grown_cell w6 w.heap.size 4 (.slice ao6 (k+1) c6)) (fun b e=>by have:=Option.some.inj e;omega)
    rw [hy] at ha
    have H1:=hid ho
    have H2:=hid ha
    have H3:Hid ((ps++[y]).length=k+1):=hid (by rw [List.length_append,HN.out];rfl)
    have H4:Hid (∀ z∈ps++[y],z.1=⟨#[]⟩):=hid (fun z hz=>by
     rcases List.mem_append.1 hz with hz|hz
     ·exact HZ.out z hz
     ·obtain rfl:z=y:=by simpa using hz
      exact hy1)
    have H5:Hid ((ps++[y]).map (·.2.v)=v.l.take (k+1)):=hid (by
     rw [List.map_append,HTK.out,take_snoc HX.out,<-hyv];rfl)
    clear ho ha hy1 hyv hy HO6 HA6 HO5 HA5 HQ5 HPV HOd HAd
    go_roundw
    case rel=>exact ⟨k+1,ps++[y],ao6,c6,by omega,by go_num,H3,H1,H2,H4,H5⟩
    case measure=>simp [intOf];omega
  ·obtain rfl:k=nl:=by omega
   obtain ⟨wo,hwo⟩:∃ wo:World,wo=wr:=⟨_,rfl⟩
   rw [<-hwo] at HO HA ⊢
   have hml:=HO.out.vlt
   obtain ⟨M,hM⟩:∃ M,wo.heap.size=M+1:=⟨wo.heap.size - 1,by omega⟩
   have hrow:=HA.out.row (xs:=lp v.l) (by rw [HN.out];simpa [st] using hl1) (by
    have h:=HTK.out
    rw [<-HNL.out,List.take_length] at h
    rw [<-h]
    unfold lp
    rw [List.map_map]
    exact List.map_congr_left (fun p hp=>by rw [HZ.out p hp];rfl))
   have HRL:Hid (RowAt wo (fun b=>w.heap.size+1<b/\b<M+1) false (lp v.l) (.slice ao k cp)):=hid (hrow.weak (fun b hb hl=>⟨hb,by omega⟩))
   have hM1:w.heap.size+1<=M:=by omega
   clear hwo wr HA HZ HTK HN hlt hk hrow hml
   go_wp2_with fail
   go_loopw [31] (fun v31 wr=>∃ (j:Nat) (ps:List (ByteArray×Loc)) (bo:Option Addr) (cq:Nat),j<=ne/\v31=.int .i64 j/\Hid (ps.length=j)/\Hid (OS w v.k v.n v.f v.s (.slice ao k cp) (.slice bo j cq) wr)/\Hid (Acc wr M true 96 (.slice bo j cq) ps)/\Hid (RowAt wr (fun b=>w.heap.size+1<b/\b<M+1) false (lp v.l) (.slice ao k cp))/\Hid (ps.map (fun p=>(p.1,p.2.v))=v.e.take j)/\Hid (M+1<=wr.heap.size)) (fun v31 _=>ne - (intOf v31).toNat)
   case atStart=>exact ⟨0,[],none,0,Nat.zero_le _,rfl,hid rfl,HO,hid (Acc.nil _ _ _ _),HRL,hid rfl,hid (Nat.le_of_eq hM.symm)⟩
   case round =>
    obtain ⟨j,ps,bo,cq,hj,rfl,HN,HOq,HA,HR,HTK,HMl⟩:=hrel
    clear HO HRL
    by_cases hlt:j<ne
    ·obtain ⟨x,hx⟩:∃ x,v.e[j]?=some x:=⟨_,List.getElem?_eq_getElem (by rw [HNE.out];exact hlt)⟩
     obtain ⟨b1,o1,hd1,-,hbl1,hcs1⟩:=HQ.out.e.entry (by show 0<v.e.length;rw [HNE.out];omega)
     simp only at hd1
     subst hd1
     obtain ⟨hkl,gk1,q1,hq1,hv1,hg1⟩:=hcs1 j x hx
     clear hcs1
     have hg:=HOq.out.g
     have k1:wr.cell? ⟨b1,o1+j * 7,none⟩=some (.string x.1):=(hg.cell (p:=⟨b1,_,none⟩) hbl1).trans gk1
     obtain ⟨c0,c1,c2,c3,c4,c5⟩:=(hg1.through (hg.block _ hbl1)).seven
     have r1:(0:Int)<=(j:Int):=by omega
     have r2:(j:Int)<(ne:Int):=by omega
     have r4:(j:Int).toNat=j:=rfl
     obtain ⟨s,hs⟩:∃ s,x.1=s:=⟨_,rfl⟩
     have HX:Hid (v.e[j]?=some (s,q1.v)):=hid (by rw [hx,hq1,<-hs])
     have HSZ:Hid (SizeOf.sizeOf q1.v<SizeOf.sizeOf v):=hid (by rw [hq1];exact V.lt_e (List.mem_of_getElem? hx))
     rw [hs] at hkl k1
     have hba:=(Below.refl wr.heap.size wr).alloc (Nat.le_refl _) (.cells #[.string s,.int .i64 q1.v.k,.int .i64 q1.v.n,.int .u64 q1.v.f,.string q1.v.s,.slice q1.ad q1.v.l.length q1.cap,.slice q1.bd q1.v.e.length q1.dap] 96)
     have hob:=HOq.out.keep hba
     have hab:=HA.out.grow (grown_none hba) (fun _ e=>absurd e (by simp))
     have hrb:=HR.out.keep hba
     have hvb:=(hv1.keep hg).keep hba
     have hcb:=heap_alloc_new wr (.cells #[.string s,.int .i64 q1.v.k,.int .i64 q1.v.n,.int .u64 q1.v.f,.string q1.v.s,.slice q1.ad q1.v.l.length q1.cap,.slice q1.bd q1.v.e.length q1.dap] 96)
     have hml:=Nat.le_trans HMl.out hba.size
     have hxl:wr.heap.size<(wr.alloc (.cells #[.string s,.int .i64 q1.v.k,.int .i64 q1.v.n,.int .u64 q1.v.f,.string q1.v.s,.slice q1.ad q1.v.l.length q1.cap,.slice q1.bd q1.v.e.length q1.dap] 96)).heap.size:=by simp
     clear hx hq1 hv1 hg1 hg hba HOq HA HR gk1 hs
     go_upto_region 11 with fail
     generalize hwx:World.alloc wr _=wx at hob hab hrb hvb hcb hml hxl ⊢
     generalize hxb:wr.heap.size=xb at hcb hxl ⊢
     have HOB:=hid (hab.above)
     have HOd:=hid (hob.keep (Gx.drewN_below wx 1 _))
     have HAd:Hid (Acc wx.drew M true 96 (.slice bo j cq) ps):=hid (hab.grow (r:=none) ⟨rfl,rfl,rfl,Nat.le_refl _,fun _ _ _=>rfl⟩ (fun _ e=>absurd e (by simp)))
     have HRd:Hid (RowAt wx.drew (fun b=>w.heap.size+1<b/\b<M+1) false (lp v.l) (.slice ao k cp)):=hid (hrb.keep (Gx.drewN_below wx 1 _))
     have HMd:Hid (M+1<=wx.drew.heap.size):=hid hml
     have hih:=IH.out q1 wx.drew HSZ.out (hvb.keep (Gx.drewN_below wx 1 _))
     simp only [Loc.val] at hih
     have HCd:=hid hih
     obtain ⟨e0,e1,e2,e3,e4,e5,e6⟩:=seven_cells hcb
     have HE0:Hid (wx.drew.cell? ⟨xb,0,none⟩=some (.string s)):=hid e0
     have HXL:Hid (xb<wx.drew.heap.size):=hid hxl
     obtain ⟨-,-,-,-,-,k4,-⟩:=hob.cells
     clear hwx hxb c0 c1 c2 c3 c4 c5 k1 hob hab hrb hvb hcb hih hml hxl
     go_region_law (first
      | (go_simp;(with_reducible refine HCd.out.mono ?_);rintro e w5 ⟨p,rfl,hpv,hp,hb5⟩;have ho5:=HOd.out.keep hb5;have k5e:=(hb5.cell (p:=⟨xb,0,none⟩) HXL.out).trans HE0.out;obtain ⟨-,-,-,-,-,k5,-⟩:=ho5.cells;obtain ⟨-,-,-,-,-,k5a,-⟩:=(ho5.grow (World.grownBy_alloc w5 (.cells #[.string s,.int .i64 p.v.k,.int .i64 p.v.n,.int .u64 p.v.f,.string p.v.s,.slice p.ad p.v.l.length p.cap,.slice p.bd p.v.e.length p.dap] 96) none) (fun b e=>absurd e (by simp))).cells;have HO5:=hid ho5;have HA5:=hid (HAd.out.grow (grown_none hb5) (fun _ e=>absurd e (by simp)));have HR5:=hid (HRd.out.keep hb5);have HM5:=hid (Nat.le_trans HMd.out hb5.size);have HQ5:=hid (HAd.out.fresh HMd.out hp);have HPV:=hid hpv;clear hp hb5 hpv ho5;simp only [Loc.val])
      | (refine step_acc Tryz.underlying30 Tryz.info_ent rfl (by decide) rfl (.tmp 36) (.tmp 43) rfl HA5.out HM5.out (s,p) HQ5.out hkl _ rfl rfl rfl j HN.out (by omega) (by omega) ?_;intro ao6 c6 w6 ha6 hg6;have ho6:=HO5.out.grow hg6 (fun b e=>by have:=HOB.out b e;omega);have hr6:=HR5.out.grow hg6 (fun b e hb=>by have:=HOB.out b e;omega);have hm6:=Nat.le_trans HM5.out hg6.size;obtain ⟨-,-,-,-,-,k6,kf⟩:=ho6.cells;have kf6:=kf 5;have HO6:=hid ho6;have HA6:=hid ha6;have HR6:=hid hr6;have HM6:=hid hm6;clear ha6 hg6 ho6 hr6 hm6 kf))
     all_goals
      go_wp2_with fail
      obtain ⟨y,hy⟩:∃ y:ByteArray×Loc,(s,p)=y:=⟨_,rfl⟩
      have hyv:(y.1,y.2.v)=(s,q1.v):=by rw [<-hy];exact Prod.ext rfl HPV.out
      have ho:=HO6.out.setE (.slice ao6 (j+1) c6)
      have ha:=HA6.out.grow (grown_cell w6 w.heap.size 5 (.slice ao6 (j+1) c6)) (fun b e=>by have:=Option.some.inj e;omega)
      rw [hy] at ha
      have H1:=hid ho
      have H2:=hid ha
      have H3:Hid ((ps++[y]).length=j+1):=hid (by rw [List.length_append,HN.out];rfl)
      have H4:=hid (HR6.out.grow (grown_cell w6 w.heap.size 5 (.slice ao6 (j+1) c6)) (fun b e hb=>by have:=Option.some.inj e;omega))
      have H5:Hid ((ps++[y]).map (fun p=>(p.1,p.2.v))=v.e.take (j+1)):=hid (by
       rw [List.map_append,HTK.out,take_snoc HX.out,<-hyv];rfl)
      have H6:=hid (Nat.le_trans HM6.out (grown_cell w6 w.heap.size 5 (.slice ao6 (j+1) c6)).size)
      clear ho ha hyv hy HO6 HA6 HO5 HA5 HQ5 HPV HOd HAd HR6 HR5 HRd HM6 HM5 HMd
      go_roundw
      case rel=>exact ⟨j+1,ps++[y],ao6,c6,by omega,by go_num,H3,H1,H2,H4,H5,H6⟩
      case measure=>simp [intOf];omega
    ·obtain rfl:j=ne:=by omega
     have hre:=HA.out.row (xs:=v.e) (by rw [HN.out];simpa [st] using he1) (by
      have h:=HTK.out
      rw [<-HNE.out,List.take_length] at h
      exact h.symm)
     have hv:VAt wr (fun b=>w.heap.size+1<b) ⟨v,ao,cp,bo,cq⟩:=⟨HQ.out.wf,by
      have:=HR.out.weak (C:=fun b=>w.heap.size+1<b) (fun b hb _=>hb.1)
      show RowAt wr _ false (lp v.l) (.slice ao v.l.length cp)
      rw [HNL.out];exact this,by
      have:=hre.weak (C:=fun b=>w.heap.size+1<b) (fun b hb _=>by omega)
      show RowAt wr _ true v.e (.slice bo v.e.length cq)
      rw [HNE.out];exact this⟩
     obtain ⟨a0,a1,a2,a3,a4,a5,-⟩:=HOq.out.cells
     obtain ⟨p0,p1,p2,p3,p4,p5,pf⟩:=six_cells HOq.out.res
     have pf0:=pf 0
     have pf1:=pf 1
     have pf2:=pf 2
     have pf3:=pf 3
     have pf4:=pf 4
     have pf5:=pf 5
     obtain ⟨W9,hW9,hr9,-,-,hbw,hvw⟩:=six_all HOq.out.res (.int .i64 v.k) (.int .i64 v.n) (.int .u64 v.f) (.string v.s) (.slice ao k cp) (.slice bo j cq)
     obtain ⟨q0,q1,q2,q3,q4,q5,-⟩:=six_cells hr9
     have HW9:=hid hW9
     have HPOST:Hid (CopyPost v w (.returned (.agg #[.int .i64 v.k,.int .i64 v.n,.int .u64 v.f,.string v.s,.slice ao k cp,.slice bo j cq])) W9):=hid ⟨⟨v,ao,cp,bo,cq⟩,by rw [<-HNL.out,<-HNE.out];rfl,rfl,(hvw _ _ hv (Nat.lt_irrefl _)).weak (fun b hb _=>by omega),hbw _ _ HOq.out.g (by omega)⟩
     clear hW9 hr9 hbw hvw pf hv hre
     go_wp2_with fail
     rw [<-HW9.out]
     exact bodyPost_ret (v:=.agg #[.int .i64 v.k,.int .i64 v.n,.int .u64 v.f,.string v.s,.slice ao k cp,.slice bo j cq]) (by simp [results,Tryz.results20,go_sem,q0,q1,q2,q3,q4,q5]) rfl HPOST.out
theorem own_any' (q:Loc) (w:World) (hq:VAt w (fun _=>True) q):Calls Tryz.prog 20 #[q.val] w (CopyPost q.v w):=by
 have key:∀ (n:Nat) (q:Loc) (w:World),SizeOf.sizeOf q.v<=n->VAt w (fun _=>True) q->Calls Tryz.prog 20 #[q.val] w (CopyPost q.v w):=by
  intro n
  induction n with
  | zero=>intro q w h;cases q with|mk v _ _ _ _=>cases v;simp at h
  | succ n ih=>exact fun q w h hq=>own_step q.v q.ad q.bd q.cap q.dap w hq (fun q' w' h' hq'=>ih q' w' (by omega) hq')
 exact key _ q w (Nat.le_refl _) hq
end Go.Proofs.YtgnonbdkmmkdgaaGreatDoor
namespace Go.Proofs.YtgnonbdkmmkdgaaGreatDoor
open Go.RowKit Gx
def ovl {α:Type} (L:List α) (o:Nat) (cs:List α):List α:=L.take o++(cs++L.drop (o+cs.length))
theorem ovl_len {α:Type} {L:List α} {o:Nat} {cs:List α} (h:o+cs.length<=L.length):(ovl L o cs).length=L.length:=by unfold ovl;simp;omega
section
variable {P:Program}
theorem run_copy_wide (w:World) (dT sT ty elem:TypeId) (k g o dLen dCap:Nat) (a:Addr) (sLen sCap:Nat) (cur:Array Value) (t:TypeId) (cs:List Value)
 (hu:P.underlying dT=some (.slice elem)) (hs:(P.info? elem).map (·.size)=some k) (hg:w.heap[g]?=some (.cells cur t (0,0))) (hn:cs.length=Nat.min sLen dLen * k)
 (hsrc:∀ j v,cs[j]?=some v->w.cell? (a.add j)=some v) (hfit:o+cs.length<=cur.size) (h1:∀ v∈cs,v.oneCell'=true) :
 (Builtin.copy_ #[dT,sT] ty #[.slice (some ⟨g,o,none⟩) dLen dCap,.slice (some a) sLen sCap]).run P w=.ok (goInt (Nat.min sLen dLen)) (w.setRow g (ovl cur.toList o cs).toArray):=by
 have hl:=run_loadCells_list (P:=P) w a cs hsrc
 have hst:=run_storeCells_at P g o t cs 0 cur w hg (by simpa using hfit) h1
 rw [Nat.add_zero,List.append_assoc] at hst
 unfold ovl
 cases hq:P.info? elem with
 | none=>simp [hq] at hs
 | some i =>
   have hi:i.size=k:=by simpa [hq] using hs
   simp [Builtin.copy_,run_underlying hu,Builtin.lenOf,Builtin.firstCells,sizeOf,typeInfo,hq,hi,<-hn,hl,hst]
theorem wp_copy_eq {ops:Array Oper} {o:Oper} {ac:Act} {w:World} {K:Act->World->Prop} {Q:Exit->Act->World->Prop} (d x:Operand) (dT sT:TypeId) (ho:o.op=.call { callee:=.builtin .copy,args:=#[d,x],argTypes:=#[dT,sT] })
 (v u:Value) (hd:ac.eval d=v) (hx:ac.eval x=u) {r:Value} {w':World} (hr:(Builtin.copy_ #[dT,sT] o.type #[v,u]).run P w=.ok r w') (hK:K (ac.put o.dst r) w'):Oper.wp P o ac w K Q:=by
 unfold Oper.wp execOp
 simp only [ho,resolve,invoke,builtin,Sem.run_bind,Sem.run_pure,Result.andThen_ok,List.map_toArray,List.map_cons,List.map_nil,hd,hx,hr]
 exact hK
theorem step_copy_eq {ops:Array Oper} {o:Oper} {ac:Act} {w:World} {K:Act->World->Prop} {Q:Exit->Act->World->Prop} {F:Prop} (hgd:o.guard=none) (d x:Operand) (dT sT:TypeId) (ho:o.op=.call { callee:=.builtin .copy,args:=#[d,x],argTypes:=#[dT,sT] })
 (v u:Value) (hd:ac.eval d=v) (hx:ac.eval x=u) {r:Value} {w':World} (hr:(Builtin.copy_ #[dT,sT] o.type #[v,u]).run P w=.ok r w') (hK:K (ac.put o.dst r) w'):if Region.wanted o (yielded ops ac.tmps)=true then Oper.wp P o ac w K Q else F:=by
 have hw:Region.wanted o (yielded ops ac.tmps)=true:=by simp [Region.wanted,hgd]
 rw [if_pos hw]
 exact wp_copy_eq (ops:=ops) d x dT sT ho v u hd hx hr hK
theorem wpl_append_eq {w:World} {ops:Array Oper} {rest:List Oper} {o:Oper} {ac:Act} {Q:Exit->Act->World->Prop} (hgd:o.guard=none) (d x:Operand) (dT sT:TypeId) (ho:o.op=.call { callee:=.builtin .append,args:=#[d,x],argTypes:=#[dT,sT] })
 (v u:Value) (hd:ac.eval d=v) (hx:ac.eval x=u) {r:Value} {w':World} (hr:(Builtin.append_ #[dT,sT] o.type #[v,u]).run P w=.ok r w') (h:wpList P ops Q rest (ac.put o.dst r) w'):wpList P ops Q (o::rest) ac w:=by
 refine wpList_plain hgd fun K hK=>?_
 unfold Oper.wp execOp
 simp only [ho,resolve,invoke,builtin,Sem.run_bind,Sem.run_pure,Result.andThen_ok,List.map_toArray,List.map_cons,List.map_nil,hd,hx,hr]
 exact hK _ _ h
end
theorem setRow_size (w:World) (g:Nat) (a:Array Value):(w.setRow g a).heap.size=w.heap.size:=by simp [World.setRow]
theorem setRow_grown (w:World) (g:Nat) (a:Array Value):w.grownBy (w.setRow g a) (some g):=⟨rfl,rfl,rfl,by simp [World.setRow],fun k _ hk=>setRow_other w g k a (fun e=>hk (by rw [e]))⟩
def insC (xs news:List Value) (i:Nat):List Value:=xs.take (i * 7)++(news++xs.drop (i * 7))
def InsPost (w:World) (base:Nat) (v:Value) (n i:Nat) (xs news:List Value) (e:Ending) (w':World):Prop :=
 ∃ vo vc,e=.returned (.slice vo (n+1) vc)/\w'.ownsRow base 96 7 (.slice vo (n+1) vc) (n+1) (insC xs news i)/\w.grownBy w' v.ownBlock/\Moved v (.slice vo (n+1) vc) w.heap.size
theorem ovl_twice {α:Type} (cur B news:List α) (a k:Nat) (hk:news.length=k) (hc:a+k+B.length<=cur.length):(ovl (ovl cur (a+k) B) a news).take (a+k+B.length)=cur.take a++(news++B):=by
 have h1:(cur.take (a+k)).length=a+k:=by rw [List.length_take];omega
 have e1:(ovl cur (a+k) B).take a=cur.take a:=by
  unfold ovl
  rw [List.take_append_of_le_length (by omega),List.take_take,Nat.min_eq_left (by omega)]
 have e2:(ovl cur (a+k) B).drop (a+k)=B++cur.drop (a+k+B.length):=by
  unfold ovl
  exact List.drop_left' h1
 have e3:ovl (ovl cur (a+k) B) a news=(ovl cur (a+k) B).take a++(news++(ovl cur (a+k) B).drop (a+news.length)):=rfl
 rw [e3,e1,hk,e2,<-List.append_assoc,<-List.append_assoc,List.append_assoc (cur.take a),List.append_assoc (cur.take a)]
 rw [<-List.append_assoc (cur.take a) (news++B)]
 rw [List.take_left' (by rw [List.length_append,List.length_append,List.length_take,hk];omega)]
theorem ovl_room {cur xs news:List Value} {n i:Nat} (hx:cur.take (n * 7)=xs) (hi:i<=n) (hnl:news.length=7) (hc:(n+1) * 7<=cur.length):(ovl (ovl cur ((i+1) * 7) (xs.drop (i * 7))) (i * 7) news).take ((n+1) * 7)=insC xs news i:=by
 subst hx
 have h2:((cur.take (n * 7)).drop (i * 7)).length=(n - i) * 7:=by rw [List.length_drop,List.length_take];omega
 have h:=ovl_twice cur ((cur.take (n * 7)).drop (i * 7)) news (i * 7) 7 hnl (by rw [h2];omega)
 rw [h2,show i * 7+7=(i+1) * 7 by omega,show (i+1) * 7+(n - i) * 7=(n+1) * 7 by omega] at h
 rw [h]
 unfold insC
 rw [List.take_take,Nat.min_eq_left (by omega)]
theorem insC_len {xs news:List Value} {n i:Nat} (hx:xs.length=n * 7) (hi:i<=n) (hnl:news.length=7):(insC xs news i).length=(n+1) * 7:=by
 unfold insC
 rw [List.length_append,List.length_append,List.length_take,List.length_drop,hnl,hx]
 omega
theorem insert_room (w:World) (base g n c i vb:Nat) (cur:Array Value) (xs news:List Value) (hbg:base<=g) (hg:w.heap[g]?=some (.cells cur 96 (0,0))) (hcs:cur.size=c * 7) (hcm:c<=maxLen) (htk:cur.toList.take (n * 7)=xs)
 (hi:i<n) (hn:n<=1000000) (hroom:n+1<=c) (hnl:news.length=7) (h1:∀ u∈news,u.oneCell'=true) (hx1:∀ u∈xs,u.oneCell'=true) (hvb:w.heap[vb]?=some (.cells news.toArray 96)) (hne:vb≠g) :
 Calls Tryz.prog 109 #[.slice (some ⟨g,0,none⟩) n c,.int .i64 i,.slice (some ⟨vb,0,none⟩) 1 1] w (InsPost w base (.slice (some ⟨g,0,none⟩) n c) n i xs news):=by
 have hc63:c<=9223372036854775807:=by unfold maxLen at hcm;omega
 have hsz:(Tryz.prog.info? 96).map (·.size)=some 7:=by
  obtain ⟨i0,hi0,-,h2,-⟩:=info_parts Tryz.info_ent
  rw [hi0];simp [h2]
 obtain ⟨W1,hW1⟩:∃ W1,W1=w.drew.setRow g (ovl cur.toList ((i+1) * 7) (xs.drop (i * 7))).toArray:=⟨_,rfl⟩
 obtain ⟨W2,hW2⟩:∃ W2,W2=W1.setRow g (ovl (ovl cur.toList ((i+1) * 7) (xs.drop (i * 7))) (i * 7) news).toArray:=⟨_,rfl⟩
 have hxl:xs.length=n * 7:=by rw [<-htk,List.length_take,Array.length_toList,hcs];omega
 have hdl:(xs.drop (i * 7)).length=(n - i) * 7:=by rw [List.length_drop,hxl];omega
 have hcell:∀ j u,xs[j]?=some u->w.cell? ⟨g,j,none⟩=some u:=fun j u hj=>by
  rw [<-htk,List.getElem?_take] at hj
  split at hj
  ·simp [World.cell?,hg];simpa using hj
  ·cases hj
 have hg1:W1.heap[g]?=some (.cells (ovl cur.toList ((i+1) * 7) (xs.drop (i * 7))).toArray 96 (0,0)):=by rw [hW1];exact setRow_heap w.drew g cur _ _ _ hg
 have hol:(ovl cur.toList ((i+1) * 7) (xs.drop (i * 7))).length=c * 7:=by rw [ovl_len (by rw [hdl,Array.length_toList,hcs];omega),Array.length_toList,hcs]
 have hv1:W1.heap[vb]?=some (.cells news.toArray 96):=by rw [hW1];exact (setRow_other w.drew g vb _ hne).trans hvb
 have hcp1:∀ ty dc sc,(Builtin.copy_ #[30,30] ty #[.slice (some ⟨g,(i+1) * 7,none⟩) (n - i) dc,.slice (some ⟨g,i * 7,none⟩) (n+1 - i) sc]).run Tryz.prog w.drew=.ok (goInt (Nat.min (n+1 - i) (n - i))) W1:=fun ty dc sc=>by
  rw [hW1]
  refine run_copy_wide w.drew _ _ ty 96 7 g ((i+1) * 7) _ dc ⟨g,i * 7,none⟩ _ sc cur 96 (xs.drop (i * 7)) Tryz.underlying30 hsz hg (by rw [hdl];simp only [Nat.min_def];split<;>omega) (fun j v hj=>?_) (by rw [hdl,hcs];omega) (fun v hv=>hx1 v (List.mem_of_mem_drop hv))
  rw [Addr.add_lit]
  rw [List.getElem?_drop] at hj
  exact hcell _ v hj
 have hcp2:∀ ty dc,(Builtin.copy_ #[30,30] ty #[.slice (some ⟨g,i * 7,none⟩) (n+1 - i) dc,.slice (some ⟨vb,0,none⟩) 1 1]).run Tryz.prog W1=.ok (goInt (Nat.min 1 (n+1 - i))) W2:=fun ty dc=>by
  rw [hW2]
  have:=run_copy_wide W1 30 30 ty 96 7 g (i * 7) (n+1 - i) dc ⟨vb,0,none⟩ 1 1 _ 96 news Tryz.underlying30 hsz hg1 (by rw [hnl];simp only [Nat.min_def];split<;>omega) (fun j v hj=>by
   rw [Addr.add_lit]
   simp [World.cell?,hv1];simpa using hj) (by rw [hnl];simp [hol];omega) h1
  simpa using this
 have hpost:InsPost w base (.slice (some ⟨g,0,none⟩) n c) n i xs news (.returned (.slice (some ⟨g,0,none⟩) (n+1) c)) W2:=by
  have hg2:W2.heap[g]?=some (.cells (ovl (ovl cur.toList ((i+1) * 7) (xs.drop (i * 7))) (i * 7) news).toArray 96 (0,0)):=by rw [hW2];exact setRow_heap W1 g _ _ _ _ hg1
  refine ⟨_,_,rfl,⟨insC_len hxl (by omega) hnl,.inr ⟨g,c,_,rfl,hbg,hg2,hroom,hcm,?_,?_⟩⟩,?_,.inl rfl⟩
  ·rw [List.size_toArray,ovl_len (by rw [hnl,hol];omega),hol]
  ·exact ovl_room htk (by omega) hnl (by rw [Array.length_toList,hcs];omega)
  ·have g1:=setRow_grown w.drew g (ovl cur.toList ((i+1) * 7) (xs.drop (i * 7))).toArray
   rw [<-hW1] at g1
   have g2:=setRow_grown W1 g (ovl (ovl cur.toList ((i+1) * 7) (xs.drop (i * 7))) (i * 7) news).toArray
   rw [<-hW2] at g2
   exact ⟨g2.os.trans g1.os,g2.tape.trans g1.tape,g2.output.trans g1.output,Nat.le_trans g1.size g2.size,fun k hk hkn=>(g2.block k (Nat.lt_of_lt_of_le hk g1.size) hkn).trans (g1.block k hk hkn)⟩
 have hsa:w.shape? vb=some (96,7):=by simp [World.shape?,hvb,hnl]
 have hsb:w.shape? g=some (96,c * 7):=by simp [World.shape?,hg,hcs]
 have hfa:∀ j,w.frozen? ⟨vb,j,none⟩=false:=fun j=>by simp [World.frozen?,hvb]
 have hov:∀ lb cb,(callFunc 123 #[.slice (some ⟨vb,0,none⟩) 1 1,.slice (some ⟨g,(i+1) * 7,none⟩) lb cb]).run Tryz.prog w=.ok (.value (.bool false)) w:=fun lb cb=>by
  rw [run_callFunc_extern (e:=Extern.SlicesOverlaps.overlaps #[30,30] #[4]) Tryz.func123 (by kernel_rfl) (by kernel_rfl) (by kernel_rfl) (by kernel_rfl),
   Lib.run_overlaps_apart w 30 4 96 Tryz.underlying30 7 (fun w=>by obtain ⟨i0,hi0,-,h2,-⟩:=info_parts Tryz.info_ent;simp [sizeOf,typeInfo,hi0,h2]) ⟨vb,0,none⟩ ⟨g,(i+1) * 7,none⟩ 1 1 lb cb hne 96 96 7 (c * 7) hsa hsb (by omega) (hfa 0) (hfa 7)]
  rfl
 have HP:=hid hpost
 have H1:=hid hcp1
 have H2:=hid hcp2
 have HOV:=hid hov
 have z1:((1:Int)==0)=false:=by decide
 have z2:((i:Int)==(n:Int))=false:=by simp;omega
 have z3:decide ((c:Int)<(n:Int)+1)=false:=decide_eq_false (by omega)
 have b1:(0:Int)<=(i:Int):=by omega
 have b2:(i:Int)<=(n:Int):=by omega
 have b3:(i:Int)<=(c:Int):=by omega
 have b4:(n:Int)+1<=(c:Int):=by omega
 have b5:(i:Int)+1<=(n:Int)+1:=by omega
 have b6:(i:Int)<=(n:Int)+1:=by omega
 have b9:(0:Int)<=(i:Int)+1:=by omega
 have b7:((i:Int)+1).toNat=i+1:=by omega
 have b8:((n:Int)+1).toNat=n+1:=by omega
 have c1:¬ (c=i):=by omega
 have c2:¬ (c=i+1):=by omega
 have q1:IntKind.i64.wrap ((i:Int)+1)=(i:Int)+1:=by rw [IntKind.wrap_i64];omega
 have q2:IntKind.i64.wrap ((n:Int)+1)=(n:Int)+1:=by rw [IntKind.wrap_i64];omega
 clear hpost hcp1 hcp2 hov hcell hsa hsb hfa hg1 hv1 hol hxl hdl hg hvb hW1 hW2 htk hcs hcm hx1 h1 hnl hbg hsz
 go_enter Tryz.func109,Tryz.ntmps109
 go_wp2_with (simp only [HOV.out])
 go_region_law (refine step_copy_eq rfl _ _ 30 30 rfl _ _ (by simp [Act.eval,Act.put];rfl) (by simp [Act.eval,Act.put];rfl) (H1.out _ _ _) ?_)
 all_goals
  have h2:=fun ty dc=>H2.out ty dc
  clear H1 H2
  go_wp2_with fail
  try go_ret
  exact HP.out
theorem insert_grow (w:World) (base g n c i vb:Nat) (cur:Array Value) (xs news:List Value) (hb:base<=w.heap.size) (hbg:base<=g) (hg:w.heap[g]?=some (.cells cur 96 (0,0))) (hcs:cur.size=c * 7) (hnc:n<=c) (hcm:c<=maxLen) (htk:cur.toList.take (n * 7)=xs)
 (hi:i<n) (hn:n<=1000000) (hroom:c<n+1) (hnl:news.length=7) (h1:∀ u∈news,u.oneCell'=true) (hx1:∀ u∈xs,u.oneCell'=true) (hvb:w.heap[vb]?=some (.cells news.toArray 96)) :
 Calls Tryz.prog 109 #[.slice (some ⟨g,0,none⟩) n c,.int .i64 i,.slice (some ⟨vb,0,none⟩) 1 1] w (InsPost w base (.slice (some ⟨g,0,none⟩) n c) n i xs news):=by
 have hc63:c<=9223372036854775807:=by unfold maxLen at hcm;omega
 obtain ⟨i0,hi0,hz0,hz1,hz2⟩:=info_parts Tryz.info_ent
 have hsz:(Tryz.prog.info? 96).map (·.size)=some 7:=by rw [hi0];simp [hz1]
 have hxl:xs.length=n * 7:=by rw [<-htk,List.length_take,Array.length_toList,hcs];omega
 have hcell:∀ j u,xs[j]?=some u->w.cell? ⟨g,j,none⟩=some u:=fun j u hj=>by
  rw [<-htk,List.getElem?_take] at hj
  split at hj
  ·simp [World.cell?,hg];simpa using hj
  ·cases hj
 have hgw:g<w.heap.size:=(Array.getElem?_eq_some_iff.1 hg).1
 have hvw:vb<w.heap.size:=(Array.getElem?_eq_some_iff.1 hvb).1
 obtain ⟨Z,hZ⟩:∃ Z,(Value.agg #[.string ⟨#[]⟩,.int .i64 0,.int .i64 0,.int .u64 0,.string ⟨#[]⟩,.slice none 0 0,.slice none 0 0]).cells=Z:=⟨_,rfl⟩
 have hZ7:Z.size=7:=by rw [<-hZ];rfl
 obtain ⟨G,hG⟩:∃ G,G=grownCap w (n+1) c 96:=⟨_,rfl⟩
 have hGn:n+1<=G:=by rw [hG];exact grownCap_ge w _ _ _
 have hGm:G<=maxLen:=by rw [hG];exact grownCap_le_maxLen w (n+1) c _ (by unfold maxLen;omega)
 obtain ⟨ROW,hROW⟩:∃ ROW:List Value,ROW=xs.take (i * 7)++((Builtin.zeroCells Z (n+1 - i)).toList++(Builtin.zeroCells Z (G - (n+1))).toList):=⟨_,rfl⟩
 have hzl:∀ k,(Builtin.zeroCells Z k).size=k * 7:=fun k=>by simp [Builtin.zeroCells,hZ7]
 have hRl:ROW.length=G * 7:=by
  have l1:=hzl (n+1 - i)
  have l2:=hzl (G - (n+1))
  rw [<-Array.length_toList] at l1 l2
  rw [hROW,List.length_append,List.length_append,List.length_take,l1,l2,hxl]
  omega
 obtain ⟨W0,hW0⟩:∃ W0,W0=w.drew.alloc (.cells ROW.toArray 96):=⟨_,rfl⟩
 have hold:(Builtin.firstCells i0.size i (.slice (some ⟨g,0,none⟩) i c)).run Tryz.prog w.drew=.ok (xs.take (i * 7)).toArray w.drew:=by
  rw [hz1]
  exact run_firstCells_some w.drew 7 i ⟨g,0,none⟩ i c (xs.take (i * 7)) (by rw [List.length_take];omega) (fun j v hj=>by
   rw [Addr.add_lit,Nat.zero_add]
   rw [List.getElem?_take] at hj
   split at hj
   ·exact hcell j v hj
   ·cases hj)
 have hik:i+(n+1 - i)=n+1:=by omega
 have hrz:∀ ty,(Builtin.append_ #[30,3] ty #[.slice (some ⟨g,0,none⟩) i c,.int .i64 ((n:Int)+1 - (i:Int))]).run Tryz.prog w=.ok (.slice (some ⟨w.heap.size,0,none⟩) (n+1) G) W0:=fun ty=>by
  have h:=Lib.run_append_grow_zeros w 30 3 ty 96 i0 _ .i64 .i64 Tryz.underlying30 Tryz.underlying3 hi0 hz0 (some ⟨g,0,none⟩) i c (xs.take (i * 7)) hold (n+1 - i) (by omega) (by rw [hz1];decide) (by omega) (by omega) (by rw [hz2];omega) (by rw [hz2,hik];exact growslice_fits (by omega) (by omega))
  rw [hik] at h
  rw [show (n:Int)+1 - (i:Int)=((n+1 - i:Nat):Int) by omega,h,hW0,hROW,hG,hZ]
  congr 3
  simp [<-Array.toList_inj]
 obtain ⟨W1,hW1⟩:∃ W1,W1=W0.setRow w.heap.size (ovl ROW (i * 7) news).toArray:=⟨_,rfl⟩
 obtain ⟨W2,hW2⟩:∃ W2,W2=W1.drew.setRow w.heap.size (ovl (ovl ROW (i * 7) news) ((i+1) * 7) (xs.drop (i * 7))).toArray:=⟨_,rfl⟩
 have hdl:(xs.drop (i * 7)).length=(n - i) * 7:=by rw [List.length_drop,hxl];omega
 have hg0:W0.heap[w.heap.size]?=some (.cells ROW.toArray 96):=by rw [hW0];exact heap_alloc_new w.drew _
 have hold0:∀ k,k<w.heap.size->W0.heap[k]?=w.heap[k]?:=fun k hk=>by rw [hW0];exact alloc_old_gx w.drew _ hk
 have hg1:W1.heap[w.heap.size]?=some (.cells (ovl ROW (i * 7) news).toArray 96 (0,0)):=by rw [hW1];exact setRow_heap W0 w.heap.size _ _ _ _ hg0
 have hold1:∀ k,k<w.heap.size->W1.heap[k]?=w.heap[k]?:=fun k hk=>by rw [hW1];exact (setRow_other W0 w.heap.size k _ (by omega)).trans (hold0 k hk)
 have hol:(ovl ROW (i * 7) news).length=G * 7:=by rw [ovl_len (by rw [hnl,hRl];omega),hRl]
 have hcp1:∀ ty dc,(Builtin.copy_ #[30,30] ty #[.slice (some ⟨w.heap.size,i * 7,none⟩) (n+1 - i) dc,.slice (some ⟨vb,0,none⟩) 1 1]).run Tryz.prog W0=.ok (goInt (Nat.min 1 (n+1 - i))) W1:=fun ty dc=>by
  rw [hW1]
  have:=run_copy_wide W0 30 30 ty 96 7 w.heap.size (i * 7) (n+1 - i) dc ⟨vb,0,none⟩ 1 1 _ 96 news Tryz.underlying30 hsz hg0 (by rw [hnl];simp only [Nat.min_def];split<;>omega) (fun j v hj=>by
   rw [Addr.add_lit]
   have hv0:=(hold0 vb hvw).trans hvb
   simp [World.cell?,hv0];simpa using hj) (by rw [hnl];simp [hRl];omega) h1
  simpa using this
 have hcp2:∀ ty dc sc,(Builtin.copy_ #[30,30] ty #[.slice (some ⟨w.heap.size,(i+1) * 7,none⟩) (n - i) dc,.slice (some ⟨g,i * 7,none⟩) (n - i) sc]).run Tryz.prog W1.drew=.ok (goInt (Nat.min (n - i) (n - i))) W2:=fun ty dc sc=>by
  rw [hW2]
  have:=run_copy_wide W1.drew 30 30 ty 96 7 w.heap.size ((i+1) * 7) (n - i) dc ⟨g,i * 7,none⟩ (n - i) sc _ 96 (xs.drop (i * 7)) Tryz.underlying30 hsz hg1 (by rw [hdl];simp only [Nat.min_def];split<;>omega) (fun j v hj=>by
   rw [Addr.add_lit]
   rw [List.getElem?_drop] at hj
   have hcc:=hcell _ v hj
   exact (World.cell?_of_block (hold1 g hgw)).trans hcc) (by rw [hdl];simp [hol];omega) (fun v hv=>hx1 v (List.mem_of_mem_drop hv))
  simpa using this
 have hpost:InsPost w base (.slice (some ⟨g,0,none⟩) n c) n i xs news (.returned (.slice (some ⟨w.heap.size,0,none⟩) (n+1) G)) W2:=by
  have hg2:W2.heap[w.heap.size]?=some (.cells (ovl (ovl ROW (i * 7) news) ((i+1) * 7) (xs.drop (i * 7))).toArray 96 (0,0)):=by rw [hW2];exact setRow_heap W1.drew w.heap.size _ _ _ _ hg1
  refine ⟨_,_,rfl,⟨insC_len hxl (by omega) hnl,.inr ⟨w.heap.size,G,_,rfl,hb,hg2,hGn,hGm,?_,?_⟩⟩,?_,.inr ⟨_,rfl,Nat.le_refl _⟩⟩
  ·rw [List.size_toArray,ovl_len (by rw [hdl,hol];omega),hol]
  ·have e1:(ovl ROW (i * 7) news).take ((i+1) * 7)=xs.take (i * 7)++news:=by
    have e0:ROW.take (i * 7)=xs.take (i * 7):=by rw [hROW];exact List.take_left' (by rw [List.length_take];omega)
    unfold ovl
    rw [e0,<-List.append_assoc]
    exact List.take_left' (by rw [List.length_append,List.length_take,hnl];omega)
   show (ovl (ovl ROW (i * 7) news) ((i+1) * 7) (xs.drop (i * 7))).take ((n+1) * 7)=insC xs news i
   unfold insC
   rw [ovl,e1,<-List.append_assoc,List.append_assoc (xs.take (i * 7))]
   exact List.take_left' (by rw [List.length_append,List.length_append,List.length_take,hnl,hdl];omega)
  ·have z0:w.heap.size<=W0.heap.size:=by rw [hW0];simp
   refine ⟨by rw [hW2,hW1,hW0];rfl,by rw [hW2,hW1,hW0];rfl,by rw [hW2,hW1,hW0];rfl,?_,fun k hk _=>?_⟩
   ·rw [hW2,setRow_size]
    show _<=W1.heap.size
    rw [hW1,setRow_size];exact z0
   ·rw [hW2]
    exact (setRow_other W1.drew w.heap.size k _ (by omega)).trans (hold1 k hk)
 have HP:=hid hpost
 have H0:=hid hrz
 have H1:=hid hcp1
 have H2:=hid hcp2
 have z1:((1:Int)==0)=false:=by decide
 have z2:((i:Int)==(n:Int))=false:=by simp;omega
 have z3:decide ((c:Int)<(n:Int)+1)=true:=decide_eq_true (by omega)
 have b1:(0:Int)<=(i:Int):=by omega
 have b2:(i:Int)<=(n:Int):=by omega
 have b3:(i:Int)<=(c:Int):=by omega
 have b5:(i:Int)+1<=(n:Int)+1:=by omega
 have b6:(i:Int)<=(n:Int)+1:=by omega
 have b9:(0:Int)<=(i:Int)+1:=by omega
 have b7:((i:Int)+1).toNat=i+1:=by omega
 have b8:((n:Int)+1).toNat=n+1:=by omega
 have c1:¬ (c=i):=by omega
 have c2:¬ (G=i):=by omega
 have c3:¬ (G=i+1):=by omega
 have c4:i<=n:=by omega
 have q1:IntKind.i64.wrap ((i:Int)+1)=(i:Int)+1:=by rw [IntKind.wrap_i64];omega
 have q2:IntKind.i64.wrap ((n:Int)+1)=(n:Int)+1:=by rw [IntKind.wrap_i64];omega
 have q3:IntKind.i64.wrap ((n:Int)+1 - (i:Int))=(n:Int)+1 - (i:Int):=by rw [IntKind.wrap_i64];omega
 clear hpost hrz hcp1 hcp2 hcell hg1 hg0 hold0 hold1 hol hxl hdl hg hvb hW0 hW1 hW2 htk hcs hcm hx1 h1 hnl hbg hsz hold hROW hRl hzl hZ hZ7 hG hGn hGm hz0 hz1 hz2 hi0 hik hgw hvw hb
 go_enter Tryz.func109,Tryz.ntmps109
 go_wp2_with (at_builtin;refine wpl_append_eq rfl _ _ 30 3 rfl _ _ rfl rfl (H0.out _) ?_)
 have h1:=fun ty dc=>H1.out ty dc
 simp only [h1]
 go_wp2_with fail
 go_region_law (refine step_copy_eq rfl _ _ 30 30 rfl _ _ (by simp [Act.eval,Act.put];rfl) (by simp [Act.eval,Act.put];rfl) (H2.out _ _ _) ?_)
 all_goals
  clear h1
  go_wp2_with fail
  try go_ret
  exact HP.out
end Go.Proofs.YtgnonbdkmmkdgaaGreatDoor
namespace Go.Proofs.YtgnonbdkmmkdgaaGreatDoor
open Go.RowKit Gx
inductive Tidy:Ty->Prop
 | mk (a:Ty) (hn:a.f.length<=200) (h:a.f=[]\/(a.x=[]/\a.t=[])) (ht:∀ b∈a.t,Tidy b) (hf:∀ f∈a.f,Tidy f.t):Tidy a
def OwnTPost (a:Ty) (w:World) (e:Ending) (w':World):Prop:=∃ p:Lt,e=.returned p.val/\p.v=a/\OwnT w' (fun b=>w.heap.size<=b) p/\Below w.heap.size w w'
structure OTS (w:World) (k lo hi:Int) (sx st sf:Value) (nm:ByteArray) (W:World):Prop where
 box:W.heap[w.heap.size]?=some (.cells #[.int .i64 k,.int .i64 lo,.int .i64 hi,sx,st,sf,.string nm] 27)
 res:W.heap[w.heap.size+1]?=some (.cells #[.int .i64 0,.int .i64 0,.int .i64 0,.slice none 0 0,.slice none 0 0,.slice none 0 0,.string ⟨#[]⟩] 27)
 g:Below w.heap.size w W
namespace OTS
variable {w W W':World} {k lo hi:Int} {sx st sf:Value} {nm:ByteArray}
theorem vlt (h:OTS w k lo hi sx st sf nm W):w.heap.size+1<W.heap.size:=(Array.getElem?_eq_some_iff.1 h.res).1
theorem grow (h:OTS w k lo hi sx st sf nm W) {r:Option Nat} (hg:W.grownBy W' r) (hr:∀ b,r=some b->w.heap.size+1<b):OTS w k lo hi sx st sf nm W':=by
 have h1:=h.vlt
 exact ⟨(hg.block _ (by omega) (fun e=>by have:=hr _ e.symm;omega)).trans h.box,(hg.block _ h1 (fun e=>by have:=hr _ e.symm;omega)).trans h.res,
  ⟨hg.os.trans h.g.os,hg.tape.trans h.g.tape,hg.output.trans h.g.output,Nat.le_trans h.g.size hg.size,fun i hi=>(hg.block i (by omega) (fun e=>by have:=hr _ e.symm;omega)).trans (h.g.block i hi)⟩⟩
theorem keep (h:OTS w k lo hi sx st sf nm W) (hb:Below W.heap.size W W'):OTS w k lo hi sx st sf nm W':=h.grow (grown_none hb) (fun _ e=>absurd e (by simp))
theorem setAll (h:OTS w k lo hi sx st sf nm W) (j:Nat) (u:Value) {sx' st' sf':Value} (he:#[Value.int .i64 k,.int .i64 lo,.int .i64 hi,sx,st,sf,.string nm].setIfInBounds j u=#[.int .i64 k,.int .i64 lo,.int .i64 hi,sx',st',sf',.string nm]) :
 OTS w k lo hi sx' st' sf' nm (W.setCell ⟨w.heap.size,j,none⟩ u):=by
 have h1:=h.vlt
 exact ⟨by rw [cell_store h.box j u,he],((grown_cell W _ j u).block _ h1 (fun e=>by have:=Option.some.inj e;omega)).trans h.res,h.g.setCell (Nat.le_refl _) u⟩
theorem setX (h:OTS w k lo hi sx st sf nm W) (u:Value):OTS w k lo hi u st sf nm (W.setCell ⟨w.heap.size,3,none⟩ u):=h.setAll 3 u rfl
theorem setT (h:OTS w k lo hi sx st sf nm W) (u:Value):OTS w k lo hi sx u sf nm (W.setCell ⟨w.heap.size,4,none⟩ u):=h.setAll 4 u rfl
theorem setF (h:OTS w k lo hi sx st sf nm W) (u:Value):OTS w k lo hi sx st u nm (W.setCell ⟨w.heap.size,5,none⟩ u):=h.setAll 5 u rfl
theorem start (w:World) (q:Lt):OTS w q.v.k q.v.lo q.v.hi (.slice q.xd q.v.x.length q.xc) (.slice q.td q.v.t.length q.tc) (.slice q.fd q.v.f.length q.fc) q.v.n ((w.alloc (.cells #[.int .i64 q.v.k,.int .i64 q.v.lo,.int .i64 q.v.hi,.slice q.xd q.v.x.length q.xc,.slice q.td q.v.t.length q.tc,.slice q.fd q.v.f.length q.fc,.string q.v.n] 27)).alloc (.cells #[.int .i64 0,.int .i64 0,.int .i64 0,.slice none 0 0,.slice none 0 0,.slice none 0 0,.string ⟨#[]⟩] 27)):=by
 refine ⟨?_,?_,((Below.refl _ w).alloc (Nat.le_refl _) _).alloc (by simp) _⟩
 ·rw [Below.heap_alloc _ _ _ (by simp)]
  exact heap_alloc_new w _
 ·have:=heap_alloc_new (w.alloc (.cells #[.int .i64 q.v.k,.int .i64 q.v.lo,.int .i64 q.v.hi,.slice q.xd q.v.x.length q.xc,.slice q.td q.v.t.length q.tc,.slice q.fd q.v.f.length q.fc,.string q.v.n] 27)) (.cells #[.int .i64 0,.int .i64 0,.int .i64 0,.slice none 0 0,.slice none 0 0,.slice none 0 0,.string ⟨#[]⟩] 27)
  rwa [World.size_alloc] at this
end OTS
theorem SRow.grow {w w':World} {B:Nat->Prop} {xs:List ByteArray} {v:Value} {r:Option Nat} (h:SRow w B xs v) (hg:w.grownBy w' r) (hr:∀ b,r=some b->¬ B b):SRow w' B xs v :=
 h.through hg.size (fun b hB hl=>hg.block b hl (fun e=>hr b e.symm hB)) (fun _ h _=>h)
theorem TRow.grow {w w':World} {B:Nat->Prop} {t:Bool} {xs:List (Fd Ty)} {v:Value} {r:Option Nat} (h:TRow w B t xs v) (hg:w.grownBy w' r) (hr:∀ b,r=some b->¬ B b):TRow w' B t xs v :=
 h.through hg.size (fun b hB hl=>hg.block b hl (fun e=>hr b e.symm hB)) (fun _ h _=>h)
theorem SRow.keep {w w':World} {B:Nat->Prop} {xs:List ByteArray} {v:Value} (h:SRow w B xs v) (hb:Below w.heap.size w w'):SRow w' B xs v:=h.through hb.size (fun b _ hl=>hb.block b hl) (fun _ h _=>h)
theorem SRow.weak {w:World} {B C:Nat->Prop} {xs:List ByteArray} {v:Value} (h:SRow w B xs v) (hC:∀ b,B b->b<w.heap.size->C b):SRow w C xs v:=h.through (Nat.le_refl _) (fun _ _ _=>rfl) hC
theorem TRow.weak {w:World} {B C:Nat->Prop} {t:Bool} {xs:List (Fd Ty)} {v:Value} (h:TRow w B t xs v) (hC:∀ b,B b->b<w.heap.size->C b):TRow w C t xs v:=h.through (Nat.le_refl _) (fun _ _ _=>rfl) hC
theorem AccT.fresh {W W':World} {vb:Nat} {t:Bool} {e:TypeId} {v:Value} {ps:List Ft} {B:Nat->Prop} {q:Lt} (h:AccT W vb B t e v ps) (hv:vb<W.heap.size) (hq:TyAt W' (fun b=>W.heap.size<=b) q):TyAt W' (fun b=>vb<b/\v.ownBlock≠some b) q :=
 hq.weak (fun b hb _=>⟨by omega,fun e=>by have:=(h.own.lt b e).2;omega⟩)
theorem AccT.above {W:World} {vb:Nat} {t:Bool} {e:TypeId} {v:Value} {ps:List Ft} {B:Nat->Prop} (h:AccT W vb B t e v ps):∀ b,v.ownBlock=some b->vb<b/\b<W.heap.size:=fun b hb=>⟨(h.own.lt b hb).1,(h.own.lt b hb).2⟩
theorem own_whole {w:World} {M:Nat} {C:Nat->Prop} {q:Lt} {ps:List Ft} (ht:Tidy q.v) (hq:TyAt w C q) (ha:AccT w M (M<·) true 65 (.slice q.fd q.v.f.length q.fc) ps) (hs:SoleT w M (.slice q.fd q.v.f.length q.fc) ps) (hps:ps.map Ft.fd=q.v.f) (hC:∀ b,M<b->b<w.heap.size->C b):OwnT w C q:=by
 cases ht with
 | mk _ _ h _ _ =>
   rcases h with h|⟨h1,h2⟩
   ·exact .leaf C q hq h
   ·exact own_record ha hs hq h1 h2 hps (fun _ h=>h) hC
theorem wpl_build_eq {P:Program} {w:World} {ops:Array Oper} {rest:List Oper} {o:Oper} {ac:Act} {Q:Exit->Act->World->Prop} (hgd:o.guard=none) (t:TypeId) (x:Operand) (ho:o.op=.buildSlice t 1 #[(0,x)])
 (v:Value) (hx:ac.eval x=v) {r:Value} {w':World} (hr:(Instr.buildSlice t 1 #[(0,v)]).run P w=.ok r w') (h:wpList P ops Q rest (ac.put o.dst r) w'):wpList P ops Q (o::rest) ac w:=by
 refine wpList_plain hgd fun K hK=>?_
 unfold Oper.wp execOp
 simp only [ho,Sem.run_bind,Sem.run_pure,Result.andThen_ok,List.map_toArray,List.map_cons,List.map_nil,hx,hr]
 exact hK _ _ h
theorem bs_field (W:World) (c0 c1 c2 c3 c4 c5 c6 c7 c8 c9 c10 c11 c12 c13 c14 c15:Value):(Instr.buildSlice 25 1 #[(0,.agg #[c0,c1,c2,c3,c4,c5,c6,c7,c8,c9,c10,c11,c12,c13,c14,c15])]).run Tryz.prog W=.ok (.slice (some ⟨W.heap.size,0,none⟩) 1 1) (W.alloc (.cells #[c0,c1,c2,c3,c4,c5,c6,c7,c8,c9,c10,c11,c12,c13,c14,c15] 65)):=by
 unfold Instr.buildSlice
 go_simp
structure FMade (w:World) (xb:Nat) (p1 q:Ft) (W:World):Prop where
 c:W.heap[xb]?=some (.cells #[.string q.n,.bool q.o,.bool q.h,.int .i64 q.t.v.k,.int .i64 q.t.v.lo,.int .i64 q.t.v.hi,.slice q.t.xd q.t.v.x.length q.t.xc,.slice q.t.td q.t.v.t.length q.t.tc,.slice q.t.fd q.t.v.f.length q.t.fc,.string q.t.v.n,.int .i64 q.d.v.k,.int .i64 q.d.v.n,.int .u64 q.d.v.f,.string q.d.v.s,.slice q.d.ad q.d.v.l.length q.d.cap,.slice q.d.bd q.d.v.e.length q.d.dap] 65)
 b:Below xb w W
 o:OwnT W (fun b=>xb<=b) q.t
 vd:VAt W (fun b=>xb<=b) q.d
 hf:q.fd=p1.fd
theorem fmade {w w4 w5 w6 W:World} {xb:Nat} {p1:Ft} {p:Lt} {d:Loc} (h4:Below xb w w4) (hx:xb<w4.heap.size) (h5:Below w4.heap.size w4 w5) (hp:OwnT w5 (fun b=>w4.heap.size<=b) p) (hpv:p.v=p1.t.v) (h6:Below w5.heap.size w5 w6) (hd:VAt w6 (fun b=>w5.heap.size<=b) d) (hdv:d.v=p1.d.v)
 (hc:W.heap[xb]?=some (.cells #[.string p1.n,.bool p1.o,.bool p1.h,.int .i64 p.v.k,.int .i64 p.v.lo,.int .i64 p.v.hi,.slice p.xd p.v.x.length p.xc,.slice p.td p.v.t.length p.tc,.slice p.fd p.v.f.length p.fc,.string p.v.n,.int .i64 d.v.k,.int .i64 d.v.n,.int .u64 d.v.f,.string d.v.s,.slice d.ad d.v.l.length d.cap,.slice d.bd d.v.e.length d.dap] 65)) (hg:w6.grownBy W (some xb)):∃ q,FMade w xb p1 q W:=by
 have h5s:=h5.size
 have h6s:=h6.size
 have hne:∀ b,w4.heap.size<=b->some b≠some xb:=fun b hb e=>by have:=Option.some.inj e;omega
 refine ⟨⟨p1.n,p1.o,p1.h,p,d⟩,hc,(h4.trans ((h5.trans (h6.mono h5s)).mono (Nat.le_of_lt hx))).grown hg (by omega) (fun k e=>by have:=Option.some.inj e;omega),?_,?_,by unfold Ft.fd;rw [hpv,hdv]⟩
 ·exact ((hp.keep h6).through hg.size (fun b hb hl=>hg.block b hl (hne b hb))).weak (fun b hb _=>by omega)
 ·exact (hd.through hg.size (fun b hb hl=>hg.block b hl (hne b (by omega))) (fun _ h _=>h)).weak (fun b hb _=>by omega)
structure LoopF (w:World) (a:Ty) (nx nt:Nat) (xo ao:Option Addr) (xq cp L j:Nat) (bo:Option Addr) (cq:Nat) (ps:List Ft) (W:World):Prop where
 rn:ps.length=j
 ro:OTS w a.k a.lo a.hi (.slice xo nx xq) (.slice ao nt cp) (.slice bo j cq) a.n W
 ra:AccT W L (L<·) true 65 (.slice bo j cq) ps
 rs:SoleT W L (.slice bo j cq) ps
 rk:ps.map Ft.fd=a.f.take j
 rx:SRow W (fun b=>w.heap.size+1<b/\b<L+1) a.x (.slice xo nx xq)
 rt:TRow W (fun b=>w.heap.size+1<b/\b<L+1) false (tf a.t) (.slice ao nt cp)
 rm:L+1<=W.heap.size
theorem own_round {w wr W:World} {a:Ty} {nx nt:Nat} {xo ao:Option Addr} {xq cp L j:Nat} {bo:Option Addr} {cq:Nat} {ps:List Ft} (h:LoopF w a nx nt xo ao xq cp L j bo cq ps wr) (hL:w.heap.size+1<=L) (hj:j<=200) {p1 q:Ft} (hx:a.f[j]?=some p1.fd) (hk:p1.n.size<=140737488351232) (hf:FMade wr wr.heap.size p1 q W) :
 ∃ ao7 c7 w7,(Builtin.append_ #[25,25] 25 #[.slice bo j cq,.slice (some ⟨W.heap.size,0,none⟩) 1 1]).run Tryz.prog (W.alloc (.cells #[.string q.n,.bool q.o,.bool q.h,.int .i64 q.t.v.k,.int .i64 q.t.v.lo,.int .i64 q.t.v.hi,.slice q.t.xd q.t.v.x.length q.t.xc,.slice q.t.td q.t.v.t.length q.t.tc,.slice q.t.fd q.t.v.f.length q.t.fc,.string q.t.v.n,.int .i64 q.d.v.k,.int .i64 q.d.v.n,.int .u64 q.d.v.f,.string q.d.v.s,.slice q.d.ad q.d.v.l.length q.d.cap,.slice q.d.bd q.d.v.e.length q.d.dap] 65))=.ok (.slice ao7 (j+1) c7) w7 /\
  W.cell? ⟨w.heap.size,5,none⟩=some (.slice bo j cq)/\w7.cell? ⟨w.heap.size,5,none⟩=some (.slice bo j cq)/\w7.frozen? ⟨w.heap.size,5,none⟩=false/\LoopF w a nx nt xo ao xq cp L (j+1) ao7 c7 (ps++[q]) (w7.setCell ⟨w.heap.size,5,none⟩ (.slice ao7 (j+1) c7)):=by
 have ho9:=h.ro.keep hf.b
 have ha9:=h.ra.keep hf.b
 have hml:=h.rm
 have hs9:=hf.b.size
 have hab:=h.ra.above
 have hqn:q.n=p1.n:=congrArg Fd.n hf.hf
 obtain ⟨ao7,c7,w7,hrun,ha7,hg7,hm7⟩:=AccT.append1m (ti:=25) Tryz.underlying25 Tryz.info_fd rfl ha9 (by omega) q
  (hf.o.at_.weak (fun b hb _=>⟨by omega,fun e=>by have:=(hab b e).2;omega⟩)) (hf.vd.weak (fun b hb _=>⟨by omega,fun e=>by have:=(hab b e).2;omega⟩)) (by rw [hqn];exact hk) j h.rn (by omega) (by omega)
 have hs7:=h.rs.push (p:=q) hf.b hf.o hf.vd (by omega) (fun k hk=>(hab k hk).2) hg7 hm7
 have ho7:=ho9.grow hg7 (fun b e=>by have:=(hab b e).1;omega)
 have hx7:=(h.rx.keep hf.b).grow hg7 (fun b e hb=>by have:=(hab b e).1;omega)
 have ht7:=(h.rt.keep' hf.b).grow hg7 (fun b e hb=>by have:=(hab b e).1;omega)
 obtain ⟨-,-,-,-,-,k5,-,-⟩:=ty_cells ho9.box
 obtain ⟨-,-,-,-,-,k5',-,kf⟩:=ty_cells ho7.box
 have gc:=grown_cell w7 w.heap.size 5 (.slice ao7 (j+1) c7)
 have hsb:∀ b,some w.heap.size=some b->b=w.heap.size:=fun b e=>(Option.some.inj e).symm
 refine ⟨ao7,c7,w7,hrun,k5,k5',kf 5,?_⟩
 exact ⟨by rw [List.length_append,h.rn];rfl,ho7.setF _,ha7.grow gc (fun b e=>by have:=hsb b e;omega),hs7.grow gc (fun b e=>.inl (by have:=hsb b e;omega)),by
  rw [List.map_append,h.rk,take_snoc hx,List.map_cons,List.map_nil,hf.hf],hx7.grow gc (fun b e hb=>by have:=hsb b e;omega),ht7.grow gc (fun b e hb=>by have:=hsb b e;omega),Nat.le_trans hml (Nat.le_trans hs9 (Nat.le_trans hg7.size gc.size))⟩
end Go.Proofs.YtgnonbdkmmkdgaaGreatDoor
namespace Go.Proofs.YtgnonbdkmmkdgaaGreatDoor
open Go.RowKit Gx
structure Lm where
 k:Int
 p:List ByteArray
 key:ByteArray
 dst:ByteArray
 q:Loc
 pd:Option Addr
 pc:Nat
def Lm.mv (m:Lm):Mv:=⟨m.k,m.p,m.key,m.dst,m.q.v⟩
def Lm.val (m:Lm):Value:=.agg #[.int .i64 m.k,.slice m.pd m.p.length m.pc,.string m.key,.string m.dst,.int .i64 m.q.v.k,.int .i64 m.q.v.n,.int .u64 m.q.v.f,.string m.q.v.s,.slice m.q.ad m.q.v.l.length m.q.cap,.slice m.q.bd m.q.v.e.length m.q.dap]
structure MvAt (w:World) (B:Nat->Prop) (m:Lm):Prop where
 k0:-9223372036854775808<=m.k
 k1:m.k<=9223372036854775807
 s1:m.key.size<=140737488351232
 s2:m.dst.size<=140737488351232
 p:SRow w B m.p (.slice m.pd m.p.length m.pc)
 v:VAt w B m.q
 c0:m.p.length<=m.pc
 c1:m.pc<=9223372036854775807
theorem MvAt.keep {w w':World} {B:Nat->Prop} {m:Lm} (h:MvAt w B m) (hb:Below w.heap.size w w'):MvAt w' B m:=⟨h.k0,h.k1,h.s1,h.s2,h.p.keep hb,h.v.keep hb,h.c0,h.c1⟩
theorem ten_cells {w:World} {b:Nat} {ty:TypeId} {a0 a1 a2 a3 a4 a5 a6 a7 a8 a9:Value} (h:w.heap[b]?=some (.cells #[a0,a1,a2,a3,a4,a5,a6,a7,a8,a9] ty)):w.cell? ⟨b,0,none⟩=some a0/\w.cell? ⟨b,1,none⟩=some a1/\w.cell? ⟨b,2,none⟩=some a2/\w.cell? ⟨b,3,none⟩=some a3/\w.cell? ⟨b,4,none⟩=some a4/\w.cell? ⟨b,5,none⟩=some a5/\w.cell? ⟨b,6,none⟩=some a6/\w.cell? ⟨b,7,none⟩=some a7/\w.cell? ⟨b,8,none⟩=some a8/\w.cell? ⟨b,9,none⟩=some a9 :=
 ⟨by simp [World.cell?,h],by simp [World.cell?,h],by simp [World.cell?,h],by simp [World.cell?,h],by simp [World.cell?,h],by simp [World.cell?,h],by simp [World.cell?,h],by simp [World.cell?,h],by simp [World.cell?,h],by simp [World.cell?,h]⟩
end Go.Proofs.YtgnonbdkmmkdgaaGreatDoor
namespace Go.Proofs.YtgnonbdkmmkdgaaGreatDoor
abbrev Links:=List (Int×Int)
def Leads (L:Links):List Nat->Int->Int->Prop
 | [],a,b=>a=b
 | i::r,a,b=>∃ p,L[i]?=some p/\p.1=a/\Leads L r p.2 b
def unk (L:Links) (f:Int->Option Nat):Nat:=L.countP fun l=>(f l.1).isNone
structure Bfs (L:Links) (zt:Int) (f:Int->Option Nat) (q:List (Int×Nat)) (p k:Nat):Prop where
 i1:f zt=some 0
 i2:∀ x d,f x=some d->(x=zt/\d=0)\/∃ y e,(x,y)∈L/\f y=some e/\d=e+1
 i3:∀ z∈q,f z.1=some z.2
 i4:q.Pairwise fun a b=>a.2<=b.2
 i5:∀ h r,q=h::r->∀ x d,f x=some d->d<=h.2+1
 i6:∀ y e,f y=some e->(∀ z∈q,z.1≠y)->∀ x,(x,y)∈L->∃ d,f x=some d/\d<=e+1
 i7:∀ h r,q=h::r->∀ j,j<k->∀ x,L[j]?=some (x,h.1)->∃ d,f x=some d
 i8:∀ x d,f x=some d->d<=p
 i9:p+unk L f<=L.length
def put1 (f:Int->Option Nat) (x:Int) (d:Nat):Int->Option Nat:=fun y=>if y=x then some d else f y
theorem bfs_start (L:Links) (zt:Int):Bfs L zt (put1 (fun _=>none) zt 0) [(zt,0)] 0 0:=by
 refine ⟨by simp [put1],fun x d h=>?_,fun z hz=>?_,by simp,fun h r e x d hx=>?_,fun y e hy hz=>?_,fun h r e j hj=>?_,fun x d h=>?_,?_⟩
 ·unfold put1 at h
  split at h
  ·rename_i hx;cases h;exact .inl ⟨hx,rfl⟩
  ·cases h
 ·simp at hz;subst hz;simp [put1]
 ·unfold put1 at hx
  split at hx
  ·cases hx;omega
  ·cases hx
 ·unfold put1 at hy
  split at hy
  ·rename_i hx;exact absurd hx.symm (hz (zt,0) (by simp))
  ·cases hy
 ·omega
 ·unfold put1 at h
  split at h
  ·cases h;omega
  ·cases h
 ·rw [Nat.zero_add];exact List.countP_le_length
theorem bfs_skip {L:Links} {zt:Int} {f:Int->Option Nat} {h:Int×Nat} {r:List (Int×Nat)} {p k:Nat} (B:Bfs L zt f (h::r) p k) {x y:Int} (hk:L[k]?=some (x,y)) (hs:y≠h.1\/∃ d,f x=some d) :
 Bfs L zt f (h::r) p (k+1):=by
 refine ⟨B.i1,B.i2,B.i3,B.i4,B.i5,B.i6,fun h' r' e j hj x' hx'=>?_,B.i8,B.i9⟩
 cases e
 by_cases hjk:j=k
 ·subst hjk
  rw [hk] at hx'
  cases hx'
  rcases hs with hs|hs
  ·exact absurd rfl hs
  ·exact hs
 ·exact B.i7 h r rfl j (by omega) x' hx'
theorem unk_put (L:Links) (f:Int->Option Nat) (x:Int) (d k:Nat) (y:Int) (hk:L[k]?=some (x,y)) (hx:f x=none):unk L (put1 f x d)+1<=unk L f:=by
 induction L generalizing k with
 | nil=>simp at hk
 | cons a t ih =>
   have hle:∀ t:Links,t.countP (fun l=>(put1 f x d l.1).isNone)<=t.countP (fun l=>(f l.1).isNone):=by
    intro t
    refine List.countP_mono_left fun l _ hl=>?_
    unfold put1 at hl
    split at hl
    ·simp at hl
    ·exact hl
   unfold unk
   rw [List.countP_cons,List.countP_cons]
   cases k with
   | zero =>
     simp at hk
     subst hk
     have:=hle t
     simp [put1,hx]
     simp [put1] at this
     omega
   | succ k =>
     have h1:=ih k (by simpa using hk)
     unfold unk at h1
     have h2:(if (put1 f x d a.1).isNone=true then 1 else 0)<=(if (f a.1).isNone=true then 1 else 0):=by
      unfold put1
      by_cases hax:a.1=x
      ·rw [if_pos hax];simp
      ·rw [if_neg hax];exact Nat.le_refl _
     omega
theorem bfs_push {L:Links} {zt:Int} {f:Int->Option Nat} {h:Int×Nat} {r:List (Int×Nat)} {p k:Nat} (B:Bfs L zt f (h::r) p k) {x:Int} (hk:L[k]?=some (x,h.1)) (hx:f x=none) :
 Bfs L zt (put1 f x (h.2+1)) (h::(r++[(x,h.2+1)])) (p+1) (k+1):=by
 have hmono:∀ y d,f y=some d->put1 f x (h.2+1) y=some d:=by
  intro y d hy
  unfold put1
  rw [if_neg (by intro e;rw [e,hx] at hy;cases hy)]
  exact hy
 have hback:∀ y d,put1 f x (h.2+1) y=some d->(y=x/\d=h.2+1)\/f y=some d:=by
  intro y d hy
  unfold put1 at hy
  split at hy
  ·rename_i e;cases hy;exact .inl ⟨e,rfl⟩
  ·exact .inr hy
 have hh:f h.1=some h.2:=B.i3 h (by simp)
 refine ⟨hmono _ _ B.i1,fun y d hy=>?_,fun z hz=>?_,?_,fun h' r' e y d hy=>?_,fun y e hy hz x' hx'=>?_,fun h' r' e j hj x' hx'=>?_,fun y d hy=>?_,?_⟩
 ·rcases hback y d hy with ⟨rfl,rfl⟩|hy
  ·exact .inr ⟨h.1,h.2,List.mem_of_getElem? hk,hmono _ _ hh,rfl⟩
  ·rcases B.i2 y d hy with h1|⟨y',e,h1,h2,h3⟩
   ·exact .inl h1
   ·exact .inr ⟨y',e,h1,hmono _ _ h2,h3⟩
 ·rw [<-List.cons_append] at hz
  rcases List.mem_append.1 hz with hz|hz
  ·exact hmono _ _ (B.i3 z hz)
  ·simp at hz;subst hz;simp [put1]
 ·rw [<-List.cons_append,List.pairwise_append]
  refine ⟨B.i4,by simp,fun a ha b hb=>?_⟩
  simp at hb
  subst hb
  exact B.i5 h r rfl _ _ (B.i3 a ha)
 ·cases e
  rcases hback y d hy with ⟨rfl,rfl⟩|hy
  ·exact Nat.le_refl _
  ·exact B.i5 h r rfl y d hy
 ·rcases hback y e hy with ⟨rfl,rfl⟩|hy
  ·exact absurd rfl (hz (y,h.2+1) (by simp))
  ·obtain ⟨d,h1,h2⟩:=B.i6 y e hy (fun z hz'=>hz z (by rw [<-List.cons_append];exact List.mem_append.2 (.inl hz'))) x' hx'
   exact ⟨d,hmono _ _ h1,h2⟩
 ·cases e
  by_cases hjk:j=k
  ·subst hjk
   rw [hk] at hx'
   cases hx'
   exact ⟨_,by simp [put1];rfl⟩
  ·obtain ⟨d,h1⟩:=B.i7 h r rfl j (by omega) x' hx'
   exact ⟨d,hmono _ _ h1⟩
 ·rcases hback y d hy with ⟨rfl,rfl⟩|hy
  ·have:=B.i8 _ _ hh;omega
  ·have:=B.i8 _ _ hy;omega
 ·have:=unk_put L f x (h.2+1) k h.1 hk hx
  have:=B.i9
  omega
theorem bfs_pop {L:Links} {zt:Int} {f:Int->Option Nat} {h:Int×Nat} {r:List (Int×Nat)} {p:Nat} (B:Bfs L zt f (h::r) p L.length):Bfs L zt f r p 0:=by
 have hh:f h.1=some h.2:=B.i3 h (by simp)
 refine ⟨B.i1,B.i2,fun z hz=>B.i3 z (by simp [hz]),(List.pairwise_cons.1 B.i4).2,fun h' r' e x d hx=>?_,fun y e hy hz x hx=>?_,fun h' r' e j hj=>by omega,B.i8,B.i9⟩
 ·subst e
  have h1:=B.i5 h _ rfl x d hx
  have h2:=(List.pairwise_cons.1 B.i4).1 h' (by simp)
  omega
 ·by_cases hy1:h.1=y
  ·subst hy1
   rw [hh] at hy
   cases hy
   obtain ⟨j,hj,hj2⟩:=List.getElem_of_mem hx
   obtain ⟨d,hd⟩:=B.i7 h r rfl j hj x (by rw [List.getElem?_eq_getElem hj,hj2])
   exact ⟨d,hd,B.i5 h r rfl x d hd⟩
  ·refine B.i6 y e hy (fun z hz'=>?_) x hx
   rcases List.mem_cons.1 hz' with rfl|hz'
   ·exact hy1
   ·exact hz z hz'
structure Dist (L:Links) (zt:Int) (f:Int->Option Nat):Prop where
 d1:f zt=some 0
 d2:∀ x d,f x=some d->(x=zt/\d=0)\/∃ y e,(x,y)∈L/\f y=some e/\d=e+1
 d3:∀ y e,f y=some e->∀ x,(x,y)∈L->∃ d,f x=some d/\d<=e+1
 d4:∀ x d,f x=some d->d<=L.length
theorem bfs_end {L:Links} {zt:Int} {f:Int->Option Nat} {p k:Nat} (B:Bfs L zt f [] p k):Dist L zt f :=
 ⟨B.i1,B.i2,fun y e hy x hx=>B.i6 y e hy (fun z hz=>by simp at hz) x hx,fun x d hx=>by have:=B.i8 x d hx;have:=B.i9;omega⟩
theorem Dist.zero {L:Links} {zt:Int} {f:Int->Option Nat} (D:Dist L zt f) {x:Int} (h:f x=some 0):x=zt:=by
 rcases D.d2 x 0 h with ⟨h,_⟩|⟨y,e,_,_,h⟩
 ·exact h
 ·omega
def nearer (L:Links) (f:Int->Option Nat) (x:Int) (i:Nat):Prop:=∃ y e,L[i]?=some (x,y)/\f y=some e/\f x=some (e+1)
def Way (L:Links) (f:Int->Option Nat):List Nat->Int->Int->Prop
 | [],a,b=>a=b
 | i::r,a,b=>∃ y,L[i]?=some (a,y)/\nearer L f a i/\(∀ j,j<i->¬ nearer L f a j)/\Way L f r y b
theorem Way.leads {L:Links} {f:Int->Option Nat}:∀ {o:List Nat} {a b:Int},Way L f o a b->Leads L o a b
 | [],_,_,h=>h
 | _::_,_,_,⟨y,h1,_,_,h4⟩=>⟨(_,y),h1,rfl,h4.leads⟩
theorem Way.lt {L:Links} {f:Int->Option Nat}:∀ {o:List Nat} {a b:Int},Way L f o a b->∀ i∈o,i<L.length
 | [],_,_,_,i,hi=>by simp at hi
 | j::r,_,_,⟨y,h1,_,_,h4⟩,i,hi=>by
   rcases List.mem_cons.1 hi with rfl|hi
   ·exact (List.getElem?_eq_some_iff.1 h1).1
   ·exact h4.lt i hi
theorem Way.snoc {L:Links} {f:Int->Option Nat} {i:Nat} {y:Int}:∀ {o:List Nat} {a b:Int},Way L f o a b->L[i]?=some (b,y)->nearer L f b i->(∀ j,j<i->¬ nearer L f b j)->Way L f (o++[i]) a y
 | [],a,b,h,h1,h2,h3=>by
   obtain rfl:a=b:=h
   exact ⟨y,h1,h2,h3,rfl⟩
 | _::_,_,_,⟨z,g1,g2,g3,g4⟩,h1,h2,h3=>⟨z,g1,g2,g3,g4.snoc h1 h2 h3⟩
theorem Way.len {L:Links} {f:Int->Option Nat}:∀ {o:List Nat} {a b:Int},Way L f o a b->∀ e,f b=some e->f a=some (e+o.length)
 | [],a,b,h,e,he=>by
   obtain rfl:a=b:=h
   exact he
 | i::r,a,b,⟨y,g1,⟨y',e',k1,k2,k3⟩,g3,g4⟩,e,he=>by
   have:=g4.len e he
   rw [g1] at k1
   cases k1
   rw [k2] at this
   cases this
   rw [k3,List.length_cons,Nat.add_assoc]
theorem Dist.goes {L:Links} {zt:Int} {f:Int->Option Nat} (D:Dist L zt f) {x:Int} {d:Nat} (h:f x=some d) (hx:x≠zt):∃ i,i<L.length/\nearer L f x i:=by
 rcases D.d2 x d h with ⟨h1,_⟩|⟨y,e,h1,h2,h3⟩
 ·exact absurd h1 hx
 ·obtain ⟨i,hi,hi2⟩:=List.getElem_of_mem h1
  exact ⟨i,hi,y,e,by rw [List.getElem?_eq_getElem hi,hi2],h2,by rw [h,h3]⟩
theorem Dist.least {L:Links} {zt:Int} {f:Int->Option Nat} (D:Dist L zt f):∀ (o:List Nat) (a:Int),Leads L o a zt->∃ d,f a=some d/\d<=o.length
 | [],a,h=>by
   obtain rfl:a=zt:=h
   exact ⟨0,D.d1,Nat.le_refl _⟩
 | i::r,a,⟨p,h1,h2,h3⟩=>by
   obtain ⟨e,h4,h5⟩:=D.least r p.2 h3
   subst h2
   obtain ⟨d,h6,h7⟩:=D.d3 p.2 e h4 p.1 (List.mem_of_getElem? h1)
   exact ⟨d,h6,by rw [List.length_cons];omega⟩
end Go.Proofs.YtgnonbdkmmkdgaaGreatDoor
namespace Go.Proofs.YtgnonbdkmmkdgaaGreatDoor
open Go.RowKit Go.Deep
section
variable {H:Type} {enc:TypeId×Value->H} {P:Program} {w:World} {base:Nat} {spare:Nat->Bool} {held:Bool}
end
structure Lk (w:World) (ad:Option Addr) (cap:Nat) (L:Links):Prop where
 ncap:L.length<=cap
 cap63:cap<=9223372036854775807
 wf:∀ p∈L,(Lit.int .i64 p.1).wf=true/\(Lit.int .i64 p.2).wf=true
 none_:ad=none->cap=0
 at_:∀ a,ad=some a->0<L.length->a.spot=none/\a.block<w.heap.size/\∀ j p,L[j]?=some p ->
  w.cell? ⟨a.block,a.off+j * 3,none⟩=some (.int .i64 p.1)/\w.cell? ⟨a.block,a.off+j * 3+1,none⟩=some (.int .i64 p.2)/\∃ x y z,w.cell? ⟨a.block,a.off+j * 3+2,none⟩=some (.slice x y z)
theorem Lk.keep {w w':World} {ad:Option Addr} {cap:Nat} {L:Links} (h:Lk w ad cap L) (hb:Below w.heap.size w w'):Lk w' ad cap L:=by
 refine ⟨h.ncap,h.cap63,h.wf,h.none_,fun a ha hp=>?_⟩
 obtain ⟨h1,h2,h3⟩:=h.at_ a ha hp
 have hk:∀ o,w'.cell? ⟨a.block,o,none⟩=w.cell? ⟨a.block,o,none⟩:=fun o=>hb.cell (p:=⟨a.block,o,none⟩) h2
 refine ⟨h1,Nat.lt_of_lt_of_le h2 hb.size,fun j p hj=>?_⟩
 rw [hk,hk,hk]
 exact h3 j p hj
theorem Lk.addr {w:World} {ad:Option Addr} {cap:Nat} {L:Links} (h:Lk w ad cap L) (hp:0<L.length):∃ b off,ad=some ⟨b,off,none⟩/\b<w.heap.size/\∀ j p,L[j]?=some p ->
 w.cell? ⟨b,off+j * 3,none⟩=some (.int .i64 p.1)/\w.cell? ⟨b,off+j * 3+1,none⟩=some (.int .i64 p.2)/\∃ x y z,w.cell? ⟨b,off+j * 3+2,none⟩=some (.slice x y z):=by
 cases ad with
 | none=>have:=h.none_ rfl;have:=h.ncap;omega
 | some a =>
   obtain ⟨h1,h2,h3⟩:=h.at_ a rfl hp
   obtain ⟨b,off,spot⟩:=a
   simp only at h1
   subst h1
   exact ⟨b,off,rfl,h2,h3⟩
end Go.Proofs.YtgnonbdkmmkdgaaGreatDoor
