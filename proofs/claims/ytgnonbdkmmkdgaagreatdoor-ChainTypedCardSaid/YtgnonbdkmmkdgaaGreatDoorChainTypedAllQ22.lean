/-
  Lemmas for the statement: plain laws, and what functions answer; the conditions stand in each.
-/
import Derived.Test.YtgnonbdkmmkdgaaGreatDoorChainTypedAllQ21
set_option linter.unusedVariables false
set_option linter.unusedSimpArgs false
set_option maxHeartbeats 16000000
set_option maxRecDepth 100000
open Go.Lib (hid)
namespace Go.Proofs.YtgnonbdkmmkdgaaGreatDoor
open Go.RowKit Gx
def PutPost (l:List (Fd Ty)) (x:Fd Ty) (C:Nat->Prop) (w:World) (e:Ending) (w':World):Prop:=∃ ao c l',e=.returned (.slice ao (l.length+1) c)/\l'.Perm (l++[x])/\TRow w' C true l' (.slice ao (l.length+1) c)/\Below w.heap.size w w'
theorem enters98:∀ args w,(callFunc 98 args).run Tryz.prog w=.ok (.enter 98 args) w:=enters_of Tryz.func98 (by kernel_rfl) rfl
theorem putF_any {C:Nat->Prop} (ad:Option Addr) (cap:Nat) (l:List (Fd Ty)) (x:Ft) (w:World) (h:TRow w C true l (.slice ad l.length cap)) (hx:TyAt w C x.t) (hd:VAt w C x.d) (hk:x.n.size<=140737488351232) (hl:l.length<=200) (hC:∀ b,w.heap.size<=b->C b) :
 Calls Tryz.prog 73 #[.slice ad l.length cap,x.val] w (PutPost l x.fd C w):=by
 unfold Ft.val
 have hb:=(Below.refl w.heap.size w).alloc (Nat.le_refl _) (.cells #[.string x.n,.bool x.o,.bool x.h,.int .i64 x.t.v.k,.int .i64 x.t.v.lo,.int .i64 x.t.v.hi,.slice x.t.xd x.t.v.x.length x.t.xc,.slice x.t.td x.t.v.t.length x.t.tc,.slice x.t.fd x.t.v.f.length x.t.fc,.string x.t.v.n,.int .i64 x.d.v.k,.int .i64 x.d.v.n,.int .u64 x.d.v.f,.string x.d.v.s,.slice x.d.ad x.d.v.l.length x.d.cap,.slice x.d.bd x.d.v.e.length x.d.dap] 65)
 have hc:=heap_alloc_new w (.cells #[.string x.n,.bool x.o,.bool x.h,.int .i64 x.t.v.k,.int .i64 x.t.v.lo,.int .i64 x.t.v.hi,.slice x.t.xd x.t.v.x.length x.t.xc,.slice x.t.td x.t.v.t.length x.t.tc,.slice x.t.fd x.t.v.f.length x.t.fc,.string x.t.v.n,.int .i64 x.d.v.k,.int .i64 x.d.v.n,.int .u64 x.d.v.f,.string x.d.v.s,.slice x.d.ad x.d.v.l.length x.d.cap,.slice x.d.bd x.d.v.e.length x.d.dap] 65)
 have hsz:(w.alloc (.cells #[.string x.n,.bool x.o,.bool x.h,.int .i64 x.t.v.k,.int .i64 x.t.v.lo,.int .i64 x.t.v.hi,.slice x.t.xd x.t.v.x.length x.t.xc,.slice x.t.td x.t.v.t.length x.t.tc,.slice x.t.fd x.t.v.f.length x.t.fc,.string x.t.v.n,.int .i64 x.d.v.k,.int .i64 x.d.v.n,.int .u64 x.d.v.f,.string x.d.v.s,.slice x.d.ad x.d.v.l.length x.d.cap,.slice x.d.bd x.d.v.e.length x.d.dap] 65)).heap.size=w.heap.size+1:=by simp
 have hr1:=h.through (C:=fun b=>C b/\b<w.heap.size) hb.size (fun b _ hl=>hb.block b hl) (fun b h1 h2=>⟨h1,h2⟩)
 have hx1:=hx.through (C:=fun b=>C b/\b<w.heap.size) hb.size (fun b _ hl=>hb.block b hl) (fun b h1 h2=>⟨h1,h2⟩)
 have hd1:=hd.through (C:=fun b=>C b/\b<w.heap.size) hb.size (fun b _ hl=>hb.block b hl) (fun b h1 h2=>⟨h1,h2⟩)
 have HC:=hid hC
 obtain ⟨n,hn⟩:∃ n,l.length=n:=⟨_,rfl⟩
 rw [hn] at hr1 hl ⊢
 have HN:=hid hn
 clear h hx hd hC hn
 go_enter Tryz.func73,Tryz.ntmps73
 go_upto_region 1 with fail
 generalize World.alloc w _=w1 at hb hc hsz hr1 hx1 hd1 ⊢
 obtain ⟨vb,hvb⟩:∃ vb,w.heap.size=vb:=⟨_,rfl⟩
 have HVB:=hid hvb
 rw [hvb] at hc hsz hr1 hx1 hd1 hb ⊢
 obtain ⟨wv,hwv⟩:∃ wv,wv=(w1.alloc (.cells #[.string x.n,.bool x.o,.bool x.h,.int .i64 x.t.v.k,.int .i64 x.t.v.lo,.int .i64 x.t.v.hi,.slice x.t.xd x.t.v.x.length x.t.xc,.slice x.t.td x.t.v.t.length x.t.tc,.slice x.t.fd x.t.v.f.length x.t.fc,.string x.t.v.n,.int .i64 x.d.v.k,.int .i64 x.d.v.n,.int .u64 x.d.v.f,.string x.d.v.s,.slice x.d.ad x.d.v.l.length x.d.cap,.slice x.d.bd x.d.v.e.length x.d.dap] 65)).drew:=⟨_,rfl⟩
 have hbv:Below (vb+1) w1 wv:=by
  rw [hwv,<-hsz]
  exact ((Below.refl w1.heap.size w1).alloc (Nat.le_refl _) _).trans (Gx.drewN_below _ 1 _)
 have hcv:wv.heap[vb+1]?=some (.cells #[.string x.n,.bool x.o,.bool x.h,.int .i64 x.t.v.k,.int .i64 x.t.v.lo,.int .i64 x.t.v.hi,.slice x.t.xd x.t.v.x.length x.t.xc,.slice x.t.td x.t.v.t.length x.t.tc,.slice x.t.fd x.t.v.f.length x.t.fc,.string x.t.v.n,.int .i64 x.d.v.k,.int .i64 x.d.v.n,.int .u64 x.d.v.f,.string x.d.v.s,.slice x.d.ad x.d.v.l.length x.d.cap,.slice x.d.bd x.d.v.e.length x.d.dap] 65):=by
  rw [hwv,<-hsz]
  exact heap_alloc_new w1 _
 have hsv:wv.heap.size=vb+2:=by
  rw [hwv]
  show (w1.alloc _).heap.size=_
  rw [World.size_alloc,hsz]
 have HB1:=hid (hb.trans (Gx.drewN_below w1 1 _))
 have HX1:=hid (hx1.keep (Gx.drewN_below w1 1 _))
 have HD1:=hid (hd1.keep (Gx.drewN_below w1 1 _))
 have HCB:Hid (w1.drew.heap[vb]?=some (.cells #[.string x.n,.bool x.o,.bool x.h,.int .i64 x.t.v.k,.int .i64 x.t.v.lo,.int .i64 x.t.v.hi,.slice x.t.xd x.t.v.x.length x.t.xc,.slice x.t.td x.t.v.t.length x.t.tc,.slice x.t.fd x.t.v.f.length x.t.fc,.string x.t.v.n,.int .i64 x.d.v.k,.int .i64 x.d.v.n,.int .u64 x.d.v.f,.string x.d.v.s,.slice x.d.ad x.d.v.l.length x.d.cap,.slice x.d.bd x.d.v.e.length x.d.dap] 65)):=hid hc
 have HSZ:Hid (w1.drew.heap.size=vb+1):=hid hsz
 have hbw1:Below w1.heap.size w1 wv:=by rw [hsz];exact hbv
 have HBV:=hid (hb.trans (hbv.mono (by omega:vb<=vb+1)))
 have HXV:=hid (hx1.keep hbw1)
 have HDV:=hid (hd1.keep hbw1)
 have HCV:=hid hcv
 have HSV:=hid hsv
 have hcl:=cloneF_any vb (fun b=>C b/\b<vb) ad cap l w1.drew (by rw [HN.out];exact hr1.keep' (Gx.drewN_below w1 1 _)) (by rw [HN.out];omega) (by rw [HSZ.out];exact Nat.le_refl _)
 have hcl2:=cloneF_any vb (fun b=>C b/\b<vb) ad cap l wv (by rw [HN.out];exact hr1.keep' hbw1) (by rw [HN.out];omega) (by rw [hsv];omega)
 unfold CloneF at hcl hcl2
 rw [HN.out] at hcl hcl2
 have HCL:=hid hcl
 obtain ⟨W0,hW0⟩:∃ W0,W0=wv:=⟨_,rfl⟩
 have HCL2:Hid (Calls Tryz.prog 96 #[.slice ad n cap] (w1.alloc (.cells #[.string x.n,.bool x.o,.bool x.h,.int .i64 x.t.v.k,.int .i64 x.t.v.lo,.int .i64 x.t.v.hi,.slice x.t.xd x.t.v.x.length x.t.xc,.slice x.t.td x.t.v.t.length x.t.tc,.slice x.t.fd x.t.v.f.length x.t.fc,.string x.t.v.n,.int .i64 x.d.v.k,.int .i64 x.d.v.n,.int .u64 x.d.v.f,.string x.d.v.s,.slice x.d.ad x.d.v.l.length x.d.cap,.slice x.d.bd x.d.v.e.length x.d.dap] 65)).drew fun e w'=>∃ ao c ps,e=.returned (.slice ao n c)/\AccT w' vb (fun b=>C b/\b<vb) true 65 (.slice ao n c) ps/\ps.map Ft.fd=l/\Below wv.heap.size wv w'):=hid (by rw [<-hwv];exact hcl2)
 have HSZ1:Hid (w1.heap.size=vb+1):=hid hsz
 obtain ⟨e0,e1,e2,e3,e4,e5,e6,e7,e8,e9,e10,e11,e12,e13,e14,e15⟩:=FcAt.box hc
 clear hb hc hsz hr1 hx1 hd1 hcl hcl2 hvb hwv hbv hcv hsv hbw1 hW0
 go_region_law (first
  | (go_simp;(with_reducible refine HCL.out.mono ?_);rintro e w5 ⟨ao,c,ps,rfl,hacc,hfd,hb5⟩;obtain ⟨z0,z1,z2,z3,z4,z5,z6,z7,z8,z9,z10,z11,z12,z13,z14,z15⟩:=FcAt.box ((hb5.block vb (by rw [HSZ.out];omega)).trans HCB.out);have HA5:=hid hacc;have HF5:=hid hfd;have HB5:=hid (HB1.out.trans (hb5.mono (by rw [HSZ.out];omega)));have HX5:=hid (HX1.out.keep hb5);have HD5:=hid (HD1.out.keep hb5);have HS5:Hid (vb+1<=w5.heap.size):=hid (by have:=hb5.size;rw [HSZ.out] at this;exact this);have tokA:Hid (1=1):=rfl;clear hacc hfd hb5)
  | (go_simp;(with_reducible refine HCL2.out.mono ?_);rintro e w5 ⟨ao,c,ps,rfl,hacc,hfd,hb5⟩;have HA5:=hid hacc;have HF5:=hid hfd;have HB5:=hid (HBV.out.trans (hb5.mono (by rw [HSV.out];omega)));have HX5:=hid (HXV.out.keep hb5);have HD5:=hid (HDV.out.keep hb5);have HS5:Hid (vb+1<=w5.heap.size):=hid (by have:=hb5.size;rw [HSV.out] at this;omega);have HCV5:=hid ((hb5.block (vb+1) (by rw [HSV.out];omega)).trans HCV.out);clear hacc hfd hb5)
  | (have _t:=tokA;have hlow:=HA5.out.own.lt;refine step_accTm Tryz.underlying25 Tryz.info_fd rfl (by decide) rfl (.tmp 7) (.tmp 9) rfl HA5.out HS5.out x (HX5.out.weak (fun b hb _=>⟨hb,fun e=>by have:=(hlow b e).1;have:=hb.2;omega⟩)) (HD5.out.weak (fun b hb _=>⟨hb,fun e=>by have:=(hlow b e).1;have:=hb.2;omega⟩)) hk _ rfl rfl rfl n (by have:=congrArg List.length HF5.out;rw [List.length_map,HN.out] at this;exact this) (by omega) (by omega) ?_;intro ao6 c6 w6 ha6 hg6 _;have HA6:=hid ha6;have HG6:=hid hg6;clear ha6 hg6 hlow)
  | (have hlow:=HA5.out.own.lt;refine step_accTat Tryz.underlying25 Tryz.info_fd rfl (by decide) rfl (.tmp 7) (.tmp 9) rfl HA5.out HS5.out x (HX5.out.weak (fun b hb _=>⟨hb,fun e=>by have:=(hlow b e).1;have:=hb.2;omega⟩)) (HD5.out.weak (fun b hb _=>⟨hb,fun e=>by have:=(hlow b e).1;have:=hb.2;omega⟩)) hk (vb+1) HCV5.out rfl (by rw [<-HSZ1.out];rfl) n (by have:=congrArg List.length HF5.out;rw [List.length_map,HN.out] at this;exact this) (by omega) (by omega) ?_;intro ao6 c6 w6 ha6 hg6 _;have HA6:=hid ha6;have HG6:=hid hg6;clear ha6 hg6 hlow))
 all_goals
  have hpl:(ps++[x]).length=n+1:=by
   have:=congrArg List.length HF5.out
   rw [List.length_map,HN.out] at this
   rw [List.length_append,this];rfl
  have HS:=hid (sortFd_any 98 cmpPut cmpPut_swo enters98 (fun p q W=>put1_any p q W) ao6 c6 (n+1) (ps++[x]) w6 HA6.out hpl (by omega))
  clear hpl e0 e1 e2 e3 e4 e5 e6 e7 e8 e9 e10 e11 e12 e13 e14 e15
  try clear z0 z1 z2 z3 z4 z5 z6 z7 z8 z9 z10 z11 z12 z13 z14 z15
  go_wp2_with fail
  (with_reducible refine HS.out.mono ?_)
  rintro e w7 ⟨rfl,ps',hp,ha7,hg7⟩
  have HR:Hid (PutPost l x.fd C w (.returned (.slice ao6 (n+1) c6)) w7):=hid (by
   have hpl':=hp.length_eq
   have h5l:=congrArg List.length HF5.out
   rw [List.length_map,HN.out] at h5l
   rw [List.length_append,h5l] at hpl'
   have hbl:Below w.heap.size w w7:=by
    rw [HVB.out]
    have hlow5:=HA5.out.own.lt
    have hb16:=HB5.out.grown HG6.out (by have:=HS5.out;omega) (fun k e=>by have:=(hlow5 k e).1;omega)
    have hlow6:=HA6.out.own.lt
    exact hb16.grown hg7 (by have:=HS5.out;have:=HG6.out.size;omega) (fun k e=>by have:=(hlow6 k e).1;omega)
   refine ⟨ao6,c6,ps'.map Ft.fd,by rw [HN.out],?_,?_,hbl⟩
   ·have:=hp.map Ft.fd
    rwa [List.map_append,HF5.out] at this
   ·rw [HN.out]
    exact ha7.row (C:=C) (by rw [hpl'];simp;omega) rfl (fun b hb hor=>by
     rcases hor with h|h
     ·exact h.1
     ·exact HC.out b (by rw [HVB.out];omega)))
  clear hp ha7 hg7 HS HA6 HG6 HA5 HF5 HB5 HX5 HD5 HS5
  go_wp2_with fail
  try go_ret
  exact HR.out
end Go.Proofs.YtgnonbdkmmkdgaaGreatDoor
