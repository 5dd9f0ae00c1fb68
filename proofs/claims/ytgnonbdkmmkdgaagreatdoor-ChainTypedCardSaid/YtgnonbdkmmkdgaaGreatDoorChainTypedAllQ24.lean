/-
  Lemmas for the statement: plain laws, and what functions answer; the conditions stand in each.
-/
import Derived.Test.YtgnonbdkmmkdgaaGreatDoorChainTypedAllQ21
set_option linter.unusedVariables false
set_option linter.unusedSimpArgs false
set_option maxHeartbeats 16000000
set_option maxRecDepth 100000
open Go.Lib (hid)
namespace Go.Proofs.YtgnonbdkmmkdgaaGreatDoor
open Go.RowKit Gx
structure OTb (w:World) (X:Array Value) (tb M j:Nat) (bo:Option Addr) (cq:Nat) (ps:List Ft) (W:World):Prop where
 rb:OM w X W
 bt:W.heap[tb]?=some (.cells #[.int .i64 10,.int .i64 0,.int .i64 0,.slice none 0 0,.slice none 0 0,.slice bo j cq,.string ⟨#[]⟩] 27)
 ra:AccT W M (M<·) true 65 (.slice bo j cq) ps
 rn:ps.length=j
 lt:w.heap.size+1<tb
 hM:tb<=M
 rm:M+1<=W.heap.size
theorem OTb.keep {w W W':World} {X:Array Value} {tb M j:Nat} {bo:Option Addr} {cq:Nat} {ps:List Ft} (h:OTb w X tb M j bo cq ps W) (hb:Below W.heap.size W W'):OTb w X tb M j bo cq ps W' :=
 ⟨h.rb.keep hb,(hb.block _ (Array.getElem?_eq_some_iff.1 h.bt).1).trans h.bt,h.ra.keep hb,h.rn,h.lt,h.hM,Nat.le_trans h.rm hb.size⟩
def fieldOf (s:ByteArray) (y:Lt):Ft:=⟨s,false,false,y,⟨.zero,none,0,none,0⟩⟩
theorem OTb.more {w W:World} {X:Array Value} {tb M j:Nat} {bo:Option Addr} {cq:Nat} {ps:List Ft} (h:OTb w X tb M j bo cq ps W) (hj:j<=1000) (s:ByteArray) (hs:s.size<=140737488351232) (y:Lt) (n:Nat) (hn:M+1<=n) (ho:∀ b,(Value.slice bo j cq).ownBlock=some b->b<n) (hy:TyAt W (fun b=>n<=b) y) :
 ∃ ao c7 w7,(Builtin.append_ #[25,25] 25 #[.slice bo j cq,.slice (some ⟨W.heap.size,0,none⟩) 1 1]).run Tryz.prog (W.alloc (.cells #[.string s,.bool false,.bool false,.int .i64 y.v.k,.int .i64 y.v.lo,.int .i64 y.v.hi,.slice y.xd y.v.x.length y.xc,.slice y.td y.v.t.length y.tc,.slice y.fd y.v.f.length y.fc,.string y.v.n,.int .i64 0,.int .i64 0,.int .u64 0,.string ⟨#[]⟩,.slice none 0 0,.slice none 0 0] 65))=.ok (.slice ao (j+1) c7) w7 /\
  w7.cell? ⟨tb,5,none⟩=some (.slice bo j cq)/\w7.frozen? ⟨tb,5,none⟩=false/\W.grownBy w7 (Value.slice bo j cq).ownBlock/\OTb w X tb M (j+1) ao c7 (ps++[fieldOf s y]) (w7.setCell ⟨tb,5,none⟩ (.slice ao (j+1) c7)):=by
 have hlow:=h.ra.own.lt
 obtain ⟨ao,c7,w7,hrun,ha7,hg7,hm7⟩:=AccT.append1m (ti:=25) Tryz.underlying25 Tryz.info_fd rfl h.ra h.rm (fieldOf s y) (hy.weak (fun b hb _=>⟨by omega,fun e=>by have:=ho b e;omega⟩)) (VAt.zero _ _ _ _ _ _) hs j h.rn (by omega) (by omega)
 have hb7:=(hg7.block tb (Array.getElem?_eq_some_iff.1 h.bt).1 (fun e=>by have:=(hlow _ e.symm).1;have:=h.hM;omega)).trans h.bt
 have gc:=grown_cell w7 tb 5 (.slice ao (j+1) c7)
 have hlt:=h.lt
 have hM:=h.hM
 have hlow7:=ha7.own.lt
 refine ⟨ao,c7,w7,hrun,?_,?_,hg7,⟨(h.rb.grow hg7 (fun b e=>by have:=(hlow b e).1;omega)).grow gc (fun b e=>by have:=Option.some.inj e;omega),cell_store hb7 5 _,ha7.grow gc (fun b e=>by have:=Option.some.inj e;exact ⟨by omega,by omega⟩),by rw [List.length_append,h.rn];rfl,h.lt,h.hM,Nat.le_trans h.rm (Nat.le_trans hg7.size gc.size)⟩⟩
 ·simp [World.cell?,hb7]
 ·simp [World.frozen?,hb7]
theorem of_table_any (K:List ByteArray) (d:Nat) (IH:OfC K d) (q:Loc) (w:World) (hg:Gd (d+1) q.v) (hki:KIn K (d+1) q.v) (hq:VAt w (fun _=>True) q) (hT:Tabs w) (h6:q.v.k=6):Calls Tryz.prog 95 #[q.val] w (OfPost K (d+1) q.v w):=by
 have hIH:=hid IH
 have HK:=hid h6
 clear h6 IH
 have hom:=OM.start w #[.int .i64 q.v.k,.int .i64 q.v.n,.int .u64 q.v.f,.string q.v.s,.slice q.ad q.v.l.length q.cap,.slice q.bd q.v.e.length q.dap]
 have hok:=hg.ok
 unfold Loc.val
 obtain ⟨nl,hnl⟩:∃ m,q.v.l.length=m:=⟨_,rfl⟩
 obtain ⟨ne,hne⟩:∃ m,q.v.e.length=m:=⟨_,rfl⟩
 rw [hnl,hne] at hom ⊢
 have HNL:=hid hnl
 have HNE:=hid hne
 have HQ:=hid hq
 have HT:=hid hT
 have HG:=hid hg
 have HKI:=hid hki
 have HOK:=hid hok
 clear hnl hne hq hT hg hki hok
 go_enter Tryz.func95,Tryz.ntmps95
 go_upto_region 1 with fail
 generalize World.alloc (World.alloc w _) _=w1 at hom ⊢
 have HO:=hid hom
 clear hom
 have hl200:=(ownV_zero HG.out.1).2.2.2.1
 rw [HNE.out] at hl200
 obtain ⟨qb,hqb⟩:∃ m,q.bd=m:=⟨_,rfl⟩
 rw [hqb] at HO
 have HQB:=hid hqb
 clear hqb
 obtain ⟨a0,a1,a2,a3,a4,a5,-⟩:=six_cells HO.out.bx
 rw [HK.out] at a0
 have hnb:=(Below.refl w1.heap.size w1).alloc (Nat.le_refl _) (.cells #[.int .i64 10,.int .i64 0,.int .i64 0,.slice none 0 0,.slice none 0 0,.slice none 0 0,.string ⟨#[]⟩] 27)
 have hnc:=heap_alloc_new w1 (.cells #[.int .i64 10,.int .i64 0,.int .i64 0,.slice none 0 0,.slice none 0 0,.slice none 0 0,.string ⟨#[]⟩] 27)
 have HS0:Hid (OTb w #[.int .i64 q.v.k,.int .i64 q.v.n,.int .u64 q.v.f,.string q.v.s,.slice q.ad nl q.cap,.slice qb ne q.dap] w1.heap.size w1.heap.size 0 none 0 [] (w1.alloc (.cells #[.int .i64 10,.int .i64 0,.int .i64 0,.slice none 0 0,.slice none 0 0,.slice none 0 0,.string ⟨#[]⟩] 27))):=hid ⟨HO.out.keep hnb,hnc,AccT.nil _ _ _ _ _,rfl,HO.out.vlt,Nat.le_refl _,by simp⟩
 clear hnb hnc
 go_upto_region 22 with fail
 generalize World.alloc w1 _=w2 at HS0 ⊢
 obtain ⟨tb,htb⟩:∃ tb,w1.heap.size=tb:=⟨_,rfl⟩
 rw [htb] at HS0 ⊢
 clear htb a0 a1 a2 a3 a4 a5 HO
 obtain ⟨M,hMM⟩:∃ M,M=tb:=⟨_,rfl⟩
 have HS1:Hid (OTb w #[.int .i64 q.v.k,.int .i64 q.v.n,.int .u64 q.v.f,.string q.v.s,.slice q.ad nl q.cap,.slice qb ne q.dap] tb M 0 none 0 [] w2):=hid (by rw [hMM];exact HS0.out)
 clear HS0 hMM
 obtain ⟨a0,a1,a2,a3,a4,a5,-⟩:=six_cells HS1.out.rb.bx
 go_wp2_with fail
 clear a0 a1 a2 a3 a4 a5
 go_loopw [66] (fun v66 wr=>∃ (j:Nat) (ps:List Ft) (bo:Option Addr) (cq:Nat),j<=ne/\v66=.int .i64 j/\Hid (OTb w #[.int .i64 q.v.k,.int .i64 q.v.n,.int .u64 q.v.f,.string q.v.s,.slice q.ad nl q.cap,.slice qb ne q.dap] tb M j bo cq ps wr)/\Hid (AllF (EntK K d) (q.v.e.take j) (ps.map Ft.fd))) (fun v66 _=>ne - (intOf v66).toNat)
 case atStart=>exact ⟨0,[],none,0,Nat.zero_le _,rfl,HS1,hid .nil⟩
 case round =>
  obtain ⟨j,ps,bo,cq,hj,rfl,HS,HF⟩:=hrel
  clear HS1
  by_cases hlt:j<ne
  ·obtain ⟨x0,hx0⟩:∃ f,q.v.e[j]?=some f:=⟨_,List.getElem?_eq_getElem (by rw [HNE.out];exact hlt)⟩
   obtain ⟨b1,o1,hd1,-,hbl1,hcs1⟩:=HQ.out.e.entry (by rw [HNE.out];omega)
   obtain rfl:qb=some ⟨b1,o1,none⟩:=by rw [<-HQB.out];exact hd1
   obtain ⟨hks,hkc,p1,hp1,hpa1,hpc1⟩:=hcs1 j x0 hx0
   have hg:=HS.out.rb.g
   have k1:wr.cell? ⟨b1,o1+j * 7,none⟩=some (.string x0.1):=(hg.cell (p:=⟨b1,_,none⟩) hbl1).trans hkc
   obtain ⟨d0,d1,d2,d3,d4,d5⟩:=(hpc1.through (hg.block _ hbl1)).seven
   have r1:(0:Int)<=(j:Int):=by omega
   have r2:(j:Int)<(ne:Int):=by omega
   have r4:(j:Int).toNat=j:=rfl
   have hba:=(Below.refl wr.heap.size wr).alloc (Nat.le_refl _) (.cells #[.string x0.1,.int .i64 p1.v.k,.int .i64 p1.v.n,.int .u64 p1.v.f,.string p1.v.s,.slice p1.ad p1.v.l.length p1.cap,.slice p1.bd p1.v.e.length p1.dap] 96)
   have hcb:=heap_alloc_new wr (.cells #[.string x0.1,.int .i64 p1.v.k,.int .i64 p1.v.n,.int .u64 p1.v.f,.string p1.v.s,.slice p1.ad p1.v.l.length p1.cap,.slice p1.bd p1.v.e.length p1.dap] 96)
   have HX0:Hid (OTb w #[.int .i64 q.v.k,.int .i64 q.v.n,.int .u64 q.v.f,.string q.v.s,.slice q.ad nl q.cap,.slice (some ⟨b1,o1,none⟩) ne q.dap] tb M j bo cq ps (wr.alloc (.cells #[.string x0.1,.int .i64 p1.v.k,.int .i64 p1.v.n,.int .u64 p1.v.f,.string p1.v.s,.slice p1.ad p1.v.l.length p1.cap,.slice p1.bd p1.v.e.length p1.dap] 96))):=hid (HS.out.keep hba)
   have hgx:Gd d p1.v:=by rw [hp1];exact HG.out.e x0 (List.mem_of_getElem? hx0)
   have hkx:KIn K d p1.v:=by rw [hp1];exact HKI.out.2 x0.2 (List.mem_append_right _ (List.mem_map_of_mem (List.mem_of_getElem? hx0)))
   have HOF:Hid (∀ W,OTb w #[.int .i64 q.v.k,.int .i64 q.v.n,.int .u64 q.v.f,.string q.v.s,.slice q.ad nl q.cap,.slice (some ⟨b1,o1,none⟩) ne q.dap] tb M j bo cq ps W->Calls Tryz.prog 95 #[.agg #[.int .i64 p1.v.k,.int .i64 p1.v.n,.int .u64 p1.v.f,.string p1.v.s,.slice p1.ad p1.v.l.length p1.cap,.slice p1.bd p1.v.e.length p1.dap]] W (OfPost K d p1.v W)):=hid (fun W hW=>hIH.out p1 W hgx hkx (hpa1.keep hW.rb.g) (HT.out.keep hW.rb.g))
   have HX1:=hid hx0
   have HP1:=hid hp1
   have HKS:=hid hks
   clear hcs1 hx0 hp1 hpa1 hpc1 hg hba hgx hkx hd1 hkc hks
   go_upto_region 25 with fail
   clear d0 d1 d2 d3 d4 d5 k1
   generalize World.alloc wr _=wx at HX0 hcb ⊢
   obtain ⟨xb,hxb⟩:∃ xb,wr.heap.size=xb:=⟨_,rfl⟩
   have hxtb:tb≠xb:=by have h1:=HS.out.rm;have h2:=HS.out.hM;omega
   have HXO:Hid (∀ b,(Value.slice bo j cq).ownBlock=some b->b<xb):=hid (fun b e=>by rw [<-hxb];exact (HS.out.ra.own.lt b e).2)
   rw [hxb] at hcb ⊢
   clear hxb
   have HXd:Hid (OTb w #[.int .i64 q.v.k,.int .i64 q.v.n,.int .u64 q.v.f,.string q.v.s,.slice q.ad nl q.cap,.slice (some ⟨b1,o1,none⟩) ne q.dap] tb M j bo cq ps wx.drew):=hid (HX0.out.keep (Gx.drewN_below wx 1 _))
   have hcd:wx.drew.heap[xb]?=some (.cells #[.string x0.1,.int .i64 p1.v.k,.int .i64 p1.v.n,.int .u64 p1.v.f,.string p1.v.s,.slice p1.ad p1.v.l.length p1.cap,.slice p1.bd p1.v.e.length p1.dap] 96):=hcb
   have HCB:=hid hcd
   unfold OfPost at HOF
   clear hcb hcd
   obtain ⟨e0,e1,e2,e3,e4,e5,e6⟩:=seven_cells HCB.out
   refine wp_region_held_drew (S:=fun w'=>World.cell? w' ⟨xb,0,none⟩=some (.string x0.1)/\World.cell? w' ⟨xb,1,none⟩=some (.int .i64 p1.v.k)/\World.cell? w' ⟨xb,2,none⟩=some (.int .i64 p1.v.n)/\World.cell? w' ⟨xb,3,none⟩=some (.int .u64 p1.v.f)/\World.cell? w' ⟨xb,4,none⟩=some (.string p1.v.s)/\World.cell? w' ⟨xb,5,none⟩=some (.slice p1.ad p1.v.l.length p1.cap)/\World.cell? w' ⟨xb,6,none⟩=some (.slice p1.bd p1.v.e.length p1.dap)) (by kernel_rfl) ⟨e0,e1,e2,e3,e4,e5,e6⟩ (fun hHeld=>?_)
   generalize World.drew wx=wd at HXd HCB hHeld ⊢
   clear e0 e1 e2 e3 e4 e5 e6 HX0
   refine wpAnyH_take (i:=0) (v:=.pointer (some ⟨tb,5,none⟩)) rfl (by kernel_rfl) (by kernel_rfl) (by kernel_rfl) (fun _ _ _ h=>h) (Or.inl ⟨by kernel_rfl,fun w' hSw=>?_⟩) (by assumption) ?_
   ·obtain ⟨s0,s1,s2,s3,s4,s5,s6⟩:=hSw;clear hHeld;go_simp;try rfl
   try simp only [Act.put,Go.setq]
   refine wpAnyH_take (i:=2) (v:=.pointer (some ⟨xb,0,none⟩)) rfl (by kernel_rfl) (by kernel_rfl) (by kernel_rfl) (fun _ _ _ h=>h) (Or.inl ⟨by kernel_rfl,fun w' hSw=>?_⟩) (by assumption) ?_
   ·obtain ⟨s0,s1,s2,s3,s4,s5,s6⟩:=hSw;clear hHeld;go_simp;try rfl
   try simp only [Act.put,Go.setq]
   refine wpAnyH_take (i:=3) (v:=.string x0.1) rfl (by kernel_rfl) (by kernel_rfl) (by kernel_rfl) (fun _ _ _ h=>h) (Or.inl ⟨by kernel_rfl,fun w' hSw=>?_⟩) (by assumption) ?_
   ·obtain ⟨s0,s1,s2,s3,s4,s5,s6⟩:=hSw;clear hHeld;go_simp;try rfl
   try simp only [Act.put,Go.setq]
   refine wpAnyH_take (i:=4) (v:=.pointer (some ⟨xb,1,none⟩)) rfl (by kernel_rfl) (by kernel_rfl) (by kernel_rfl) (fun _ _ _ h=>h) (Or.inl ⟨by kernel_rfl,fun w' hSw=>?_⟩) (by assumption) ?_
   ·obtain ⟨s0,s1,s2,s3,s4,s5,s6⟩:=hSw;clear hHeld;go_simp;try rfl
   try simp only [Act.put,Go.setq]
   refine wpAnyH_take (i:=5) (v:=.agg #[.int .i64 p1.v.k,.int .i64 p1.v.n,.int .u64 p1.v.f,.string p1.v.s,.slice p1.ad p1.v.l.length p1.cap,.slice p1.bd p1.v.e.length p1.dap]) rfl (by kernel_rfl) (by kernel_rfl) (by kernel_rfl) (fun _ _ _ h=>h) (Or.inl ⟨by kernel_rfl,fun w' hSw=>?_⟩) (by assumption) ?_
   ·obtain ⟨s0,s1,s2,s3,s4,s5,s6⟩:=hSw;clear hHeld;go_simp;try rfl
   try simp only [Act.put,Go.setq]
   refine wpAnyH_ready (rs:=[1,6]) (by kernel_rfl) (by simp) ?_
   refine AllReadyH.cons rfl (fun KK hK=>?_) (AllReadyH.cons rfl (fun KK hK=>?_) AllReadyH.nil)
   ·skip
    obtain ⟨m0,m1,m2,m3,m4,m5,m6,-⟩:=ty_cells HXd.out.bt
    go_simp
    clear m0 m1 m2 m3 m4 m5 m6
    refine hK.out _ _ (by obtain ⟨s0,s1,s2,s3,s4,s5,s6⟩:=seven_cells HCB.out;exact ⟨s0,s1,s2,s3,s4,s5,s6⟩) (fun hHeld=>?_)
    clear hK KK
    try simp only [Act.put,Go.setq]
    refine wpAnyH_ready (rs:=[6]) (by kernel_rfl) (by simp) ?_
    refine AllReadyH.cons rfl (fun KK hK=>?_) AllReadyH.nil
    go_simp
    (with_reducible refine (HOF.out _ HXd.out).mono ?_)
    rintro e wb ⟨y,rfl,hyk,hya,hyb⟩
    have HXb:=hid (HXd.out.keep hyb)
    have HYK:=hid hyk
    have HYA:=hid hya
    have HCb:=hid ((hyb.block _ (Array.getElem?_eq_some_iff.1 HCB.out).1).trans HCB.out)
    clear hyk hya hyb
    try simp only [Lt.val]
    refine hK.out _ _ (by obtain ⟨s0,s1,s2,s3,s4,s5,s6⟩:=seven_cells HCb.out;exact ⟨s0,s1,s2,s3,s4,s5,s6⟩) (fun hHeld=>?_)
    clear hK KK
    try simp only [Act.put,Go.setq]
    refine wpAnyH_take (i:=7) (v:=.agg #[.string x0.1,.bool false,.bool false,.int .i64 y.v.k,.int .i64 y.v.lo,.int .i64 y.v.hi,.slice y.xd y.v.x.length y.xc,.slice y.td y.v.t.length y.tc,.slice y.fd y.v.f.length y.fc,.string y.v.n,.int .i64 0,.int .i64 0,.int .u64 0,.string ⟨#[]⟩,.slice none 0 0,.slice none 0 0]) rfl (by kernel_rfl) (by kernel_rfl) (by kernel_rfl) (fun _ _ _ h=>h) (Or.inl ⟨by kernel_rfl,fun w' hSw=>?_⟩) (by assumption) ?_
    ·clear hHeld hSw;go_simp;try rfl
    try simp only [Act.put,Go.setq]
    refine wpAnyH_ready (rs:=[8]) (by kernel_rfl) (by simp) ?_
    refine AllReadyH.cons rfl (fun KK hK=>?_) AllReadyH.nil
    have HCc:=hid ((Below.heap_alloc wb (.cells #[.string x0.1,.bool false,.bool false,.int .i64 y.v.k,.int .i64 y.v.lo,.int .i64 y.v.hi,.slice y.xd y.v.x.length y.xc,.slice y.td y.v.t.length y.tc,.slice y.fd y.v.f.length y.fc,.string y.v.n,.int .i64 0,.int .i64 0,.int .u64 0,.string ⟨#[]⟩,.slice none 0 0,.slice none 0 0] 65) xb (Array.getElem?_eq_some_iff.1 HCb.out).1).trans HCb.out)
    go_simp
    refine hK.out _ _ (by obtain ⟨s0,s1,s2,s3,s4,s5,s6⟩:=seven_cells HCc.out;exact ⟨s0,s1,s2,s3,s4,s5,s6⟩) (fun hHeld=>?_)
    clear hK KK
    try simp only [Act.put,Go.setq]
    obtain ⟨ao,c7,w7,hrun,k5,f5,hg7,hot⟩:=HXb.out.more (by omega) x0.1 HKS.out y wd.heap.size HXd.out.rm (fun b e=>(HXd.out.ra.own.lt b e).2) HYA.out
    have HRUN:=hid hrun
    have HOT:=hid hot
    have HC7:=hid ((hg7.block xb (Array.getElem?_eq_some_iff.1 HCb.out).1 (fun e=>by have:=HXO.out xb e.symm;omega)).trans HCb.out)
    clear hrun hot hg7
    refine wpAnyH_ready (rs:=[9]) (by kernel_rfl) (by simp) ?_
    refine AllReadyH.cons rfl (fun KK hK=>?_) AllReadyH.nil
    refine step_append_eq rfl (.tmp 71) (.tmp 78) 25 25 rfl (.slice bo j cq) (.slice (some ⟨wb.heap.size,0,none⟩) 1 1) rfl rfl HRUN.out ?_
    refine hK.out _ _ (by obtain ⟨s0,s1,s2,s3,s4,s5,s6⟩:=seven_cells HC7.out;exact ⟨s0,s1,s2,s3,s4,s5,s6⟩) (fun hHeld=>?_)
    clear hK KK
    try simp only [Act.put,Go.setq]
    refine wpAnyH_take (i:=10) (v:=.pointer (some ⟨tb,5,none⟩)) rfl (by kernel_rfl) (by kernel_rfl) (by kernel_rfl) (fun _ _ _ h=>h) (Or.inl ⟨by kernel_rfl,fun w' hSw=>?_⟩) (by assumption) ?_
    ·clear hHeld hSw;go_simp;try rfl
    try simp only [Act.put,Go.setq]
    refine wpAnyH_ready (rs:=[11]) (by kernel_rfl) (by simp) ?_
    refine AllReadyH.cons rfl (fun KK hK=>?_) AllReadyH.nil
    go_simp
    have hx9:=((grown_cell w7 tb 5 (.slice ao (j+1) c7)).block xb (Array.getElem?_eq_some_iff.1 HC7.out).1 (fun e=>hxtb (Option.some.inj e).symm)).trans HC7.out
    refine hK.out _ _ (by obtain ⟨s0,s1,s2,s3,s4,s5,s6⟩:=seven_cells hx9;exact ⟨s0,s1,s2,s3,s4,s5,s6⟩) (fun hHeld2=>?_)
    clear hK KK
    try simp only [Act.put,Go.setq]
    refine wpAnyH_done (by kernel_rfl) ?_ _
    have HF9:Hid (AllF (EntK K d) (q.v.e.take (j+1)) ((ps++[fieldOf x0.1 y]).map Ft.fd)):=hid (by
     rw [take_snoc HX1.out,List.map_append]
     exact HF.out.snoc ⟨rfl,rfl,rfl,by rw [<-HP1.out];exact HYK.out⟩)
    clear hx9 hHeld2 HC7 HXb HYK HYA HRUN HXd HCB HCb HCc k5 f5
    go_wp2_with fail
    go_roundw
    case rel=>exact ⟨j+1,_,ao,c7,by omega,by go_num,HOT,HF9⟩
    case measure=>simp [intOf];omega
   ·skip
    go_simp
    (with_reducible refine (HOF.out _ HXd.out).mono ?_)
    rintro e wb ⟨y,rfl,hyk,hya,hyb⟩
    have HXb:=hid (HXd.out.keep hyb)
    have HYK:=hid hyk
    have HYA:=hid hya
    have HCb:=hid ((hyb.block _ (Array.getElem?_eq_some_iff.1 HCB.out).1).trans HCB.out)
    clear hyk hya hyb
    try simp only [Lt.val]
    refine hK.out _ _ (by obtain ⟨s0,s1,s2,s3,s4,s5,s6⟩:=seven_cells HCb.out;exact ⟨s0,s1,s2,s3,s4,s5,s6⟩) (fun hHeld=>?_)
    clear hK KK
    try simp only [Act.put,Go.setq]
    refine wpAnyH_take (i:=7) (v:=.agg #[.string x0.1,.bool false,.bool false,.int .i64 y.v.k,.int .i64 y.v.lo,.int .i64 y.v.hi,.slice y.xd y.v.x.length y.xc,.slice y.td y.v.t.length y.tc,.slice y.fd y.v.f.length y.fc,.string y.v.n,.int .i64 0,.int .i64 0,.int .u64 0,.string ⟨#[]⟩,.slice none 0 0,.slice none 0 0]) rfl (by kernel_rfl) (by kernel_rfl) (by kernel_rfl) (fun _ _ _ h=>h) (Or.inl ⟨by kernel_rfl,fun w' hSw=>?_⟩) (by assumption) ?_
    ·clear hHeld hSw;go_simp;try rfl
    try simp only [Act.put,Go.setq]
    refine wpAnyH_ready (rs:=[1,8]) (by kernel_rfl) (by simp) ?_
    refine AllReadyH.cons rfl (fun KK hK=>?_) (AllReadyH.cons rfl (fun KK hK=>?_) AllReadyH.nil)
    ·skip
     obtain ⟨m0,m1,m2,m3,m4,m5,m6,-⟩:=ty_cells HXb.out.bt
     go_simp
     clear m0 m1 m2 m3 m4 m5 m6
     refine hK.out _ _ (by obtain ⟨s0,s1,s2,s3,s4,s5,s6⟩:=seven_cells HCb.out;exact ⟨s0,s1,s2,s3,s4,s5,s6⟩) (fun hHeld=>?_)
     clear hK KK
     try simp only [Act.put,Go.setq]
     refine wpAnyH_ready (rs:=[8]) (by kernel_rfl) (by simp) ?_
     refine AllReadyH.cons rfl (fun KK hK=>?_) AllReadyH.nil
     have HCc:=hid ((Below.heap_alloc wb (.cells #[.string x0.1,.bool false,.bool false,.int .i64 y.v.k,.int .i64 y.v.lo,.int .i64 y.v.hi,.slice y.xd y.v.x.length y.xc,.slice y.td y.v.t.length y.tc,.slice y.fd y.v.f.length y.fc,.string y.v.n,.int .i64 0,.int .i64 0,.int .u64 0,.string ⟨#[]⟩,.slice none 0 0,.slice none 0 0] 65) xb (Array.getElem?_eq_some_iff.1 HCb.out).1).trans HCb.out)
     go_simp
     refine hK.out _ _ (by obtain ⟨s0,s1,s2,s3,s4,s5,s6⟩:=seven_cells HCc.out;exact ⟨s0,s1,s2,s3,s4,s5,s6⟩) (fun hHeld=>?_)
     clear hK KK
     try simp only [Act.put,Go.setq]
     obtain ⟨ao,c7,w7,hrun,k5,f5,hg7,hot⟩:=HXb.out.more (by omega) x0.1 HKS.out y wd.heap.size HXd.out.rm (fun b e=>(HXd.out.ra.own.lt b e).2) HYA.out
     have HRUN:=hid hrun
     have HOT:=hid hot
     have HC7:=hid ((hg7.block xb (Array.getElem?_eq_some_iff.1 HCb.out).1 (fun e=>by have:=HXO.out xb e.symm;omega)).trans HCb.out)
     clear hrun hot hg7
     refine wpAnyH_ready (rs:=[9]) (by kernel_rfl) (by simp) ?_
     refine AllReadyH.cons rfl (fun KK hK=>?_) AllReadyH.nil
     refine step_append_eq rfl (.tmp 71) (.tmp 78) 25 25 rfl (.slice bo j cq) (.slice (some ⟨wb.heap.size,0,none⟩) 1 1) rfl rfl HRUN.out ?_
     refine hK.out _ _ (by obtain ⟨s0,s1,s2,s3,s4,s5,s6⟩:=seven_cells HC7.out;exact ⟨s0,s1,s2,s3,s4,s5,s6⟩) (fun hHeld=>?_)
     clear hK KK
     try simp only [Act.put,Go.setq]
     refine wpAnyH_take (i:=10) (v:=.pointer (some ⟨tb,5,none⟩)) rfl (by kernel_rfl) (by kernel_rfl) (by kernel_rfl) (fun _ _ _ h=>h) (Or.inl ⟨by kernel_rfl,fun w' hSw=>?_⟩) (by assumption) ?_
     ·clear hHeld hSw;go_simp;try rfl
     try simp only [Act.put,Go.setq]
     refine wpAnyH_ready (rs:=[11]) (by kernel_rfl) (by simp) ?_
     refine AllReadyH.cons rfl (fun KK hK=>?_) AllReadyH.nil
     go_simp
     have hx9:=((grown_cell w7 tb 5 (.slice ao (j+1) c7)).block xb (Array.getElem?_eq_some_iff.1 HC7.out).1 (fun e=>hxtb (Option.some.inj e).symm)).trans HC7.out
     refine hK.out _ _ (by obtain ⟨s0,s1,s2,s3,s4,s5,s6⟩:=seven_cells hx9;exact ⟨s0,s1,s2,s3,s4,s5,s6⟩) (fun hHeld2=>?_)
     clear hK KK
     try simp only [Act.put,Go.setq]
     refine wpAnyH_done (by kernel_rfl) ?_ _
     have HF9:Hid (AllF (EntK K d) (q.v.e.take (j+1)) ((ps++[fieldOf x0.1 y]).map Ft.fd)):=hid (by
      rw [take_snoc HX1.out,List.map_append]
      exact HF.out.snoc ⟨rfl,rfl,rfl,by rw [<-HP1.out];exact HYK.out⟩)
     clear hx9 hHeld2 HC7 HXb HYK HYA HRUN HXd HCB HCb HCc k5 f5
     go_wp2_with fail
     go_roundw
     case rel=>exact ⟨j+1,_,ao,c7,by omega,by go_num,HOT,HF9⟩
     case measure=>simp [intOf];omega
    ·skip
     have HCc:=hid ((Below.heap_alloc wb (.cells #[.string x0.1,.bool false,.bool false,.int .i64 y.v.k,.int .i64 y.v.lo,.int .i64 y.v.hi,.slice y.xd y.v.x.length y.xc,.slice y.td y.v.t.length y.tc,.slice y.fd y.v.f.length y.fc,.string y.v.n,.int .i64 0,.int .i64 0,.int .u64 0,.string ⟨#[]⟩,.slice none 0 0,.slice none 0 0] 65) xb (Array.getElem?_eq_some_iff.1 HCb.out).1).trans HCb.out)
     go_simp
     refine hK.out _ _ (by obtain ⟨s0,s1,s2,s3,s4,s5,s6⟩:=seven_cells HCc.out;exact ⟨s0,s1,s2,s3,s4,s5,s6⟩) (fun hHeld=>?_)
     clear hK KK
     try simp only [Act.put,Go.setq]
     refine wpAnyH_ready (rs:=[1]) (by kernel_rfl) (by simp) ?_
     refine AllReadyH.cons rfl (fun KK hK=>?_) AllReadyH.nil
     have htb:=(Below.heap_alloc wb (.cells #[.string x0.1,.bool false,.bool false,.int .i64 y.v.k,.int .i64 y.v.lo,.int .i64 y.v.hi,.slice y.xd y.v.x.length y.xc,.slice y.td y.v.t.length y.tc,.slice y.fd y.v.f.length y.fc,.string y.v.n,.int .i64 0,.int .i64 0,.int .u64 0,.string ⟨#[]⟩,.slice none 0 0,.slice none 0 0] 65) tb (Array.getElem?_eq_some_iff.1 HXb.out.bt).1).trans HXb.out.bt
     obtain ⟨m0,m1,m2,m3,m4,m5,m6,-⟩:=ty_cells htb
     go_simp
     clear m0 m1 m2 m3 m4 m5 m6 htb
     refine hK.out _ _ (by obtain ⟨s0,s1,s2,s3,s4,s5,s6⟩:=seven_cells HCc.out;exact ⟨s0,s1,s2,s3,s4,s5,s6⟩) (fun hHeld=>?_)
     clear hK KK
     try simp only [Act.put,Go.setq]
     obtain ⟨ao,c7,w7,hrun,k5,f5,hg7,hot⟩:=HXb.out.more (by omega) x0.1 HKS.out y wd.heap.size HXd.out.rm (fun b e=>(HXd.out.ra.own.lt b e).2) HYA.out
     have HRUN:=hid hrun
     have HOT:=hid hot
     have HC7:=hid ((hg7.block xb (Array.getElem?_eq_some_iff.1 HCb.out).1 (fun e=>by have:=HXO.out xb e.symm;omega)).trans HCb.out)
     clear hrun hot hg7
     refine wpAnyH_ready (rs:=[9]) (by kernel_rfl) (by simp) ?_
     refine AllReadyH.cons rfl (fun KK hK=>?_) AllReadyH.nil
     refine step_append_eq rfl (.tmp 71) (.tmp 78) 25 25 rfl (.slice bo j cq) (.slice (some ⟨wb.heap.size,0,none⟩) 1 1) rfl rfl HRUN.out ?_
     refine hK.out _ _ (by obtain ⟨s0,s1,s2,s3,s4,s5,s6⟩:=seven_cells HC7.out;exact ⟨s0,s1,s2,s3,s4,s5,s6⟩) (fun hHeld=>?_)
     clear hK KK
     try simp only [Act.put,Go.setq]
     refine wpAnyH_take (i:=10) (v:=.pointer (some ⟨tb,5,none⟩)) rfl (by kernel_rfl) (by kernel_rfl) (by kernel_rfl) (fun _ _ _ h=>h) (Or.inl ⟨by kernel_rfl,fun w' hSw=>?_⟩) (by assumption) ?_
     ·clear hHeld hSw;go_simp;try rfl
     try simp only [Act.put,Go.setq]
     refine wpAnyH_ready (rs:=[11]) (by kernel_rfl) (by simp) ?_
     refine AllReadyH.cons rfl (fun KK hK=>?_) AllReadyH.nil
     go_simp
     have hx9:=((grown_cell w7 tb 5 (.slice ao (j+1) c7)).block xb (Array.getElem?_eq_some_iff.1 HC7.out).1 (fun e=>hxtb (Option.some.inj e).symm)).trans HC7.out
     refine hK.out _ _ (by obtain ⟨s0,s1,s2,s3,s4,s5,s6⟩:=seven_cells hx9;exact ⟨s0,s1,s2,s3,s4,s5,s6⟩) (fun hHeld2=>?_)
     clear hK KK
     try simp only [Act.put,Go.setq]
     refine wpAnyH_done (by kernel_rfl) ?_ _
     have HF9:Hid (AllF (EntK K d) (q.v.e.take (j+1)) ((ps++[fieldOf x0.1 y]).map Ft.fd)):=hid (by
      rw [take_snoc HX1.out,List.map_append]
      exact HF.out.snoc ⟨rfl,rfl,rfl,by rw [<-HP1.out];exact HYK.out⟩)
     clear hx9 hHeld2 HC7 HXb HYK HYA HRUN HXd HCB HCb HCc k5 f5
     go_wp2_with fail
     go_roundw
     case rel=>exact ⟨j+1,_,ao,c7,by omega,by go_num,HOT,HF9⟩
     case measure=>simp [intOf];omega
  ·obtain rfl:j=ne:=by omega
   obtain ⟨m0,m1,m2,m3,m4,m5,m6,-⟩:=ty_cells HS.out.bt
   have HO:=hid HS.out.rb
   have hrow:=HS.out.ra.row2 (C:=fun b=>w.heap.size+1<b) (xs:=ps.map Ft.fd) (by rw [HS.out.rn];omega) rfl (fun b hl hb=>by have h1:=HS.out.hM;have h2:=HS.out.lt;have h3:M<b:=hb;omega) (fun b e=>by have h1:=HS.out.hM;have h2:=HS.out.lt;have:=(HS.out.ra.own.lt b e).1;omega)
   have HROW:=hid hrow
   have HLN:Hid ((ps.map Ft.fd).length=j):=hid (by rw [List.length_map,HS.out.rn])
   have HAF:Hid (AllF (EntK K d) q.v.e (ps.map Ft.fd)):=hid (by
    have h:=HF.out
    rw [<-HNE.out,List.take_length] at h
    exact h)
   clear hrow HS HF
   go_upto_region 27 with fail
   obtain ⟨p0,p1,p2,p3,p4,p5,p6,pf⟩:=ty_cells HO.out.res
   have pf0:=pf 0
   have pf1:=pf 1
   have pf2:=pf 2
   have pf3:=pf 3
   have pf4:=pf 4
   have pf5:=pf 5
   have pf6:=pf 6
   obtain ⟨W9,hW9,hr9,hg9⟩:=seven_all HO.out.res (.int .i64 10) (.int .i64 0) (.int .i64 0) (.slice none 0 0) (.slice none 0 0) (.slice bo j cq) (.string ⟨#[]⟩)
   obtain ⟨q0,q1,q2,q3,q4,q5,q6,-⟩:=ty_cells hr9
   have HW9:=hid hW9
   have HPOST:Hid (OfPost K (d+1) q.v w (.returned (.agg #[.int .i64 10,.int .i64 0,.int .i64 0,.slice none 0 0,.slice none 0 0,.slice bo j cq,.string ⟨#[]⟩])) W9):=hid (by
    refine ⟨⟨.mk 10 0 0 [] [] (ps.map Ft.fd) ⟨#[]⟩,none,0,none,0,bo,cq⟩,?_,ofK_table rfl HK.out rfl (gd_rise HG.out) HKI.out.1 HAF.out,⟨wfT 10 0 0 (by decide) (by decide) (by decide) (by decide) (by decide) (by decide) _ _ _,.nil _ _,.nil _ _ _,?_⟩,HO.out.g.grown hg9 (by have:=HO.out.vlt;omega) (fun b e=>by have:=Option.some.inj e;omega)⟩
    ·unfold Lt.val
     rw [show (Ty.mk 10 0 0 [] [] (ps.map Ft.fd) ⟨#[]⟩).f.length=j from HLN.out]
     rfl
    ·show TRow W9 _ true (ps.map Ft.fd) (.slice bo (ps.map Ft.fd).length cq)
     rw [HLN.out]
     exact (HROW.out.grow hg9 (fun b e hb=>by have:=Option.some.inj e;omega)).weak (fun b hb _=>by omega))
   clear hW9 hr9 hg9 pf
   go_wp2_with fail
   rw [<-HW9.out]
   exact bodyPost_ret (v:=.agg #[.int .i64 10,.int .i64 0,.int .i64 0,.slice none 0 0,.slice none 0 0,.slice bo j cq,.string ⟨#[]⟩]) (by simp [results,Tryz.results95,go_sem,q0,q1,q2,q3,q4,q5,q6]) rfl HPOST.out
end Go.Proofs.YtgnonbdkmmkdgaaGreatDoor
