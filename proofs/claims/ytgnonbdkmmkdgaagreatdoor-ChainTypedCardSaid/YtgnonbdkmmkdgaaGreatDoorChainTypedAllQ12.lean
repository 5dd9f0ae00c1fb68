/-
  Lemmas for the statement: plain laws, and what functions answer; the conditions stand in each.
-/
import Derived.Test.YtgnonbdkmmkdgaaGreatDoorChainTypedAllQ10
set_option linter.unusedVariables false
set_option linter.unusedSimpArgs false
set_option maxHeartbeats 16000000
set_option maxRecDepth 100000
open Go.Lib (hid)
namespace Go.Proofs.YtgnonbdkmmkdgaaGreatDoor
open Go.RowKit Gx
theorem flat_lenT (ps:List Ft):(ps.flatMap (cellsF false)).length=ps.length * 7:=by
 induction ps with
 | nil=>rfl
 | cons p ps ih=>rw [List.flatMap_cons,List.length_append,ih,cellsF_len,List.length_cons];simp [sw];omega
theorem TRow.fts {w:World} {B:Nat->Prop} {l:List Ty} {ad:Option Addr} {n cap:Nat} (h:TRow w B false (tf l) (.slice ad n cap)):∃ ps:List Ft,ps.map Ft.fd=tf l/\(∀ p∈ps,TyAt w B p.t/\VAt w B p.d/\p.n.size<=140737488351232) /\
 ∀ a,ad=some a->∀ j u,(ps.flatMap (cellsF false))[j]?=some u->w.cell? (a.add j)=some u:=by
 by_cases hl:l=[]
 ·subst hl;exact ⟨[],rfl,fun p hp=>absurd hp List.not_mem_nil,fun a _ j u hj=>by simp at hj⟩
 obtain ⟨b,off,hd,-,-,hc⟩:=h.elem (List.length_pos_iff.2 hl)
 have hch:∀ i,∃ q:Lt,∀ x,l[i]?=some x->q.v=x/\TyAt w B q/\TcAt w b (off+i * 7) q:=fun i=>by
  cases hx:l[i]? with
  | none=>exact ⟨default,fun x h=>by cases h⟩
  | some x=>obtain ⟨q,h1,h2,h3⟩:=hc i x hx;exact ⟨q,fun y hy=>by cases hy;exact ⟨h1,h2,h3⟩⟩
 obtain ⟨Q,hQ⟩:∃ Q:Nat->Lt,∀ i x,l[i]?=some x->(Q i).v=x/\TyAt w B (Q i)/\TcAt w b (off+i * 7) (Q i):=⟨fun i=>Classical.choose (hch i),fun i=>Classical.choose_spec (hch i)⟩
 have hget:∀ i p,((List.range l.length).map fun i=>Ft.one (Q i))[i]?=some p->i<l.length/\p=Ft.one (Q i):=fun i p hp=>by
  rw [List.getElem?_map] at hp
  obtain ⟨j,hj,rfl⟩:=Option.map_eq_some_iff.1 hp
  obtain ⟨h1,h2⟩:=List.getElem?_eq_some_iff.1 hj
  rw [List.getElem_range] at h2
  subst h2
  exact ⟨by simpa using h1,rfl⟩
 refine ⟨(List.range l.length).map fun i=>Ft.one (Q i),?_,fun p hp=>?_,fun a ha j u hj=>?_⟩
 ·apply List.ext_getElem?
  intro i
  unfold tf
  rw [List.map_map,List.getElem?_map,List.getElem?_map]
  by_cases hi:i<l.length
  ·rw [List.getElem?_eq_getElem (by simpa using hi),List.getElem?_eq_getElem hi,List.getElem_range]
   have:=(hQ i _ (List.getElem?_eq_getElem hi)).1
   simp only [Option.map_some,Function.comp]
   unfold Ft.fd Ft.one
   simp only [this]
  ·rw [List.getElem?_eq_none (by simpa using hi),List.getElem?_eq_none (by omega)];rfl
 ·obtain ⟨i,hi⟩:=List.getElem?_of_mem hp
  obtain ⟨h1,rfl⟩:=hget i p hi
  exact ⟨(hQ i _ (List.getElem?_eq_getElem h1)).2.1,VAt.zero _ _ _ _ _ _,by show (0:Nat)<=140737488351232;omega⟩
 ·rw [hd] at ha
  cases ha
  have hlen:(((List.range l.length).map fun i=>Ft.one (Q i)).flatMap (cellsF false)).length=l.length * 7:=by
   rw [flat_lenT];simp
  have hjl:=(List.getElem?_eq_some_iff.1 hj).1
  rw [hlen] at hjl
  have h7:j=j / 7 * 7+j % 7:=by omega
  have hlt:j / 7<l.length:=by omega
  have hpi:((List.range l.length).map fun i=>Ft.one (Q i))[j / 7]?=some (Ft.one (Q (j / 7))):=by
   rw [List.getElem?_map,List.getElem?_eq_getElem (by simpa using hlt),List.getElem_range];rfl
  have hf:=flat_get (cellsF_len false) _ _ _ hpi (j % 7) (by show j % 7<7;omega)
  rw [show sw false=7 from rfl,<-h7,hj] at hf
  obtain ⟨a0,a1,a2,a3,a4,a5,a6⟩:=(hQ (j / 7) _ (List.getElem?_eq_getElem hlt)).2.2
  rw [Addr.add_lit]
  have hr:j % 7=0\/j % 7=1\/j % 7=2\/j % 7=3\/j % 7=4\/j % 7=5\/j % 7=6:=by omega
  have hoff:off+j=off+j / 7 * 7+j % 7:=by omega
  rw [hoff]
  rcases hr with hr|hr|hr|hr|hr|hr|hr<;>(rw [hr] at hf ⊢;cases hf;assumption)
theorem AccT.append1 {t:Bool} {e ti:TypeId} {z:Value} {bytes:Nat} (ht:Tryz.prog.underlying ti=some (.slice e)) (hinfo:(Tryz.prog.info? e).map (fun i=>(i.zero,i.size,i.bytes))=some (some z,sw t,bytes)) (hzs:z.cells.size=sw t)
 {w:World} {vb:Nat} {B:Nat->Prop} {v:Value} {ps:List Ft} (h:AccT w vb B t e v ps) (hb:vb+1<=w.heap.size) (p:Ft) (hp:TyAt w (fun b=>B b/\v.ownBlock≠some b) p.t) (hd:VAt w (fun b=>B b/\v.ownBlock≠some b) p.d) (hk:p.n.size<=140737488351232)
 (n:Nat) (hn:ps.length=n) (hl:(n+1) * bytes<=140737488351232) (h63:n<=10000000000000) :
 ∃ ao c w',(Builtin.append_ #[ti,ti] ti #[v,.slice (some ⟨w.heap.size,0,none⟩) 1 1]).run Tryz.prog (w.alloc (.cells (cellsF t p).toArray e))=.ok (.slice ao (n+1) c) w'/\AccT w' vb B t e (.slice ao (n+1) c) (ps++[p])/\w.grownBy w' v.ownBlock:=by
 subst hn
 obtain ⟨i0,hi,hz0,hz1,hz2⟩:=info_parts hinfo
 have hst:0<sw t:=by cases t<;>decide
 obtain ⟨v',w',hr,ho2,hg,hm,hnn⟩:=run_append_moved (P:=Tryz.prog) (w.alloc (.cells (cellsF t p).toArray e)) (vb+1) ti ti e i0 z (sw t) bytes ht hi hz0 hz1 hz2 hzs hst v ps.length (ps.flatMap (cellsF t))
  (h.own.alloc _) ⟨w.heap.size,0,none⟩ 1 1 (cellsF t p) (by rw [cellsF_len,Nat.one_mul])
  (fun j u hj=>by
    rw [Addr.add_lit]
    have:=World.cell?_alloc_mark w (cellsF t p).toArray e (0,0) (0+j)
    rw [this];simpa using hj)
  (cellsF_one t p) (Nat.le_trans hl (by decide)) (by unfold maxLen;omega) (by simp;omega)
 have hg':=grown_alloc' (.cells (cellsF t p).toArray e) hg
 have hm':Moved v v' w.heap.size:=by
  rcases hm with hm|⟨g,hm,hgl⟩
  ·exact .inl hm
  ·exact .inr ⟨g,hm,by simp at hgl;omega⟩
 have hacc:=h.push hp hd hk ho2 hg'.size (fun b _ hb hl=>hg'.block b hl (fun e=>hb e.symm)) hm'
 obtain ⟨ao,c,rfl⟩:=own_form ho2
 exact ⟨ao,c,w',hr,hacc,hg'⟩
def CloneT (l:List Ty) (vb:Nat) (B:Nat->Prop) (w:World) (e:Ending) (w':World):Prop:=∃ ao c ps,e=.returned (.slice ao l.length c)/\AccT w' vb B false 27 (.slice ao l.length c) ps/\ps.map Ft.fd=tf l/\Below w.heap.size w w'
theorem own_low {w:World} {a b:Nat} {e:TypeId} {k:Nat} {v:Value} {n:Nat} {xs:List Value} (h:w.ownsRow a e k v n xs) (hab:b<=a):w.ownsRow b e k v n xs:=by
 refine ⟨h.1,?_⟩
 rcases h.2 with h2|⟨g,cap,cur,h1,h2,h3⟩
 ·exact .inl h2
 ·exact .inr ⟨g,cap,cur,h1,Nat.le_trans hab h2,h3⟩
theorem cloneT_any (vb:Nat) (B:Nat->Prop) (ad:Option Addr) (cap:Nat) (l:List Ty) (w:World) (h:TRow w B false (tf l) (.slice ad l.length cap)) (hvb:vb+1<=w.heap.size) :
 Calls Tryz.prog 111 #[.slice ad l.length cap] w (CloneT l vb B w):=by
 have q22:∀ (w:World) (a:Option Addr) (n c n' c':Nat),(binOp .eql 24 (.slice a n c) (.slice none n' c')).run Tryz.prog w=.ok (.bool a.isNone) w:=fun w a n c n' c'=>Lib.run_eql_slice_nil w _ _ a n c n' c' Tryz.underlying24
 have hwide:=h.wide
 rw [tf_len] at hwide
 obtain ⟨ps,hps,hall,hcell⟩:=h.fts
 have hpl:ps.length=l.length:=by have:=congrArg List.length hps;rwa [List.length_map,tf_len] at this
 cases ad with
 | none =>
   have:l=[]:=by
    by_cases hl:l=[]
    ·exact hl
    ·obtain ⟨b,off,hd,-⟩:=h.elem (List.length_pos_iff.2 hl);cases hd
   subst this
   clear h hcell hall hps hpl hwide
   go_enter Tryz.func111,Tryz.ntmps111
   go_wp2_with fail
   try go_ret
   exact ⟨none,0,[],rfl,AccT.nil _ _ _ _ _,rfl,Below.refl _ _⟩
 | some a =>
   have hba:=(Below.refl w.heap.size w).alloc (Nat.le_refl _) (.cells #[] 27)
   have hca:∀ j u,(ps.flatMap (cellsF false))[j]?=some u->(w.alloc (.cells #[] 27)).cell? (a.add j)=some u:=fun j u hj=>by
    have h1:=hcell a rfl j u hj
    obtain ⟨ab,ao,asp⟩:=a
    exact (hba.cell (p:=(⟨ab,ao,asp⟩:Addr).add j) (World.block_lt_of_cell? w _ h1)).trans h1
   have HC:=hid hca
   have hlen:=flat_lenT ps
   rw [hpl] at hlen
   obtain ⟨n,hn⟩:∃ n,l.length=n:=⟨_,rfl⟩
   rw [hn] at hwide hlen ⊢
   have HN:=hid hn
   have HLE:=hid hlen
   have HALL:=hid hall
   have HPS:=hid hps
   have HPL:=hid hpl
   have hown:(w.alloc (.cells #[] 27)).ownsRow w.heap.size 27 7 (.slice (some ⟨w.heap.size,0,none⟩) 0 0) 0 [] :=
    ⟨rfl,.inr ⟨w.heap.size,0,#[],rfl,Nat.le_refl _,heap_alloc_new _ _,Nat.le_refl _,Nat.zero_le _,rfl,rfl⟩⟩
   have HO:=hid hown
   clear hown h hn hlen hca hcell hall hps hpl
   go_enter Tryz.func111,Tryz.ntmps111
   go_wp2_with (at_builtin;refine Gx.wpList_append_all (w.alloc (.cells #[] 27)) rfl (.tmp 5) (.tmp 6) 24 rfl w.heap.size 27 zeroTy 7 112 Tryz.underlying24 Tryz.info_ty rfl (by decide) (.slice (some ⟨w.heap.size,0,none⟩) 0 0) 0 [] (some a) n cap (ps.flatMap (cellsF false)) rfl rfl HO.out HLE.out (fun e=>by simp at e) (fun a' e j u hj=>by cases e;exact HC.out j u hj) (fun u hu=>by obtain ⟨p,-,hp⟩:=List.mem_flatMap.1 hu;exact cellsF_one false p u hp) (by omega) (by omega) (by rw [World.size_alloc];omega) ?_;intro v' w' hown' hg' _)
   obtain ⟨vo,vc,rfl⟩:=own_form hown'
   have HOW:=hid hown'
   have HG:=hid hg'
   clear hown' hg'
   go_wp2_with fail
   try go_ret
   have hbel:Below w.heap.size w w':=hba.grown HG.out (by rw [World.size_alloc];omega) (fun k e=>by have:k=w.heap.size:=(Option.some.inj e).symm;omega)
   have how:=HOW.out
   rw [Nat.zero_add,List.nil_append] at how
   have hlow:=how.lt
   refine ⟨vo,vc,ps,by rw [HN.out,Nat.zero_add];rfl,?_,HPS.out,hbel⟩
   rw [HN.out]
   have hB:∀ b,B b->b<w.heap.size->B b/\(Value.slice vo n vc).ownBlock≠some b:=fun b h1 h2=>⟨h1,fun e=>by have:=(hlow b e).1;omega⟩
   refine ⟨by rw [HPL.out,HN.out];exact own_low how hvb,fun p hp=>?_,fun p hp=>?_,fun p hp=>(HALL.out p hp).2.2⟩
   ·exact (HALL.out p hp).1.through hbel.size (fun b _ hl=>hbel.block b hl) hB
   ·exact (HALL.out p hp).2.1.through hbel.size (fun b _ hl=>hbel.block b hl) hB
def InsideT (l:List Ty) (C:Nat->Prop) (w:World) (e:Ending) (w':World):Prop:=∃ ao c,e=.returned (.slice ao l.length c)/\TRow w' C false (tf l) (.slice ao l.length c)/\Below w.heap.size w w'
theorem inside_any (q:Lt) (C:Nat->Prop) (w:World) (hq:TyAt w C q) (hC:∀ b,w.heap.size<=b->C b) (hor:q.v.t=[]\/q.v.f=[]) :
 Calls Tryz.prog 89 #[q.val] w (InsideT (kidsT q.v) C w):=by
 have hb:=(Below.refl w.heap.size w).alloc (Nat.le_refl _) (.cells #[.int .i64 q.v.k,.int .i64 q.v.lo,.int .i64 q.v.hi,.slice q.xd q.v.x.length q.xc,.slice q.td q.v.t.length q.tc,.slice q.fd q.v.f.length q.fc,.string q.v.n] 27)
 have hc:=heap_alloc_new w (.cells #[.int .i64 q.v.k,.int .i64 q.v.lo,.int .i64 q.v.hi,.slice q.xd q.v.x.length q.xc,.slice q.td q.v.t.length q.tc,.slice q.fd q.v.f.length q.fc,.string q.v.n] 27)
 have hsz:(w.alloc (.cells #[.int .i64 q.v.k,.int .i64 q.v.lo,.int .i64 q.v.hi,.slice q.xd q.v.x.length q.xc,.slice q.td q.v.t.length q.tc,.slice q.fd q.v.f.length q.fc,.string q.v.n] 27)).heap.size=w.heap.size+1:=by simp
 have hq1:=hq.keep hb
 have hql:TyAt (w.alloc (.cells #[.int .i64 q.v.k,.int .i64 q.v.lo,.int .i64 q.v.hi,.slice q.xd q.v.x.length q.xc,.slice q.td q.v.t.length q.tc,.slice q.fd q.v.f.length q.fc,.string q.v.n] 27)) (fun b=>C b/\b<w.heap.size) q:=hq.through hb.size (fun b _ hl=>hb.block b hl) (fun b h1 h2=>⟨h1,h2⟩)
 have ht112:=hq.t.wide
 rw [tf_len] at ht112
 have hf112:=hq.f.wide
 have hsum:(q.v.t.length+q.v.f.length) * 112<=140737488351232:=by
  rcases hor with h|h
  ·rw [h];simpa using hf112
  ·rw [h];simpa using ht112
 have HCA:=hid hC
 unfold Lt.val
 clear hq hor ht112 hC
 obtain ⟨nt,hnt⟩:∃ nt,q.v.t.length=nt:=⟨_,rfl⟩
 obtain ⟨nf,hnf⟩:∃ nf,q.v.f.length=nf:=⟨_,rfl⟩
 have HNT:=hid hnt
 have HNF:=hid hnf
 rw [hnt,hnf] at hc hb hsz hq1 hql hsum
 rw [hnt,hnf]
 rw [hnf] at hf112
 generalize hfa:q.fd=fa at *
 have HFA:=hid hfa
 clear hnt hnf hfa
 go_enter Tryz.func89,Tryz.ntmps89
 go_upto_region 1 with fail
 generalize World.alloc w _=w1 at hc hb hsz hq1 hql ⊢
 generalize hvb:w.heap.size=vb at hc hsz hql ⊢
 have HVB:=hid hvb
 obtain ⟨c0,c1,c2,c3,c4,c5,c6,-⟩:=ty_cells hc
 have hcall:=cloneT_any vb (fun b=>C b/\b<vb) q.td q.tc q.v.t w1 hql.t (by omega)
 unfold CloneT at hcall
 rw [HNT.out] at hcall
 have HC1:=hid hcall
 have HCB:=hid hc
 have HB:=hid hb
 have HQ:=hid hql
 have HSZ:=hid hsz
 clear hcall hc hb hq1 hql hsz hvb
 go_wp2_with fail
 (with_reducible refine HC1.out.mono ?_)
 rintro e w2 ⟨ao,c,ps,rfl,hacc,hfd,hb2⟩
 obtain ⟨c0',c1',c2',c3',c4',c5',c6',-⟩:=ty_cells ((hb2.block _ (Array.getElem?_eq_some_iff.1 HCB.out).1).trans HCB.out)
 have HACC:=hid hacc
 have HFD:=hid hfd
 have HB2:=hid hb2
 clear hacc hfd hb2 HC1 c0 c1 c2 c3 c4 c5 c6
 go_wp2_with fail
 clear c0' c1' c2' c3' c4' c5' c6'
 go_loopw [3,12] (fun v3 v12 wr=>∃ (k:Nat) (ao:Option Addr) (c:Nat) (ps:List Ft),k<=nf/\v12=.int .i64 k/\v3=.slice ao (nt+k) c/\Hid (AccT wr vb (fun b=>C b/\b<vb) false 27 (.slice ao (nt+k) c) ps)/\Hid (ps.map Ft.fd=tf (q.v.t++(q.v.f.take k).map Fd.t))/\Hid (Below w1.heap.size w1 wr)) (fun _ v12 _=>nf - (intOf v12).toNat)
 case atStart=>exact ⟨0,ao,c,ps,Nat.zero_le _,rfl,rfl,HACC,hid (by simpa using HFD.out),HB2⟩
 case round =>
  obtain ⟨k,ao',c',ps',hkn,rfl,rfl,HA,HP,HBr⟩:=hrel
  by_cases hlt:k<nf
  ·obtain ⟨x,hx⟩:∃ x,q.v.f[k]?=some x:=⟨_,List.getElem?_eq_getElem (by rw [HNF.out];exact hlt)⟩
   obtain ⟨b1,o1,hd1,-,hbl1,hcs⟩:=HQ.out.f.fieldF (by rw [HNF.out];omega)
   rw [HFA.out] at hd1
   subst hd1
   obtain ⟨p,hp,hpt,-,-,hpc⟩:=hcs k x hx
   obtain ⟨d0,d1,d2,d3,d4,d5,d6,d7,d8,d9,d10,d11,d12,d13,d14,d15⟩:=hpc.through (w':=wr) (HBr.out.block _ hbl1)
   have hba:=(Below.refl wr.heap.size wr).alloc (Nat.le_refl _) (.cells #[.string p.n,.bool p.o,.bool p.h,.int .i64 p.t.v.k,.int .i64 p.t.v.lo,.int .i64 p.t.v.hi,.slice p.t.xd p.t.v.x.length p.t.xc,.slice p.t.td p.t.v.t.length p.t.tc,.slice p.t.fd p.t.v.f.length p.t.fc,.string p.t.v.n,.int .i64 p.d.v.k,.int .i64 p.d.v.n,.int .u64 p.d.v.f,.string p.d.v.s,.slice p.d.ad p.d.v.l.length p.d.cap,.slice p.d.bd p.d.v.e.length p.d.dap] 65)
   have hfb:=heap_alloc_new wr (.cells #[.string p.n,.bool p.o,.bool p.h,.int .i64 p.t.v.k,.int .i64 p.t.v.lo,.int .i64 p.t.v.hi,.slice p.t.xd p.t.v.x.length p.t.xc,.slice p.t.td p.t.v.t.length p.t.tc,.slice p.t.fd p.t.v.f.length p.t.fc,.string p.t.v.n,.int .i64 p.d.v.k,.int .i64 p.d.v.n,.int .u64 p.d.v.f,.string p.d.v.s,.slice p.d.ad p.d.v.l.length p.d.cap,.slice p.d.bd p.d.v.e.length p.d.dap] 65)
   have HBa:Hid (Below w1.heap.size w1 (wr.alloc (.cells #[.string p.n,.bool p.o,.bool p.h,.int .i64 p.t.v.k,.int .i64 p.t.v.lo,.int .i64 p.t.v.hi,.slice p.t.xd p.t.v.x.length p.t.xc,.slice p.t.td p.t.v.t.length p.t.tc,.slice p.t.fd p.t.v.f.length p.t.fc,.string p.t.v.n,.int .i64 p.d.v.k,.int .i64 p.d.v.n,.int .u64 p.d.v.f,.string p.d.v.s,.slice p.d.ad p.d.v.l.length p.d.cap,.slice p.d.bd p.d.v.e.length p.d.dap] 65))):=hid (HBr.out.trans (hba.mono HBr.out.size))
   have HAa:=hid (HA.out.keep hba)
   have r1:(0:Int)<=(k:Int):=by omega
   have r2:(k:Int)<(nf:Int):=by omega
   have HX:=hid hx
   have HPT:=hid hpt
   have hpx:p.t.v=x.t:=by rw [<-hp];rfl
   have HPX:=hid hpx
   clear hcs hx hp hpt hpc hba hpx HA HBr
   go_upto_region 5 with fail
   generalize World.alloc wr _=wx at hfb HBa HAa ⊢
   generalize hxbe:wr.heap.size=xb at hfb ⊢
   clear hxbe d0 d1 d2 d3 d4 d5 d6 d7 d8 d9 d10 d11 d12 d13 d14 d15
   obtain ⟨z0,z1,z2,z3,z4,z5,z6,z7,z8,z9,z10,z11,z12,z13,z14,z15⟩:=FcAt.box hfb
   have hlow:=HAa.out.own.lt
   have hpl:ps'.length=nt+k:=by
    have:=congrArg List.length HP.out
    rw [List.length_map,tf_len,List.length_append,List.length_map,List.length_take,HNT.out,HNF.out] at this
    omega
   obtain ⟨ao2,c2,w3,hrun,hacc3,hg3⟩:=AccT.append1 (ti:=24) Tryz.underlying24 Tryz.info_ty rfl HAa.out (by have:=HBa.out.size;have:=HSZ.out;omega) (Ft.one p.t)
    ((HPT.out.keep HBa.out).weak (fun b hb _=>⟨hb,fun e=>by have:=(hlow b e).1;have:=hb.2;omega⟩)) (VAt.zero _ _ _ _ _ _) (by show (0:Nat)<=140737488351232;omega) (nt+k) hpl (by omega) (by omega)
   have hb3:Below w1.heap.size w1 w3:=HBa.out.grown hg3 (by have:=HBa.out.size;omega) (fun b e=>by have:=(hlow b e).1;have:=HSZ.out;omega)
   have hfd3:(ps'++[Ft.one p.t]).map Ft.fd=tf (q.v.t++(q.v.f.take (k+1)).map Fd.t):=by
    rw [List.map_append,HP.out,take_snoc HX.out]
    unfold tf
    simp only [List.map_append,List.map_cons,List.map_nil,List.append_assoc]
    rw [<-HPX.out];rfl
   have HR:=hid hrun
   have HA3:=hid hacc3
   have HB3:=hid hb3
   have HF3:=hid hfd3
   clear hrun hacc3 hb3 hfd3 hg3 hlow hpl hfb HAa HBa HX HPT HPX HP
   go_wp2_with (at_builtin;refine wpl_append_eq rfl _ _ 24 24 rfl _ _ rfl rfl HR.out ?_)
   go_roundw
   case rel=>exact ⟨k+1,ao2,c2,ps'++[Ft.one p.t],by omega,by go_num,rfl,HA3,HF3,HB3⟩
   case measure=>simp [intOf];omega
  ·obtain rfl:k=nf:=by omega
   have hkl:(kidsT q.v).length=nt+k:=by unfold kidsT;rw [List.length_append,List.length_map,HNT.out,HNF.out]
   have hfull:ps'.map Ft.fd=tf (kidsT q.v):=by
    have:=HP.out
    rwa [List.take_of_length_le (by rw [HNF.out];exact Nat.le_refl _)] at this
   have hpl:ps'.length=nt+k:=by have:=congrArg List.length hfull;rwa [List.length_map,tf_len,hkl] at this
   have hR:InsideT (kidsT q.v) C w (.returned (.slice ao' (nt+k) c')) wr:=by
    refine ⟨ao',c',by rw [hkl],?_,HB.out.trans (HBr.out.mono HB.out.size)⟩
    rw [hkl]
    exact HA.out.row (by rw [hpl];exact hsum) hfull.symm (fun b _ h=>h.elim (fun h=>h.1) (fun h=>HCA.out b (by rw [HVB.out];omega)))
   have HR:=hid hR
   clear hkl hfull hpl hR HA HP HBr
   go_wp2_with fail
   try go_ret
   exact HR.out
end Go.Proofs.YtgnonbdkmmkdgaaGreatDoor
