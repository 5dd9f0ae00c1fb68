/-
  Lemmas for the statement: plain laws, and what functions answer; the conditions stand in each.
-/
import Derived.Test.YtgnonbdkmmkdgaaGreatDoorChainTypedAllQ12
import Derived.Test.YtgnonbdkmmkdgaaGreatDoorChainTypedAllQ18
set_option linter.unusedVariables false
set_option linter.unusedSimpArgs false
set_option maxHeartbeats 16000000
set_option maxRecDepth 100000
open Go.Lib (hid)
namespace Go.Proofs.YtgnonbdkmmkdgaaGreatDoor
open Go.RowKit Gx
theorem flat_lenF (ps:List Ft):(ps.flatMap (cellsF true)).length=ps.length * 16:=by
 induction ps with
 | nil=>rfl
 | cons p ps ih=>rw [List.flatMap_cons,List.length_append,ih,cellsF_len,List.length_cons];simp [sw];omega
theorem TRow.ftf {w:World} {B:Nat->Prop} {l:List (Fd Ty)} {ad:Option Addr} {n cap:Nat} (h:TRow w B true l (.slice ad n cap)):∃ ps:List Ft,ps.map Ft.fd=l/\(∀ p∈ps,TyAt w B p.t/\VAt w B p.d/\p.n.size<=140737488351232) /\
 ∀ a,ad=some a->∀ j u,(ps.flatMap (cellsF true))[j]?=some u->w.cell? (a.add j)=some u:=by
 by_cases hl:l=[]
 ·subst hl;exact ⟨[],rfl,fun p hp=>absurd hp List.not_mem_nil,fun a _ j u hj=>by simp at hj⟩
 obtain ⟨b,off,hd,-,-,hc⟩:=h.fieldF (List.length_pos_iff.2 hl)
 have hch:∀ i,∃ p:Ft,∀ x,l[i]?=some x->p.fd=x/\TyAt w B p.t/\VAt w B p.d/\p.n.size<=140737488351232/\FcAt w b (off+i * 16) p:=fun i=>by
  cases hx:l[i]? with
  | none=>exact ⟨default,fun x h=>by cases h⟩
  | some x=>obtain ⟨q,h1⟩:=hc i x hx;exact ⟨q,fun y hy=>by cases hy;exact h1⟩
 obtain ⟨Q,hQ⟩:∃ Q:Nat->Ft,∀ i x,l[i]?=some x->(Q i).fd=x/\TyAt w B (Q i).t/\VAt w B (Q i).d/\(Q i).n.size<=140737488351232/\FcAt w b (off+i * 16) (Q i):=⟨fun i=>Classical.choose (hch i),fun i=>Classical.choose_spec (hch i)⟩
 have hget:∀ i p,((List.range l.length).map Q)[i]?=some p->i<l.length/\p=Q i:=fun i p hp=>by
  rw [List.getElem?_map] at hp
  obtain ⟨j,hj,rfl⟩:=Option.map_eq_some_iff.1 hp
  obtain ⟨h1,h2⟩:=List.getElem?_eq_some_iff.1 hj
  rw [List.getElem_range] at h2
  subst h2
  exact ⟨by simpa using h1,rfl⟩
 refine ⟨(List.range l.length).map Q,?_,fun p hp=>?_,fun a ha j u hj=>?_⟩
 ·apply List.ext_getElem?
  intro i
  rw [List.map_map,List.getElem?_map]
  by_cases hi:i<l.length
  ·rw [List.getElem?_eq_getElem (by simpa using hi),List.getElem?_eq_getElem hi,List.getElem_range]
   have:=(hQ i _ (List.getElem?_eq_getElem hi)).1
   simp only [Option.map_some,Function.comp]
   rw [this]
  ·rw [List.getElem?_eq_none (by simpa using hi),List.getElem?_eq_none (by omega)];rfl
 ·obtain ⟨i,hi⟩:=List.getElem?_of_mem hp
  obtain ⟨h1,rfl⟩:=hget i p hi
  obtain ⟨-,h2,h3,h4,-⟩:=hQ i _ (List.getElem?_eq_getElem h1)
  exact ⟨h2,h3,h4⟩
 ·rw [hd] at ha
  cases ha
  have hlen:(((List.range l.length).map Q).flatMap (cellsF true)).length=l.length * 16:=by
   rw [flat_lenF];simp
  have hjl:=(List.getElem?_eq_some_iff.1 hj).1
  rw [hlen] at hjl
  have h7:j=j / 16 * 16+j % 16:=by omega
  have hlt:j / 16<l.length:=by omega
  have hpi:((List.range l.length).map Q)[j / 16]?=some (Q (j / 16)):=by
   rw [List.getElem?_map,List.getElem?_eq_getElem (by simpa using hlt),List.getElem_range];rfl
  have hf:=flat_get (cellsF_len true) _ _ _ hpi (j % 16) (by show j % 16<16;omega)
  rw [show sw true=16 from rfl,<-h7,hj] at hf
  obtain ⟨a0,a1,a2,a3,a4,a5,a6,a7,a8,a9,a10,a11,a12,a13,a14,a15⟩:=(hQ (j / 16) _ (List.getElem?_eq_getElem hlt)).2.2.2.2
  rw [Addr.add_lit]
  have hr:j % 16=0\/j % 16=1\/j % 16=2\/j % 16=3\/j % 16=4\/j % 16=5\/j % 16=6\/j % 16=7\/j % 16=8\/j % 16=9\/j % 16=10\/j % 16=11\/j % 16=12\/j % 16=13\/j % 16=14\/j % 16=15:=by omega
  have hoff:off+j=off+j / 16 * 16+j % 16:=by omega
  rw [hoff]
  rcases hr with hr|hr|hr|hr|hr|hr|hr|hr|hr|hr|hr|hr|hr|hr|hr|hr<;>(rw [hr] at hf ⊢;cases hf;assumption)
def CloneF (l:List (Fd Ty)) (vb:Nat) (B:Nat->Prop) (w:World) (e:Ending) (w':World):Prop:=∃ ao c ps,e=.returned (.slice ao l.length c)/\AccT w' vb B true 65 (.slice ao l.length c) ps/\ps.map Ft.fd=l/\Below w.heap.size w w'
theorem cloneF_any (vb:Nat) (B:Nat->Prop) (ad:Option Addr) (cap:Nat) (l:List (Fd Ty)) (w:World) (h:TRow w B true l (.slice ad l.length cap)) (h200:l.length<=201) (hvb:vb+1<=w.heap.size) :
 Calls Tryz.prog 96 #[.slice ad l.length cap] w (CloneF l vb B w):=by
 have q22:∀ (w:World) (a:Option Addr) (n c n' c':Nat),(binOp .eql 25 (.slice a n c) (.slice none n' c')).run Tryz.prog w=.ok (.bool a.isNone) w:=fun w a n c n' c'=>Lib.run_eql_slice_nil w _ _ a n c n' c' Tryz.underlying25
 have hwide:=h200
 obtain ⟨ps,hps,hall,hcell⟩:=h.ftf
 have hpl:ps.length=l.length:=by have:=congrArg List.length hps;rwa [List.length_map] at this
 cases ad with
 | none =>
   have:l=[]:=by
    by_cases hl:l=[]
    ·exact hl
    ·obtain ⟨b,off,hd,-⟩:=h.field (List.length_pos_iff.2 hl);cases hd
   subst this
   clear h hcell hall hps hpl hwide h200
   go_enter Tryz.func96,Tryz.ntmps96
   go_wp2_with fail
   try go_ret
   exact ⟨none,0,[],rfl,AccT.nil _ _ _ _ _,rfl,Below.refl _ _⟩
 | some a =>
   have hba:=(Below.refl w.heap.size w).alloc (Nat.le_refl _) (.cells #[] 65)
   have hca:∀ j u,(ps.flatMap (cellsF true))[j]?=some u->(w.alloc (.cells #[] 65)).cell? (a.add j)=some u:=fun j u hj=>by
    have h1:=hcell a rfl j u hj
    obtain ⟨ab,ao,asp⟩:=a
    exact (hba.cell (p:=(⟨ab,ao,asp⟩:Addr).add j) (World.block_lt_of_cell? w _ h1)).trans h1
   have HC:=hid hca
   have hlen:=flat_lenF ps
   rw [hpl] at hlen
   obtain ⟨n,hn⟩:∃ n,l.length=n:=⟨_,rfl⟩
   rw [hn] at hwide hlen ⊢
   have HN:=hid hn
   have HLE:=hid hlen
   have HALL:=hid hall
   have HPS:=hid hps
   have HPL:=hid hpl
   have hown:(w.alloc (.cells #[] 65)).ownsRow w.heap.size 65 16 (.slice (some ⟨w.heap.size,0,none⟩) 0 0) 0 [] :=
    ⟨rfl,.inr ⟨w.heap.size,0,#[],rfl,Nat.le_refl _,heap_alloc_new _ _,Nat.le_refl _,Nat.zero_le _,rfl,rfl⟩⟩
   have HO:=hid hown
   clear hown h h200 hn hlen hca hcell hall hps hpl
   go_enter Tryz.func96,Tryz.ntmps96
   go_wp2_with (at_builtin;refine Gx.wpList_append_all (w.alloc (.cells #[] 65)) rfl (.tmp 5) (.tmp 6) 25 rfl w.heap.size 65 zeroFd 16 224 Tryz.underlying25 Tryz.info_fd rfl (by decide) (.slice (some ⟨w.heap.size,0,none⟩) 0 0) 0 [] (some a) n cap (ps.flatMap (cellsF true)) rfl rfl HO.out HLE.out (fun e=>by simp at e) (fun a' e j u hj=>by cases e;exact HC.out j u hj) (fun u hu=>by obtain ⟨p,-,hp⟩:=List.mem_flatMap.1 hu;exact cellsF_one true p u hp) (by omega) (by omega) (by rw [World.size_alloc];omega) ?_;intro v' w' hown' hg' _)
   obtain ⟨vo,vc,rfl⟩:=own_form hown'
   have HOW:=hid hown'
   have HG:=hid hg'
   clear hown' hg'
   go_wp2_with fail
   try go_ret
   have hbel:Below w.heap.size w w':=hba.grown HG.out (by rw [World.size_alloc];omega) (fun k e=>by have:k=w.heap.size:=(Option.some.inj e).symm;omega)
   have how:=HOW.out
   rw [Nat.zero_add,List.nil_append] at how
   have hlow:=how.lt
   refine ⟨vo,vc,ps,by rw [HN.out,Nat.zero_add];rfl,?_,HPS.out,hbel⟩
   rw [HN.out]
   have hB:∀ b,B b->b<w.heap.size->B b/\(Value.slice vo n vc).ownBlock≠some b:=fun b h1 h2=>⟨h1,fun e=>by have:=(hlow b e).1;omega⟩
   refine ⟨by rw [HPL.out,HN.out];exact own_low how hvb,fun p hp=>?_,fun p hp=>?_,fun p hp=>(HALL.out p hp).2.2⟩
   ·exact (HALL.out p hp).1.through hbel.size (fun b _ hl=>hbel.block b hl) hB
   ·exact (HALL.out p hp).2.1.through hbel.size (fun b _ hl=>hbel.block b hl) hB
def Dj (w:World) (C:Nat->Prop):Nat->Prop:=fun b=>C b/\(b<w.heap.size\/w.heap.size+2<b)
structure JM (w:World) (X Y:Array Value) (C:Nat->Prop) (M n:Nat) (vo:Option Addr) (cq:Nat) (ps:List Ft) (l bs:List Ty) (bd:Option Addr) (bc:Nat) (W:World):Prop where
 rn:ps.length=n
 rb:BS w X Y W
 ra:AccT W M (Dj w C) false 27 (.slice vo n cq) ps
 rl:ps.map Ft.fd=tf l
 rp:TRow W (fun b=>Dj w C b/\(Value.slice vo n cq).ownBlock≠some b) false (tf bs) (.slice bd bs.length bc)
 rm:M+1<=W.heap.size
 hM:w.heap.size+2<=M
namespace JM
variable {w W W':World} {X Y:Array Value} {C:Nat->Prop} {M n cq bc:Nat} {vo bd:Option Addr} {ps:List Ft} {l bs:List Ty}
theorem keep (h:JM w X Y C M n vo cq ps l bs bd bc W) (hb:Below W.heap.size W W'):JM w X Y C M n vo cq ps l bs bd bc W' :=
 ⟨h.rn,h.rb.keep hb,h.ra.keep hb,h.rl,h.rp.keep' hb,Nat.le_trans h.rm hb.size,h.hM⟩
theorem ln (h:JM w X Y C M n vo cq ps l bs bd bc W):l.length=n:=by
 have:=congrArg List.length h.rl
 rw [List.length_map,tf_len,h.rn] at this
 exact this.symm
theorem row (h:JM w X Y C M n vo cq ps l bs bd bc W) (hn:n<=100):TRow W (fun _=>True) false (tf l) (.slice vo n cq):=by
 have:=h.ra.row2 (C:=fun _=>True) (xs:=tf l) (by rw [h.rn];omega) h.rl.symm (fun _ _ _=>trivial) (fun _ _=>trivial)
 exact this
theorem more (h:JM w X Y C M n vo cq ps l bs bd bc W) (hn:n<=100) {q:Lt} (hq:TyAt W (fun b=>Dj w C b/\(Value.slice vo n cq).ownBlock≠some b) q) (hC:∀ b,w.heap.size<=b->C b) :
 ∃ ao c7 w7,(Builtin.append_ #[24,24] 24 #[.slice vo n cq,.slice (some ⟨W.heap.size,0,none⟩) 1 1]).run Tryz.prog (W.alloc (.cells #[.int .i64 q.v.k,.int .i64 q.v.lo,.int .i64 q.v.hi,.slice q.xd q.v.x.length q.xc,.slice q.td q.v.t.length q.tc,.slice q.fd q.v.f.length q.fc,.string q.v.n] 27))=.ok (.slice ao (n+1) c7) w7 /\
  JM w X Y C M (n+1) ao c7 (ps++[Ft.one q]) (l++[q.v]) bs bd bc w7:=by
 have hlow:=h.ra.own.lt
 obtain ⟨ao,c7,w7,hrun,ha7,hg7,hm7⟩:=AccT.append1m (ti:=24) Tryz.underlying24 Tryz.info_ty rfl h.ra h.rm (Ft.one q) hq (VAt.zero _ _ _ _ _ _) (by show (0:Nat)<=_;decide) n h.rn (by omega) (by omega)
 refine ⟨ao,c7,w7,hrun,by rw [List.length_append,h.rn];rfl,h.rb.grow hg7 (fun b e=>by have:=(hlow b e).1;have:=h.hM;omega),ha7,by rw [List.map_append,h.rl];unfold tf;rw [List.map_append];rfl,?_,Nat.le_trans h.rm hg7.size,h.hM⟩
 refine h.rp.through hg7.size (fun b hb hl=>hg7.block b hl (fun e=>hb.2 e.symm)) (fun b hb hl=>⟨hb.1,fun e=>?_⟩)
 rcases hm7 with hm|⟨g,hm,hgl⟩
 ·rw [hm] at e;exact hb.2 e
 ·rw [hm] at e
  have:=Option.some.inj e
  omega
theorem both {g:Nat} (h:JM w X Y C M n (some ⟨g,0,none⟩) cq ps l bs bd bc W) (hn:n<=100) {i:Nat} {x:Ty} (hi:l[i]?=some x) {q:Lt} (hq:TyAt W (fun b=>Dj w C b/\b≠g) q) (o:Nat) (ho:o=i * 7) :
 ∃ W',W'=((((((W.setCell ⟨g,o,none⟩ (.int .i64 q.v.k)).setCell ⟨g,o+1,none⟩ (.int .i64 q.v.lo)).setCell ⟨g,o+2,none⟩ (.int .i64 q.v.hi)).setCell ⟨g,o+3,none⟩ (.slice q.xd q.v.x.length q.xc)).setCell ⟨g,o+4,none⟩ (.slice q.td q.v.t.length q.tc)).setCell ⟨g,o+5,none⟩ (.slice q.fd q.v.f.length q.fc)).setCell ⟨g,o+6,none⟩ (.string q.v.n) /\
  ∃ ps',JM w X Y C M n (some ⟨g,0,none⟩) cq ps' (l.set i q.v) bs bd bc W':=by
 have hlow:=(h.ra.own.lt g rfl).1
 obtain ⟨hbare,hpl⟩:=bare_of h.rl
 have hil:=(List.getElem?_eq_some_iff.1 hi).1
 obtain ⟨p,hp⟩:∃ p,ps[i]?=some p:=⟨_,List.getElem?_eq_getElem (by rw [h.rn,<-h.ln];exact hil)⟩
 obtain ⟨W',hW,ha,hg⟩:=row_set7 h.ra h.rn i p hp q hq o (by rw [ho];rfl)
 refine ⟨W',hW,ps.set i (p.setT q),by rw [List.length_set];exact h.rn,h.rb.grow hg (fun b e=>by have:=Option.some.inj e;have:=h.hM;omega),ha,?_,h.rp.grow hg (fun b e hb=>hb.2 (by rw [<-Option.some.inj e];rfl)),Nat.le_trans h.rm hg.size,h.hM⟩
 have hpf:=hbare p (List.mem_of_getElem? hp)
 rw [List.map_set,h.rl]
 unfold tf
 rw [List.map_set]
 congr 1
 have h1:(⟨p.n,p.o,p.h,p.t.v,p.d.v⟩:Fd Ty)=⟨⟨#[]⟩,false,false,p.t.v,.zero⟩:=hpf
 injection h1 with e1 e2 e3 e4 e5
 show (⟨p.n,p.o,p.h,q.v,p.d.v⟩:Fd Ty)=⟨⟨#[]⟩,false,false,q.v,.zero⟩
 rw [e1,e2,e3,e5]
end JM
end Go.Proofs.YtgnonbdkmmkdgaaGreatDoor
namespace Go.Proofs.YtgnonbdkmmkdgaaGreatDoor
open Go.RowKit Gx
theorem bs_type (W:World) (c0 c1 c2 c3 c4 c5 c6:Value):(Instr.buildSlice 24 1 #[(0,.agg #[c0,c1,c2,c3,c4,c5,c6])]).run Tryz.prog W=.ok (.slice (some ⟨W.heap.size,0,none⟩) 1 1) (W.alloc (.cells #[c0,c1,c2,c3,c4,c5,c6] 27)):=by
 unfold Instr.buildSlice
 go_simp
theorem load_ty (w:World) (g:Nat) (q:Lt) (h:TcAt w g 0 q):(Instr.loadAt 27 (.pointer (some ⟨g,0,none⟩))).run Tryz.prog w=.ok q.val w:=by
 obtain ⟨z0,z1,z2,z3,z4,z5,z6⟩:=h
 unfold Instr.loadAt Lt.val
 go_simp
theorem join_any (K:List ByteArray) (d:Nat) (HB:BothC K d):JoinC K d:=by
 intro jv x y C w hx hy hxa hya hC
 have hbs:=BS.start w #[.int .i64 x.v.k,.int .i64 x.v.lo,.int .i64 x.v.hi,.slice x.xd x.v.x.length x.xc,.slice x.td x.v.t.length x.tc,.slice x.fd x.v.f.length x.fc,.string x.v.n] #[.int .i64 y.v.k,.int .i64 y.v.lo,.int .i64 y.v.hi,.slice y.xd y.v.x.length y.xc,.slice y.td y.v.t.length y.tc,.slice y.fd y.v.f.length y.fc,.string y.v.n]
 have hkx:x.v.k≠1:=by
  intro e
  by_cases h11:x.v.k=11
  ·omega
  ·exact (hx.1.prt h11).ne.2.1 e
 have hky:y.v.k≠1:=by
  intro e
  by_cases h11:y.v.k=11
  ·omega
  ·exact (hy.1.prt h11).ne.2.1 e
 have k1:(x.v.k==1)=false:=beq_eq_false_iff_ne.2 hkx
 have k2:(y.v.k==1)=false:=beq_eq_false_iff_ne.2 hky
 have hpx:=fun (W:World) (hq:TyAt W (Dj w C) x)=>partsJ_any (Dj w C) x W hq
 have hpy:=fun (B:Nat->Prop) (W:World) (hq:TyAt W B y)=>partsJ_any B y W hq
 unfold PartsJPost at hpx hpy
 show Calls Tryz.prog 114 #[jv,.agg #[.int .i64 x.v.k,.int .i64 x.v.lo,.int .i64 x.v.hi,.slice x.xd x.v.x.length x.xc,.slice x.td x.v.t.length x.tc,.slice x.fd x.v.f.length x.fc,.string x.v.n],.agg #[.int .i64 y.v.k,.int .i64 y.v.lo,.int .i64 y.v.hi,.slice y.xd y.v.x.length y.xc,.slice y.td y.v.t.length y.tc,.slice y.fd y.v.f.length y.fc,.string y.v.n]] w _
 unfold Lt.val at hpx hpy
 obtain ⟨mx,hmx⟩:∃ m,x.v.x.length=m:=⟨_,rfl⟩
 obtain ⟨mt,hmt⟩:∃ m,x.v.t.length=m:=⟨_,rfl⟩
 obtain ⟨mf,hmf⟩:∃ m,x.v.f.length=m:=⟨_,rfl⟩
 obtain ⟨nx,hnx⟩:∃ m,y.v.x.length=m:=⟨_,rfl⟩
 obtain ⟨nt,hnt⟩:∃ m,y.v.t.length=m:=⟨_,rfl⟩
 obtain ⟨nf,hnf⟩:∃ m,y.v.f.length=m:=⟨_,rfl⟩
 rw [hmx,hmt,hmf,hnx,hnt,hnf] at hbs ⊢
 have HMX:=hid hmx
 have HMT:=hid hmt
 have HMF:=hid hmf
 have HNX:=hid hnx
 have HNT:=hid hnt
 have HNF:=hid hnf
 have HX:=hid hx
 have HY:=hid hy
 have HXA:=hid hxa
 have HYA:=hid hya
 have HC:=hid hC
 simp only [hmx,hmt,hmf] at hpx
 simp only [hnx,hnt,hnf] at hpy
 have HPX:=hid hpx
 have HPY:=hid hpy
 have HBC:=hid HB
 have hly:=(parts_pts hy.1).len
 obtain ⟨nb,hnb⟩:∃ nb,(partsT y.v).length=nb:=⟨_,rfl⟩
 obtain ⟨na,hna⟩:∃ na,(partsT x.v).length=na:=⟨_,rfl⟩
 rw [hnb] at hly
 have HNB:=hid hnb
 have HNA:=hid hna
 clear hx hy hxa hya hC HB hkx hky hpx hpy hmx hmt hmf hnx hnt hnf hnb hna
 go_enter Tryz.func114,Tryz.ntmps114
 go_upto_region 1 with fail
 generalize World.alloc (World.alloc (World.alloc w _) _) _=w1 at hbs ⊢
 obtain ⟨a0,a1,a2,a3,a4,a5,a6,-⟩:=ty_cells hbs.bx
 obtain ⟨b0,b1,b2,b3,b4,b5,b6,-⟩:=ty_cells hbs.by_
 have HXA1:=hid ((HXA.out.weak (C:=Dj w C) (fun b h1 h2=>⟨h1,.inl h2⟩)).keep hbs.g)
 have HYA1:=hid ((HYA.out.weak (C:=Dj w C) (fun b h1 h2=>⟨h1,.inl h2⟩)).keep hbs.g)
 have HBS:=hid hbs
 have HP1:=hid (HPX.out w1 HXA1.out)
 rw [HNA.out] at HP1
 clear hbs
 go_upto_region 3 with fail
 go_wp2_with fail
 (with_reducible refine HP1.out.mono ?_)
 rintro e w2 ⟨ad1,c1,rfl,hr2,hb2⟩
 have hv1:=HBS.out.vlt
 have HR2:=hid (hr2.weak (C:=Dj w C) (fun b hb _=>by
  rcases hb with hb|hb
  ·exact hb
  ·exact ⟨HC.out b (by omega),.inr (by omega)⟩))
 have HB2:=hid (HBS.out.keep hb2)
 have HYA2:=hid (HYA1.out.keep hb2)
 clear hr2 hb2 a0 a1 a2 a3 a4 a5 a6 b0 b1 b2 b3 b4 b5 b6 HBS HP1 hv1
 obtain ⟨M,hM⟩:∃ M,w2.heap.size=M+1:=⟨w2.heap.size - 1,by have:=HB2.out.vlt;omega⟩
 have hcl:=cloneT_any M (Dj w C) ad1 c1 (partsT x.v) w2 (by rw [HNA.out];exact HR2.out) (by omega)
 unfold CloneT at hcl
 rw [HNA.out] at hcl
 have HCL:=hid hcl
 have HM:=hid hM
 have hM2:w.heap.size+2<=M:=by have:=HB2.out.vlt;omega
 clear hcl hM
 go_wp2_with fail
 (with_reducible refine HCL.out.mono ?_)
 rintro e w3 ⟨vo,cq,ps,rfl,ha3,hfd3,hb3⟩
 have HB3:=hid (HB2.out.keep hb3)
 have hgo:∀ b,(Value.slice vo na cq).ownBlock=some b->M+1<=b/\b<w3.heap.size:=ha3.own.lt
 have HYA3:=hid ((HYA.out.weak (C:=fun b=>Dj w C b/\(Value.slice vo na cq).ownBlock≠some b) (fun b h1 h2=>⟨⟨h1,.inl h2⟩,fun e=>by have:=(hgo b e).1;omega⟩)).keep HB3.out.g)
 have HA3:=hid ha3
 have HF3:=hid hfd3
 have HS3:Hid (M+1<=w3.heap.size):=hid (by have:=hb3.size;rw [HM.out] at this;exact this)
 clear ha3 hfd3 hb3 HB2 HYA2 HCL HR2
 obtain ⟨b0,b1,b2,b3,b4,b5,b6,-⟩:=ty_cells HB3.out.by_
 have HP3:=hid (HPY.out _ w3 HYA3.out)
 rw [HNB.out] at HP3
 go_wp2_with fail
 (with_reducible refine HP3.out.mono ?_)
 rintro e w4 ⟨bd,bc,rfl,hr4,hb4⟩
 have HJ0:Hid (JM w #[.int .i64 x.v.k,.int .i64 x.v.lo,.int .i64 x.v.hi,.slice x.xd mx x.xc,.slice x.td mt x.tc,.slice x.fd mf x.fc,.string x.v.n] #[.int .i64 y.v.k,.int .i64 y.v.lo,.int .i64 y.v.hi,.slice y.xd nx y.xc,.slice y.td nt y.tc,.slice y.fd nf y.fc,.string y.v.n] C M na vo cq ps (partsT x.v) (partsT y.v) bd bc w4):=hid (by
  have hpl:ps.length=na:=by
   have:=congrArg List.length HF3.out
   rwa [List.length_map,tf_len,HNA.out] at this
  refine ⟨hpl,HB3.out.keep hb4,HA3.out.keep hb4,HF3.out,?_,Nat.le_trans HS3.out hb4.size,hM2⟩
  rw [HNB.out]
  exact hr4.weak (fun b hb _=>by
   rcases hb with hb|hb
   ·exact hb
   ·have:=HS3.out
    exact ⟨⟨HC.out b (by omega),.inr (by omega)⟩,fun e=>by have:=(hgo b e).2;omega⟩))
 have HL0:Hid (JL K d x.v ((partsT y.v).take 0) (partsT x.v)):=hid (JL.start HX.out)
 have hn0:na<=7:=by rw [<-HNA.out];exact HL0.out.pts.len
 clear hr4 hb4 b0 b1 b2 b3 b4 b5 b6 HYA3 HA3 HF3 HS3 HP3 HB3 HPX HPY HXA1 HYA1 HM hgo
 go_wp2_with fail
 go_loopw [7,26] (fun v7 v26 wr=>∃ (j n:Nat) (l:List Ty) (ps:List Ft) (vo:Option Addr) (cq:Nat),j<=nb/\n<=7/\v26=.int .i64 j/\v7=.slice vo n cq/\Hid (JM w #[.int .i64 x.v.k,.int .i64 x.v.lo,.int .i64 x.v.hi,.slice x.xd mx x.xc,.slice x.td mt x.tc,.slice x.fd mf x.fc,.string x.v.n] #[.int .i64 y.v.k,.int .i64 y.v.lo,.int .i64 y.v.hi,.slice y.xd nx y.xc,.slice y.td nt y.tc,.slice y.fd nf y.fc,.string y.v.n] C M n vo cq ps l (partsT y.v) bd bc wr)/\Hid (JL K d x.v ((partsT y.v).take j) l)) (fun _ v26 _=>nb - (intOf v26).toNat)
 case atStart=>exact ⟨0,na,partsT x.v,ps,vo,cq,Nat.zero_le _,hn0,rfl,rfl,HJ0,HL0⟩
 case round =>
  obtain ⟨j,n,l,ps,vo,cq,hj,hn7,rfl,rfl,HF,HL⟩:=hrel
  clear HJ0 HL0 hn0
  by_cases hlt:j<nb
  ·obtain ⟨y0,hy0⟩:∃ f,(partsT y.v)[j]?=some f:=⟨_,List.getElem?_eq_getElem (by rw [HNB.out];exact hlt)⟩
   have hrp:=HF.out.rp
   obtain ⟨b2,o2,hd2,-,hbl2,hcs2⟩:=hrp.elem (by rw [HNB.out];omega)
   subst hd2
   obtain ⟨qy,hqy,hqa,hqc⟩:=hcs2 j y0 hy0
   obtain ⟨d0,d1,d2,d3,d4,d5,d6⟩:=hqc
   have hPy:Pn K d y0:=HY.out.2 y0 (List.mem_of_getElem? hy0)
   have hprt:=hPy.nm.2
   have r1:(0:Int)<=(j:Int):=by omega
   have r2:(j:Int)<(nb:Int):=by omega
   have r4:(j:Int).toNat=j:=rfl
   have hba:=(Below.refl wr.heap.size wr).alloc (Nat.le_refl _) (.cells #[.int .i64 qy.v.k,.int .i64 qy.v.lo,.int .i64 qy.v.hi,.slice qy.xd qy.v.x.length qy.xc,.slice qy.td qy.v.t.length qy.tc,.slice qy.fd qy.v.f.length qy.fc,.string qy.v.n] 27)
   have hcb:=heap_alloc_new wr (.cells #[.int .i64 qy.v.k,.int .i64 qy.v.lo,.int .i64 qy.v.hi,.slice qy.xd qy.v.x.length qy.xc,.slice qy.td qy.v.t.length qy.tc,.slice qy.fd qy.v.f.length qy.fc,.string qy.v.n] 27)
   have hxl:wr.heap.size<(wr.alloc (.cells #[.int .i64 qy.v.k,.int .i64 qy.v.lo,.int .i64 qy.v.hi,.slice qy.xd qy.v.x.length qy.xc,.slice qy.td qy.v.t.length qy.tc,.slice qy.fd qy.v.f.length qy.fc,.string qy.v.n] 27)).heap.size:=by simp
   have HY0:=hid hy0
   have HQY:=hid hqy
   have HPY:=hid hPy
   have HPRT:=hid hprt
   have HQA:=hid (hqa.keep hba)
   have HTK:=hid (take_snoc hy0)
   clear hcs2 hy0 hqy hPy hprt hqa hrp
   go_upto_region 7 with fail
   generalize hwx:World.alloc wr _=wx at hba hcb hxl HQA ⊢
   have HFX:=hid (HF.out.keep hba)
   obtain ⟨xb,hxb⟩:∃ xb,wr.heap.size=xb:=⟨_,rfl⟩
   have HXB:=hid hxb
   rw [hxb] at hcb hxl ⊢
   have HLW:Hid (∀ b,(Value.slice vo n cq).ownBlock=some b->b<xb):=hid (fun b e=>by rw [<-hxb];exact (HF.out.ra.own.lt b e).2)
   have htc:TcAt wx xb 0 qy:=TcAt.box hcb
   have hidx:=idxKind_any vo cq l qy xb wx (by rw [HFX.out.ln];exact HFX.out.row (by omega)) htc hxl (by rw [HQY.out];have:=HPRT.out;unfold Prt at this;omega) (by rw [HQY.out];have:=HPRT.out;unfold Prt at this;omega) (fun z hz=>by have:=HL.out.pts.p z hz;unfold Prt at this;omega)
   rw [HFX.out.ln,HQY.out] at hidx
   have HIDX:=hid hidx
   have HCB:=hid hcb
   clear hidx d0 d1 d2 d3 d4 d5 d6 hwx hxb hba hcb htc
   go_wp2_with fail
   (with_reducible refine HIDX.out.mono ?_)
   rintro e w2 ⟨rfl,hb2⟩
   have hbx2:=(hb2.block _ hxl).trans HCB.out
   have HF2:=hid (HFX.out.keep hb2)
   have HQ2:=hid (HQA.out.keep hb2)
   have HBX2:=hid hbx2
   have hxl2:xb<w2.heap.size:=Nat.lt_of_lt_of_le hxl hb2.size
   clear hb2 HFX HIDX HQA HCB hxl HF hbx2
   obtain ⟨e0,e1,e2,e3,e4,e5,e6,-⟩:=ty_cells HBX2.out
   obtain ⟨ii,hii⟩:∃ ii,l.findIdx (fun z:Ty=>kindV z.k==kindV y0.k)=ii:=⟨_,rfl⟩
   rw [hii]
   have HII:=hid hii
   clear hii
   by_cases hi:ii<n
   ·rw [if_pos hi]
    have hil:l.findIdx (fun z:Ty=>kindV z.k==kindV y0.k)<l.length:=by rw [HII.out,HF2.out.ln];exact hi
    obtain ⟨x0,hx0,hkk⟩:=kind_at hil
    rw [HII.out] at hx0
    have hk0:=kind_pos HL.out.pts HPRT.out hx0 hkk
    obtain ⟨g,rfl⟩:∃ g,vo=some ⟨g,0,none⟩:=by
     have ho:=HF2.out.ra.own.2
     rcases ho with ⟨hv,h0⟩|⟨g,cap,cur,hv,-⟩
     ·have:=HF2.out.rn;omega
     ·simp only [Value.slice.injEq] at hv
      exact ⟨g,hv.1⟩
    obtain ⟨p,hp⟩:∃ p,ps[ii]?=some p:=⟨_,List.getElem?_eq_getElem (by rw [HF2.out.rn];exact hi)⟩
    have hpv:p.t.v=x0:=by
     have h1:=(bare_of HF2.out.rl).2
     have h2:(ps.map fun p=>p.t.v)[ii]?=some p.t.v:=by rw [List.getElem?_map,hp];rfl
     rw [h1,hx0] at h2
     exact (Option.some.inj h2).symm
    have htc:TcAt w2 g (ii * 7) p.t:=HF2.out.ra.tc ii p hp
    have hgl:=HF2.out.ra.own.lt g rfl
    have hpa:TyAt w2 (fun b=>Dj w C b/\b≠g) p.t:=(HF2.out.ra.at_ p (List.mem_of_getElem? hp)).weak (fun b hb _=>⟨hb.1,fun e=>hb.2 (by rw [e];rfl)⟩)
    have hqa:TyAt w2 (fun b=>Dj w C b/\b≠g) qy:=HQ2.out.weak (fun b hb _=>⟨hb.1,fun e=>hb.2 (by rw [e];rfl)⟩)
    have hbc:=HBC.out jv p.t qy (fun b=>Dj w C b/\b≠g) w2.drew (by rw [hpv];exact HL.out.pn x0 (List.mem_of_getElem? hx0)) (by rw [HQY.out];exact HPY.out) (by rw [hpv,HQY.out];exact hk0) (hpa.keep (Gx.drewN_below w2 1 _)) (hqa.keep (Gx.drewN_below w2 1 _)) (fun b hb=>by
     have h1:w2.heap.size<=b:=hb
     have h2:=HF2.out.rb.vlt
     exact ⟨⟨HC.out b (by omega),.inr (by omega)⟩,by omega⟩)
    unfold BothPost at hbc
    rw [hpv,HQY.out] at hbc
    unfold Lt.val at hbc
    have HCALL:=hid hbc
    have HX0:=hid hx0
    have HFD:=hid (HF2.out.keep (Gx.drewN_below w2 1 _))
    obtain ⟨a0,a1,a2,a3,a4,a5,a6⟩:=htc
    have q1:(0:Int)<=(ii:Int):=by omega
    have q2:(ii:Int)<(n:Int):=by omega
    have q4:(ii:Int).toNat=ii:=rfl
    clear hil hx0 hkk hk0 hp hpv hgl hpa hqa hbc HPY HPRT HQ2 HII HF2
    go_upto_region 9 with fail
    have hxg:g≠xb:=by have:=HLW.out g rfl;omega
    have HKP:Hid (∀ (W:World) (o:Nat) (v:Value),World.cell? W ⟨xb,0,none⟩=some (.int .i64 qy.v.k)/\World.cell? W ⟨xb,1,none⟩=some (.int .i64 qy.v.lo)/\World.cell? W ⟨xb,2,none⟩=some (.int .i64 qy.v.hi)/\World.cell? W ⟨xb,3,none⟩=some (.slice qy.xd qy.v.x.length qy.xc)/\World.cell? W ⟨xb,4,none⟩=some (.slice qy.td qy.v.t.length qy.tc)/\World.cell? W ⟨xb,5,none⟩=some (.slice qy.fd qy.v.f.length qy.fc)/\World.cell? W ⟨xb,6,none⟩=some (.string qy.v.n)->World.cell? (W.setCell ⟨g,o,none⟩ v) ⟨xb,0,none⟩=some (.int .i64 qy.v.k)/\World.cell? (W.setCell ⟨g,o,none⟩ v) ⟨xb,1,none⟩=some (.int .i64 qy.v.lo)/\World.cell? (W.setCell ⟨g,o,none⟩ v) ⟨xb,2,none⟩=some (.int .i64 qy.v.hi)/\World.cell? (W.setCell ⟨g,o,none⟩ v) ⟨xb,3,none⟩=some (.slice qy.xd qy.v.x.length qy.xc)/\World.cell? (W.setCell ⟨g,o,none⟩ v) ⟨xb,4,none⟩=some (.slice qy.td qy.v.t.length qy.tc)/\World.cell? (W.setCell ⟨g,o,none⟩ v) ⟨xb,5,none⟩=some (.slice qy.fd qy.v.f.length qy.fc)/\World.cell? (W.setCell ⟨g,o,none⟩ v) ⟨xb,6,none⟩=some (.string qy.v.n)):=hid (fun W o v ⟨s0,s1,s2,s3,s4,s5,s6⟩=>by
     have hf:∀ a:Addr,g≠a.block->(W.setCell ⟨g,o,none⟩ v).cell? a=W.cell? a:=fun a ha=>World.cell?_setCell_far W _ a v ha
     exact ⟨(hf _ hxg).trans s0,(hf _ hxg).trans s1,(hf _ hxg).trans s2,(hf _ hxg).trans s3,(hf _ hxg).trans s4,(hf _ hxg).trans s5,(hf _ hxg).trans s6⟩)
    refine wp_region_held_drew (S:=fun w'=>World.cell? w' ⟨xb,0,none⟩=some (.int .i64 qy.v.k)/\World.cell? w' ⟨xb,1,none⟩=some (.int .i64 qy.v.lo)/\World.cell? w' ⟨xb,2,none⟩=some (.int .i64 qy.v.hi)/\World.cell? w' ⟨xb,3,none⟩=some (.slice qy.xd qy.v.x.length qy.xc)/\World.cell? w' ⟨xb,4,none⟩=some (.slice qy.td qy.v.t.length qy.tc)/\World.cell? w' ⟨xb,5,none⟩=some (.slice qy.fd qy.v.f.length qy.fc)/\World.cell? w' ⟨xb,6,none⟩=some (.string qy.v.n)) (by kernel_rfl) ⟨e0,e1,e2,e3,e4,e5,e6⟩ (fun hHeld=>?_)
    refine wpAnyH_take (i:=0) (v:=.slice (some ⟨g,0,none⟩) n cq) rfl (by kernel_rfl) (by kernel_rfl) (by kernel_rfl) (fun _ _ _ h=>h) (Or.inl ⟨by kernel_rfl,fun w' hSw=>?_⟩) (by assumption) ?_
    ·obtain ⟨s0,s1,s2,s3,s4,s5,s6⟩:=hSw;clear hHeld;go_simp;try rfl
    try simp only [Act.put,Go.setq]
    refine wpAnyH_take (i:=1) (v:=.int .i64 (ii:Int)) rfl (by kernel_rfl) (by kernel_rfl) (by kernel_rfl) (fun _ _ _ h=>h) (Or.inl ⟨by kernel_rfl,fun w' hSw=>?_⟩) (by assumption) ?_
    ·obtain ⟨s0,s1,s2,s3,s4,s5,s6⟩:=hSw;clear hHeld;go_simp;try rfl
    try simp only [Act.put,Go.setq]
    refine wpAnyH_take (i:=2) (v:=jv) rfl (by kernel_rfl) (by kernel_rfl) (by kernel_rfl) (fun _ _ _ h=>h) (Or.inl ⟨by kernel_rfl,fun w' hSw=>?_⟩) (by assumption) ?_
    ·obtain ⟨s0,s1,s2,s3,s4,s5,s6⟩:=hSw;clear hHeld;go_simp;try rfl
    try simp only [Act.put,Go.setq]
    refine wpAnyH_take (i:=3) (v:=.slice (some ⟨g,0,none⟩) n cq) rfl (by kernel_rfl) (by kernel_rfl) (by kernel_rfl) (fun _ _ _ h=>h) (Or.inl ⟨by kernel_rfl,fun w' hSw=>?_⟩) (by assumption) ?_
    ·obtain ⟨s0,s1,s2,s3,s4,s5,s6⟩:=hSw;clear hHeld;go_simp;try rfl
    try simp only [Act.put,Go.setq]
    refine wpAnyH_take (i:=4) (v:=.int .i64 (ii:Int)) rfl (by kernel_rfl) (by kernel_rfl) (by kernel_rfl) (fun _ _ _ h=>h) (Or.inl ⟨by kernel_rfl,fun w' hSw=>?_⟩) (by assumption) ?_
    ·obtain ⟨s0,s1,s2,s3,s4,s5,s6⟩:=hSw;clear hHeld;go_simp;try rfl
    try simp only [Act.put,Go.setq]
    refine wpAnyH_take (i:=5) (v:=.pointer (some ⟨g,ii * 7,none⟩)) rfl (by kernel_rfl) (by kernel_rfl) (by kernel_rfl) (fun _ _ _ h=>h) (Or.inl ⟨by kernel_rfl,fun w' hSw=>?_⟩) (by assumption) ?_
    ·obtain ⟨s0,s1,s2,s3,s4,s5,s6⟩:=hSw;clear hHeld;go_simp;try rfl
    try simp only [Act.put,Go.setq]
    refine wpAnyH_take (i:=7) (v:=.agg #[.int .i64 qy.v.k,.int .i64 qy.v.lo,.int .i64 qy.v.hi,.slice qy.xd qy.v.x.length qy.xc,.slice qy.td qy.v.t.length qy.tc,.slice qy.fd qy.v.f.length qy.fc,.string qy.v.n]) rfl (by kernel_rfl) (by kernel_rfl) (by kernel_rfl) (fun _ _ _ h=>h) (Or.inl ⟨by kernel_rfl,fun w' hSw=>?_⟩) (by assumption) ?_
    ·obtain ⟨s0,s1,s2,s3,s4,s5,s6⟩:=hSw;clear hHeld;go_simp;try rfl
    try simp only [Act.put,Go.setq]
    refine wpAnyH_ready (rs:=[6]) (by kernel_rfl) (by simp) ?_
    refine AllReadyH.cons rfl (fun KK hK=>?_) AllReadyH.nil
    go_simp
    refine hK.out _ _ ⟨e0,e1,e2,e3,e4,e5,e6⟩ (fun hHeld=>?_)
    clear hK KK
    try simp only [Act.put,Go.setq]
    refine wpAnyH_ready (rs:=[8]) (by kernel_rfl) (by simp) ?_
    refine AllReadyH.cons rfl (fun KK hK=>?_) AllReadyH.nil
    go_simp
    (with_reducible refine HCALL.out.mono ?_)
    rintro e w5 ⟨z,rfl,hjo,hpn,hzk,hz,hb5⟩
    obtain ⟨s0,s1,s2,s3,s4,s5,s6,-⟩:=ty_cells ((hb5.block _ hxl2).trans HBX2.out)
    have h5:=HFD.out.keep hb5
    obtain ⟨W',hW',ps',hjm⟩:=h5.both (by omega) HX0.out hz (ii * 7) rfl
    have HL2:Hid (JL K d x.v ((partsT y.v).take (j+1)) (l.set ii z.v)):=hid (by rw [HTK.out];exact HL.out.both HX0.out hjo hzk hpn)
    have HW':=hid hW'
    have HJM:=hid hjm
    have hown5:=h5.ra.own
    rw [h5.rn] at hown5
    have hfr:=hown5.frozenAt
    have f0:=hfr (ii * 7)
    have f1:=hfr (ii * 7+1)
    have f2:=hfr (ii * 7+2)
    have f3:=hfr (ii * 7+3)
    have f4:=hfr (ii * 7+4)
    have f5:=hfr (ii * 7+5)
    have f6:=hfr (ii * 7+6)
    obtain ⟨p5,hp5⟩:∃ p5,ps[ii]?=some p5:=⟨_,List.getElem?_eq_getElem (by rw [h5.rn];exact hi)⟩
    have htc5:TcAt w5 g (ii * 7) p5.t:=h5.ra.tc ii p5 hp5
    obtain ⟨k0,k1',k2',k3,k4,k5,k6⟩:=htc5
    clear h5 hjm hW' hjo hpn hzk hz hp5 hfr hown5 a0 a1 a2 a3 a4 a5 a6 HFD HCALL
    clear hb5 hHeld
    refine hK.out _ _ ⟨s0,s1,s2,s3,s4,s5,s6⟩ (fun hHeld=>?_)
    clear hK KK
    try simp only [Act.put,Go.setq]
    refine wpAnyH_take (i:=9) (v:=.pointer (some ⟨g,ii * 7,none⟩)) rfl (by kernel_rfl) (by kernel_rfl) (by kernel_rfl) (fun _ _ _ h=>h) (Or.inl ⟨by kernel_rfl,fun w' hSw=>?_⟩) (by assumption) ?_
    ·clear hHeld hSw;go_simp;try rfl
    try simp only [Act.put,Go.setq]
    refine wpAnyH_ready (rs:=[10]) (by kernel_rfl) (by simp) ?_
    refine AllReadyH.cons rfl (fun KK hK=>?_) AllReadyH.nil
    go_simp
    refine hK.out _ _ (HKP.out _ _ _ (HKP.out _ _ _ (HKP.out _ _ _ (HKP.out _ _ _ (HKP.out _ _ _ (HKP.out _ _ _ (HKP.out _ _ _ hHeld))))))) (fun hHeld2=>?_)
    clear hK KK
    try simp only [Act.put,Go.setq]
    refine wpAnyH_done (by kernel_rfl) ?_ _
    rw [<-HW'.out]
    go_wp2_with fail
    go_roundw
    case rel=>exact ⟨j+1,n,_,ps',some ⟨g,0,none⟩,cq,by omega,hn7,by go_num,rfl,HJM,HL2⟩
    case measure=>simp [intOf];omega
   ·rw [if_neg hi]
    have hno:=kind_out (l:=l) (y:=y0) (by rw [HII.out,HF2.out.ln];exact hi)
    have HL2:Hid (JL K d x.v ((partsT y.v).take (j+1)) (l++[y0])):=hid (by rw [HTK.out];exact HL.out.more HPY.out hno)
    obtain ⟨ao,c7,w7,hrun,hjm⟩:=HF2.out.more (by omega) HQ2.out HC.out
    rw [HQY.out] at hjm
    have HRUN:=hid hrun
    have HJM:=hid hjm
    have HTC:Hid (TcAt w2 xb 0 qy):=hid (TcAt.box HBX2.out)
    have hn8:n+1<=7:=by
     have:=HL2.out.pts.len
     rw [List.length_append,HF2.out.ln] at this
     exact this
    clear hno hrun hjm HF2 HQ2 HBX2 e0 e1 e2 e3 e4 e5 e6
    go_upto_region 10 with fail
    apply wp_region_lit
    refine wpl_move rfl (.tmp 7) rfl (.slice vo n cq) rfl ?_
    simp only [Act.put,Go.setq]
    refine wpl_load rfl _ (.tmp 9) rfl (.pointer (some ⟨xb,0,none⟩)) rfl (load_ty w2 xb qy HTC.out) ?_
    simp only [Act.put,Go.setq]
    refine wpl_build_eq rfl _ (.tmp 46) rfl qy.val rfl (bs_type w2 _ _ _ _ _ _ _) ?_
    simp only [Act.put,Go.setq]
    refine wpl_append_eq rfl (.tmp 45) (.tmp 47) 24 24 rfl (.slice vo n cq) (.slice (some ⟨w2.heap.size,0,none⟩) 1 1) rfl rfl HRUN.out ?_
    simp only [Act.put,Go.setq]
    refine wpl_assign rfl (.tmp 48) rfl (.slice ao (n+1) c7) rfl ?_
    simp only [Act.put,Go.setq]
    refine wpList_nil ?_
    go_wp2_with fail
    go_roundw
    case rel=>exact ⟨j+1,n+1,_,_,ao,c7,by omega,hn8,by go_num,rfl,HJM,HL2⟩
    case measure=>simp [intOf];omega
  ·obtain rfl:j=nb:=by omega
   have hlj:=HL.out
   rw [<-HNB.out,List.take_length] at hlj
   have hun:=union_any M (Dj w C) (Dj w C) vo cq n l ps wr HF.out.ra HF.out.rl HF.out.rn (by omega) HL.out.pts.p (fun b hb=>by
    rcases hb with hb|hb
    ·exact hb
    ·exact ⟨HC.out b (by omega),.inr (by omega)⟩)
   unfold UnionPost at hun
   have HUN:=hid hun
   have HLJ:=hid hlj
   clear hun hlj HL
   go_wp2_with fail
   (with_reducible refine HUN.out.mono ?_)
   rintro e w5 ⟨z,rfl,hu,hz,hg5⟩
   have hlow:=HF.out.ra.own.lt
   have HR:=hid (HF.out.rb.grow hg5 (fun b e=>by have:=(hlow b e).1;omega))
   have HU:=hid hu
   have HZ:=hid hz
   obtain ⟨zx,hzx⟩:∃ m,z.v.x.length=m:=⟨_,rfl⟩
   obtain ⟨zt,hzt⟩:∃ m,z.v.t.length=m:=⟨_,rfl⟩
   obtain ⟨zf,hzf⟩:∃ m,z.v.f.length=m:=⟨_,rfl⟩
   unfold Lt.val
   rw [hzx,hzt,hzf]
   have HZX:=hid hzx
   have HZT:=hid hzt
   have HZF:=hid hzf
   clear hu hz hg5 hlow hzx hzt hzf HUN
   obtain ⟨p0,p1,p2,p3,p4,p5,p6,pf⟩:=ty_cells HR.out.res
   have pf0:=pf 0
   have pf1:=pf 1
   have pf2:=pf 2
   have pf3:=pf 3
   have pf4:=pf 4
   have pf5:=pf 5
   have pf6:=pf 6
   obtain ⟨W9,hW9,hr9,hg9⟩:=seven_all HR.out.res (.int .i64 z.v.k) (.int .i64 z.v.lo) (.int .i64 z.v.hi) (.slice z.xd zx z.xc) (.slice z.td zt z.tc) (.slice z.fd zf z.fc) (.string z.v.n)
   obtain ⟨q0,q1,q2,q3,q4,q5,q6,-⟩:=ty_cells hr9
   have HW9:=hid hW9
   have HPOST:Hid (JoinPost K d x.v y.v C w (.returned (.agg #[.int .i64 z.v.k,.int .i64 z.v.lo,.int .i64 z.v.hi,.slice z.xd zx z.xc,.slice z.td zt z.tc,.slice z.fd zf z.fc,.string z.v.n])) W9):=hid ⟨z,by unfold Lt.val;rw [HZX.out,HZT.out,HZF.out],HLJ.out.done HX.out HY.out HU.out,(HZ.out.grow hg9 (fun b e hb=>by have:=Option.some.inj e;have:=hb.2;omega)).weak (fun b hb _=>hb.1),HR.out.g.grown hg9 (by have:=HR.out.vlt;omega) (fun b e=>by have:=Option.some.inj e;omega)⟩
   clear hW9 hr9 hg9 pf
   go_wp2_with fail
   rw [<-HW9.out]
   exact bodyPost_ret (v:=.agg #[.int .i64 z.v.k,.int .i64 z.v.lo,.int .i64 z.v.hi,.slice z.xd zx z.xc,.slice z.td zt z.tc,.slice z.fd zf z.fc,.string z.v.n]) (by simp [results,Tryz.results114,go_sem,q0,q1,q2,q3,q4,q5,q6]) rfl HPOST.out
theorem joinC_all (K:List ByteArray) (hKn:K.length<=2000):∀ d,JoinC K d
 | 0=>join_any K 0 (bothC_zero K)
 | d+1=>join_any K (d+1) (both_any K hKn d (joinC_all K hKn d))
def OfPost (K:List ByteArray) (d:Nat) (v:V) (w:World) (e:Ending) (w':World):Prop:=∃ y:Lt,e=.returned y.val/\OfK K d v y.v/\TyAt w' (fun b=>w.heap.size<=b) y/\Below w.heap.size w w'
structure OM (w:World) (X:Array Value) (W:World):Prop where
 bx:W.heap[w.heap.size]?=some (.cells X 32)
 res:W.heap[w.heap.size+1]?=some (.cells #[.int .i64 0,.int .i64 0,.int .i64 0,.slice none 0 0,.slice none 0 0,.slice none 0 0,.string ⟨#[]⟩] 27)
 g:Below w.heap.size w W
namespace OM
variable {w W W':World} {X:Array Value}
theorem vlt (h:OM w X W):w.heap.size+1<W.heap.size:=(Array.getElem?_eq_some_iff.1 h.res).1
theorem grow (h:OM w X W) {r:Option Nat} (hg:W.grownBy W' r) (hr:∀ b,r=some b->w.heap.size+1<b):OM w X W':=by
 have h1:=h.vlt
 have hk:∀ k,k<=w.heap.size+1->W'.heap[k]?=W.heap[k]?:=fun k hk=>hg.block k (by omega) (fun e=>by have:=hr _ e.symm;omega)
 exact ⟨(hk _ (by omega)).trans h.bx,(hk _ (by omega)).trans h.res,⟨hg.os.trans h.g.os,hg.tape.trans h.g.tape,hg.output.trans h.g.output,Nat.le_trans h.g.size hg.size,fun i hi=>(hk i (by omega)).trans (h.g.block i hi)⟩⟩
theorem keep (h:OM w X W) (hb:Below W.heap.size W W'):OM w X W':=h.grow (grown_none hb) (fun _ e=>absurd e (by simp))
theorem start (w:World) (X:Array Value):OM w X ((w.alloc (.cells X 32)).alloc (.cells #[.int .i64 0,.int .i64 0,.int .i64 0,.slice none 0 0,.slice none 0 0,.slice none 0 0,.string ⟨#[]⟩] 27)):=by
 refine ⟨?_,?_,((Below.refl _ w).alloc (Nat.le_refl _) _).alloc (by simp) _⟩
 ·rw [Below.heap_alloc _ _ _ (by simp)]
  exact heap_alloc_new w _
 ·have:=heap_alloc_new (w.alloc (.cells X 32)) (.cells #[.int .i64 0,.int .i64 0,.int .i64 0,.slice none 0 0,.slice none 0 0,.slice none 0 0,.string ⟨#[]⟩] 27)
  rwa [World.size_alloc] at this
end OM
theorem wfT (k lo hi:Int) (hk0:0<=k) (hk1:k<=20) (h1:-9223372036854775808<=lo) (h2:lo<=9223372036854775807) (h3:-9223372036854775808<=hi) (h4:hi<=9223372036854775807) (x:List ByteArray) (t:List Ty) (f:List (Fd Ty)):(Ty.mk k lo hi x t f ⟨#[]⟩).wf :=
 ⟨show (-9223372036854775808:Int)<=k by omega,show k<=9223372036854775807 by omega,h1,h2,h3,h4,show (0:Nat)<=140737488351232 by decide⟩
def OfC (K:List ByteArray) (d:Nat):Prop:=∀ (q:Loc) (w:World),Gd d q.v->KIn K d q.v->VAt w (fun _=>True) q->Tabs w->Calls Tryz.prog 95 #[q.val] w (OfPost K d q.v w)
theorem gd_rise {d:Nat} {v:V} (h:Gd (d+1) v):Rise v.e:=(keyE_rise v.e none h.2.1).1
theorem runeN_le {s:ByteArray} (h:okText s.data.toList) (hs:s.size<=4000):(runeN s.data.toList:Int)<=9223372036854775807:=by
 obtain ⟨rs,hr,hl⟩:=h
 have key:∀ rs:List Int,rs.length<=(encs rs).length:=by
  intro rs
  induction rs with
  | nil=>exact Nat.zero_le _
  | cons r rs ih =>
    have h1:0<(Lib.encodeRune r).length:=by
     refine Nat.pos_of_ne_zero (fun h0=>?_)
     have h2:encs [r]=[]:=by rw [encs_cons,List.eq_nil_of_length_eq_zero h0];rfl
     exact absurd (encs_nil h2) (by simp)
    rw [encs_cons,List.length_append,List.length_cons]
    omega
 have h1:=key rs
 rw [<-hl] at h1
 have h2:s.data.toList.length=s.size:=Lib.size_eq s |>.symm
 rw [rune_len hr hl]
 omega
structure OLs (w:World) (X:Array Value) (tb:Nat) (t:Lt) (W:World):Prop where
 rb:OM w X W
 bt:W.heap[tb]?=some (.cells #[.int .i64 t.v.k,.int .i64 t.v.lo,.int .i64 t.v.hi,.slice t.xd t.v.x.length t.xc,.slice t.td t.v.t.length t.tc,.slice t.fd t.v.f.length t.fc,.string t.v.n] 27)
 ht:TyAt W (fun b=>w.heap.size+1<b/\b≠tb) t
 lt:w.heap.size+1<tb
theorem OLs.keep {w W W':World} {X:Array Value} {tb:Nat} {t:Lt} (h:OLs w X tb t W) (hb:Below W.heap.size W W'):OLs w X tb t W' :=
 ⟨h.rb.keep hb,(hb.block _ (Array.getElem?_eq_some_iff.1 h.bt).1).trans h.bt,h.ht.keep hb,h.lt⟩
structure OX (w:World) (X:Array Value) (tb:Nat) (t:Lt) (xb:Nat) (p:Loc) (W:World):Prop where
 s:OLs w X tb t W
 x:W.heap[xb]?=some (.cells #[.int .i64 p.v.k,.int .i64 p.v.n,.int .u64 p.v.f,.string p.v.s,.slice p.ad p.v.l.length p.cap,.slice p.bd p.v.e.length p.dap] 32)
theorem OX.keep {w W W':World} {X:Array Value} {tb xb:Nat} {t:Lt} {p:Loc} (h:OX w X tb t xb p W) (hb:Below W.heap.size W W'):OX w X tb t xb p W' :=
 ⟨h.s.keep hb,(hb.block _ (Array.getElem?_eq_some_iff.1 h.x).1).trans h.x⟩
end Go.Proofs.YtgnonbdkmmkdgaaGreatDoor
namespace Go.Proofs.YtgnonbdkmmkdgaaGreatDoor
open Go.RowKit Gx
theorem of_leaf_any (K:List ByteArray) (d:Nat) (q:Loc) (w:World) (hg:Gd (d+1) q.v) (hki:KIn K (d+1) q.v) (hq:VAt w (fun _=>True) q) (hT:Tabs w) (h5:q.v.k≠5) (h6:q.v.k≠6):Calls Tryz.prog 95 #[q.val] w (OfPost K (d+1) q.v w):=by
 have hom:=OM.start w #[.int .i64 q.v.k,.int .i64 q.v.n,.int .u64 q.v.f,.string q.v.s,.slice q.ad q.v.l.length q.cap,.slice q.bd q.v.e.length q.dap]
 have hok:=hg.ok
 unfold Loc.val
 obtain ⟨nl,hnl⟩:∃ m,q.v.l.length=m:=⟨_,rfl⟩
 obtain ⟨ne,hne⟩:∃ m,q.v.e.length=m:=⟨_,rfl⟩
 rw [hnl,hne] at hom ⊢
 have HNL:=hid hnl
 have HNE:=hid hne
 have HQ:=hid hq
 have HT:=hid hT
 have HG:=hid hg
 have HKI:=hid hki
 have HOK:=hid hok
 clear hnl hne hq hT hg hki hok
 go_enter Tryz.func95,Tryz.ntmps95
 go_upto_region 1 with fail
 generalize World.alloc (World.alloc w _) _=w1 at hom ⊢
 have HO:=hid hom
 clear hom
 have hk0:=HOK.out.k0
 have hk6:=HOK.out.k6
 have hks:q.v.k=0\/q.v.k=1\/q.v.k=2\/q.v.k=3\/q.v.k=4:=by omega
 clear hk0 hk6 h5 h6
 obtain ⟨a0,a1,a2,a3,a4,a5,-⟩:=six_cells HO.out.bx
 obtain ⟨p0,p1,p2,p3,p4,p5,p6,pf⟩:=ty_cells HO.out.res
 have pf0:=pf 0
 have pf1:=pf 1
 have pf2:=pf 2
 have pf3:=pf 3
 have pf4:=pf 4
 have pf5:=pf 5
 have pf6:=pf 6
 rcases hks with h|h|h|h|h
 ·have HK:=hid h
  rw [h] at a0
  clear h
  obtain ⟨W9,hW9,hr9,hg9⟩:=seven_all HO.out.res (.int .i64 2) (.int .i64 0) (.int .i64 0) (.slice none 0 0) (.slice none 0 0) (.slice none 0 0) (.string ⟨#[]⟩)
  obtain ⟨q0,q1,q2,q3,q4,q5,q6,-⟩:=ty_cells hr9
  have HW9:=hid hW9
  have HPOST:Hid (OfPost K (d+1) q.v w (.returned (.agg #[.int .i64 2,.int .i64 0,.int .i64 0,.slice none 0 0,.slice none 0 0,.slice none 0 0,.string ⟨#[]⟩])) W9):=hid (by
   have hl:OfR q.v (.mk 2 (0) (0) [] [] [] ⟨#[]⟩):=of_leaf (show Prt 2 by unfold Prt;omega) (show (2:Int)≠8 by decide) (show (2:Int)≠10 by decide) (by show tells 2 q.v.k=true;rw [HK.out];rfl) (fun e=>absurd e (show (2:Int)≠4 by decide)) (fun e=>absurd e (show (2:Int)≠6 by decide))
   exact ⟨⟨.mk 2 (0) (0) [] [] [] ⟨#[]⟩,none,0,none,0,none,0⟩,rfl,ofK_leaf hl (show Prt 2 by unfold Prt;omega) (show (2:Int)≠8 by decide) (show (2:Int)≠10 by decide) rfl rfl,⟨wfT 2 (0) (0) (by decide) (by decide) (by decide) (by decide) (by decide) (by decide) _ _ _,.nil _ _,.nil _ _ _,.nil _ _ _⟩,HO.out.g.grown hg9 (by have:=HO.out.vlt;omega) (fun b e=>by have:=Option.some.inj e;omega)⟩)
  clear hW9 hr9 hg9 pf
  go_wp2_with fail
  rw [<-HW9.out]
  exact bodyPost_ret (v:=.agg #[.int .i64 2,.int .i64 0,.int .i64 0,.slice none 0 0,.slice none 0 0,.slice none 0 0,.string ⟨#[]⟩]) (by simp [results,Tryz.results95,go_sem,q0,q1,q2,q3,q4,q5,q6]) rfl HPOST.out
 ·have HK:=hid h
  rw [h] at a0
  clear h
  obtain ⟨W9,hW9,hr9,hg9⟩:=seven_all HO.out.res (.int .i64 3) (.int .i64 0) (.int .i64 0) (.slice none 0 0) (.slice none 0 0) (.slice none 0 0) (.string ⟨#[]⟩)
  obtain ⟨q0,q1,q2,q3,q4,q5,q6,-⟩:=ty_cells hr9
  have HW9:=hid hW9
  have HPOST:Hid (OfPost K (d+1) q.v w (.returned (.agg #[.int .i64 3,.int .i64 0,.int .i64 0,.slice none 0 0,.slice none 0 0,.slice none 0 0,.string ⟨#[]⟩])) W9):=hid (by
   have hl:OfR q.v (.mk 3 (0) (0) [] [] [] ⟨#[]⟩):=of_leaf (show Prt 3 by unfold Prt;omega) (show (3:Int)≠8 by decide) (show (3:Int)≠10 by decide) (by show tells 3 q.v.k=true;rw [HK.out];rfl) (fun e=>absurd e (show (3:Int)≠4 by decide)) (fun e=>absurd e (show (3:Int)≠6 by decide))
   exact ⟨⟨.mk 3 (0) (0) [] [] [] ⟨#[]⟩,none,0,none,0,none,0⟩,rfl,ofK_leaf hl (show Prt 3 by unfold Prt;omega) (show (3:Int)≠8 by decide) (show (3:Int)≠10 by decide) rfl rfl,⟨wfT 3 (0) (0) (by decide) (by decide) (by decide) (by decide) (by decide) (by decide) _ _ _,.nil _ _,.nil _ _ _,.nil _ _ _⟩,HO.out.g.grown hg9 (by have:=HO.out.vlt;omega) (fun b e=>by have:=Option.some.inj e;omega)⟩)
  clear hW9 hr9 hg9 pf
  go_wp2_with fail
  rw [<-HW9.out]
  exact bodyPost_ret (v:=.agg #[.int .i64 3,.int .i64 0,.int .i64 0,.slice none 0 0,.slice none 0 0,.slice none 0 0,.string ⟨#[]⟩]) (by simp [results,Tryz.results95,go_sem,q0,q1,q2,q3,q4,q5,q6]) rfl HPOST.out
 ·have HK:=hid h
  rw [h] at a0
  clear h
  obtain ⟨W9,hW9,hr9,hg9⟩:=seven_all HO.out.res (.int .i64 4) (.int .i64 q.v.n) (.int .i64 q.v.n) (.slice none 0 0) (.slice none 0 0) (.slice none 0 0) (.string ⟨#[]⟩)
  obtain ⟨q0,q1,q2,q3,q4,q5,q6,-⟩:=ty_cells hr9
  have HW9:=hid hW9
  have HPOST:Hid (OfPost K (d+1) q.v w (.returned (.agg #[.int .i64 4,.int .i64 q.v.n,.int .i64 q.v.n,.slice none 0 0,.slice none 0 0,.slice none 0 0,.string ⟨#[]⟩])) W9):=hid (by
   have hl:OfR q.v (.mk 4 (q.v.n) (q.v.n) [] [] [] ⟨#[]⟩):=of_leaf (show Prt 4 by unfold Prt;omega) (show (4:Int)≠8 by decide) (show (4:Int)≠10 by decide) (by show tells 4 q.v.k=true;rw [HK.out];rfl) (fun e=>⟨rfl,rfl⟩) (fun e=>absurd e (show (4:Int)≠6 by decide))
   exact ⟨⟨.mk 4 (q.v.n) (q.v.n) [] [] [] ⟨#[]⟩,none,0,none,0,none,0⟩,rfl,ofK_leaf hl (show Prt 4 by unfold Prt;omega) (show (4:Int)≠8 by decide) (show (4:Int)≠10 by decide) rfl rfl,⟨wfT 4 (q.v.n) (q.v.n) (by decide) (by decide) HQ.out.wf.n0 HQ.out.wf.n1 HQ.out.wf.n0 HQ.out.wf.n1 _ _ _,.nil _ _,.nil _ _ _,.nil _ _ _⟩,HO.out.g.grown hg9 (by have:=HO.out.vlt;omega) (fun b e=>by have:=Option.some.inj e;omega)⟩)
  clear hW9 hr9 hg9 pf
  go_wp2_with fail
  rw [<-HW9.out]
  exact bodyPost_ret (v:=.agg #[.int .i64 4,.int .i64 q.v.n,.int .i64 q.v.n,.slice none 0 0,.slice none 0 0,.slice none 0 0,.string ⟨#[]⟩]) (by simp [results,Tryz.results95,go_sem,q0,q1,q2,q3,q4,q5,q6]) rfl HPOST.out
 ·have HK:=hid h
  rw [h] at a0
  clear h
  obtain ⟨W9,hW9,hr9,hg9⟩:=seven_all HO.out.res (.int .i64 5) (.int .i64 0) (.int .i64 0) (.slice none 0 0) (.slice none 0 0) (.slice none 0 0) (.string ⟨#[]⟩)
  obtain ⟨q0,q1,q2,q3,q4,q5,q6,-⟩:=ty_cells hr9
  have HW9:=hid hW9
  have HPOST:Hid (OfPost K (d+1) q.v w (.returned (.agg #[.int .i64 5,.int .i64 0,.int .i64 0,.slice none 0 0,.slice none 0 0,.slice none 0 0,.string ⟨#[]⟩])) W9):=hid (by
   have hl:OfR q.v (.mk 5 (0) (0) [] [] [] ⟨#[]⟩):=of_leaf (show Prt 5 by unfold Prt;omega) (show (5:Int)≠8 by decide) (show (5:Int)≠10 by decide) (by show tells 5 q.v.k=true;rw [HK.out];rfl) (fun e=>absurd e (show (5:Int)≠4 by decide)) (fun e=>absurd e (show (5:Int)≠6 by decide))
   exact ⟨⟨.mk 5 (0) (0) [] [] [] ⟨#[]⟩,none,0,none,0,none,0⟩,rfl,ofK_leaf hl (show Prt 5 by unfold Prt;omega) (show (5:Int)≠8 by decide) (show (5:Int)≠10 by decide) rfl rfl,⟨wfT 5 (0) (0) (by decide) (by decide) (by decide) (by decide) (by decide) (by decide) _ _ _,.nil _ _,.nil _ _ _,.nil _ _ _⟩,HO.out.g.grown hg9 (by have:=HO.out.vlt;omega) (fun b e=>by have:=Option.some.inj e;omega)⟩)
  clear hW9 hr9 hg9 pf
  go_wp2_with fail
  rw [<-HW9.out]
  exact bodyPost_ret (v:=.agg #[.int .i64 5,.int .i64 0,.int .i64 0,.slice none 0 0,.slice none 0 0,.slice none 0 0,.string ⟨#[]⟩]) (by simp [results,Tryz.results95,go_sem,q0,q1,q2,q3,q4,q5,q6]) rfl HPOST.out
 ·have HK:=hid h
  rw [h] at a0
  have hst:=(ownV_zero HG.out.1).2.1
  have hot:=(ownV_zero HG.out.1).2.2.2.2
  have HR:=hid (runesJ_any q.v.s w1 (HT.out.keep HO.out.g) (by omega) hot)
  have HRL:=hid (runeN_le hot hst)
  obtain ⟨rn,hrn⟩:∃ n,runeN q.v.s.data.toList=n:=⟨_,rfl⟩
  rw [hrn] at HR HRL
  have HRN:=hid hrn
  clear hrn hst hot
  go_wp2_with fail
  (with_reducible refine HR.out.mono ?_)
  rintro e w2 ⟨rfl,hb2⟩
  have HO2:=hid (HO.out.keep hb2)
  clear a0 a1 a2 a3 a4 a5 p0 p1 p2 p3 p4 p5 p6 pf pf0 pf1 pf2 pf3 pf4 pf5 pf6 HO hb2 HR
  have HO:=HO2
  clear HO2
  obtain ⟨p0,p1,p2,p3,p4,p5,p6,pf⟩:=ty_cells HO.out.res
  have pf0:=pf 0
  have pf1:=pf 1
  have pf2:=pf 2
  have pf3:=pf 3
  have pf4:=pf 4
  have pf5:=pf 5
  have pf6:=pf 6
  clear h
  obtain ⟨W9,hW9,hr9,hg9⟩:=seven_all HO.out.res (.int .i64 6) (.int .i64 (rn:Int)) (.int .i64 (rn:Int)) (.slice none 0 0) (.slice none 0 0) (.slice none 0 0) (.string ⟨#[]⟩)
  obtain ⟨q0,q1,q2,q3,q4,q5,q6,-⟩:=ty_cells hr9
  have HW9:=hid hW9
  have HPOST:Hid (OfPost K (d+1) q.v w (.returned (.agg #[.int .i64 6,.int .i64 (rn:Int),.int .i64 (rn:Int),.slice none 0 0,.slice none 0 0,.slice none 0 0,.string ⟨#[]⟩])) W9):=hid (by
   have hl:OfR q.v (.mk 6 ((rn:Int)) ((rn:Int)) [] [] [] ⟨#[]⟩):=of_leaf (show Prt 6 by unfold Prt;omega) (show (6:Int)≠8 by decide) (show (6:Int)≠10 by decide) (by show tells 6 q.v.k=true;rw [HK.out];rfl) (fun e=>absurd e (show (6:Int)≠4 by decide)) (fun e=>⟨by rw [HRN.out];rfl,by rw [HRN.out];rfl⟩)
   exact ⟨⟨.mk 6 ((rn:Int)) ((rn:Int)) [] [] [] ⟨#[]⟩,none,0,none,0,none,0⟩,rfl,ofK_leaf hl (show Prt 6 by unfold Prt;omega) (show (6:Int)≠8 by decide) (show (6:Int)≠10 by decide) rfl rfl,⟨wfT 6 ((rn:Int)) ((rn:Int)) (by decide) (by decide) (by omega) HRL.out (by omega) HRL.out _ _ _,.nil _ _,.nil _ _ _,.nil _ _ _⟩,HO.out.g.grown hg9 (by have:=HO.out.vlt;omega) (fun b e=>by have:=Option.some.inj e;omega)⟩)
  clear hW9 hr9 hg9 pf
  go_wp2_with fail
  rw [<-HW9.out]
  exact bodyPost_ret (v:=.agg #[.int .i64 6,.int .i64 (rn:Int),.int .i64 (rn:Int),.slice none 0 0,.slice none 0 0,.slice none 0 0,.string ⟨#[]⟩]) (by simp [results,Tryz.results95,go_sem,q0,q1,q2,q3,q4,q5,q6]) rfl HPOST.out
end Go.Proofs.YtgnonbdkmmkdgaaGreatDoor
