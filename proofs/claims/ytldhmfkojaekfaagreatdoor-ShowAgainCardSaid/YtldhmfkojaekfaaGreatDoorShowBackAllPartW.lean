/-
  Lemmas for the statement: plain laws, and what functions answer; the conditions stand in each.
-/
import Derived.Test.YtldhmfkojaekfaaGreatDoorProg
import Derived.Deep.Slices
import Derived.ChangeSame
import Derived.SizedLaws
import Derived.WideShapes
import Derived.Test.YtldhmfkojaekfaaGreatDoorShowBackAllPartV
set_option linter.unusedVariables false
set_option linter.unusedSimpArgs false
namespace Go.Proofs.YtldhmfkojaekfaaGreatDoor
open Go.RowKit Go.Deep Go.WideShapes
set_option maxRecDepth 100000
section
variable {H:Type} {enc:TypeId×Value->H} {w:World} {base:Nat} {spare:Nat->Bool} {held:Bool}
def wOk (t:TypeId) (d:DataW H):Prop:=∀ k∈d.weights Tryz.prog t,k<=reachBytes
theorem weightsAll_in {e:TypeId}:∀ {l:List (DataW H)} {d:DataW H},d∈l->∀ n∈d.weights Tryz.prog e,n∈DataW.weightsAll Tryz.prog e l
 | [],_,h,_,_=>by cases h
 | x::l,d,h,n,hn=>by
   unfold DataW.weightsAll
   rcases List.mem_cons.1 h with rfl|h
   ·exact List.mem_append_left _ hn
   ·exact List.mem_append_right _ (weightsAll_in h n hn)
theorem int_form {k:IntKind} {t:TypeId} (ht:Tryz.prog.underlying t=some (.int k)) {n:Nat} {c:Value} {x:DataW H×List MemPlace} (h:DataW.trod enc Tryz.prog w base spare held n t [c]=some x):∃ z,c=.int k z/\(Lit.int k z).wf=true:=by
 obtain ⟨z,h1,-,h2⟩:=DataW.trod_int ht h
 exact ⟨z,by simpa using h1,h2⟩
theorem str_form {t:TypeId} (ht:Tryz.prog.underlying t=some .string) {n:Nat} {c:Value} {x:DataW H×List MemPlace} (h:DataW.trod enc Tryz.prog w base spare held n t [c]=some x) (hw:wOk t x.1):∃ s,c=.string s/\s.size<=140737488351232:=by
 obtain ⟨s,h1,h2,-⟩:=DataW.trod_string ht h
 refine ⟨s,by simpa using h1,?_⟩
 rw [h2] at hw
 unfold wOk DataW.weights at hw
 exact hw s.data.toList.length (by simp)
theorem rows_open {t e:TypeId} {wd:Nat} (ht:Tryz.prog.underlying t=some (.slice e)) (hce:Tryz.prog.cellsOf e=wd) {n:Nat} {c:Value} {x:DataW H×List MemPlace} (h:DataW.trod enc Tryz.prog w base spare held n t [c]=some x) (hw:wOk t x.1)
 {α:Type} [Inhabited α] {R:List Value->α->Prop} (ih:∀ m cs y,m<n->DataW.trod enc Tryz.prog w base spare held m e cs=some y->wOk e y.1->∃ a,R cs a) :
 ∃ (ad:Option Addr) (cap:Nat) (xs:List α),c=.slice ad xs.length cap/\xs.length * Tryz.prog.bytesOf e<=140737488351232 /\
  (xs≠[]->∃ a:Addr,ad=some a/\∀ i y,xs[i]?=some y->∃ cs,R cs y/\cs.length=wd/\∀ j u,cs[j]?=some u->w.cell? (a.add (i * wd+j))=some u):=by
 rcases DataW.trod_slice ht h with ⟨h1,-⟩|⟨a,len,cap,elems,rest,m,rfl,h1,h2,-,hl,hm,hel,hi,-,-⟩
 ·exact ⟨none,0,[],by simpa using h1,by simp,fun h=>absurd rfl h⟩
 ·obtain rfl:c=.slice (some a) len cap:=by simpa using h1
  have hw1:∀ k∈(elems.length+rest.length) * Tryz.prog.bytesOf e::(DataW.weightsAll Tryz.prog e (elems.map (·.1))++DataW.weightsAll Tryz.prog e (rest.map (·.1))),k<=reachBytes:=by
   intro k hk
   refine hw k ?_
   rw [h2]
   unfold DataW.weights
   rw [ht]
   simpa using hk
  have hall:∀ i,i<len->∃ y:α,∃ cs,R cs y/\cs.length=wd/\∀ j u,cs[j]?=some u->w.cell? (a.add (i * wd+j))=some u:=by
   intro i hil
   have hb:=hi i hil
   have hlt:i<elems.length:=by omega
   rw [List.getElem?_eq_getElem hlt] at hb
   obtain ⟨cs,hcs,htr⟩:=Option.bind_eq_some_iff.1 hb
   obtain ⟨y,hy⟩:=ih m cs _ (by omega) htr (fun k hk=>hw1 k (List.mem_cons_of_mem _ (List.mem_append_left _ (weightsAll_in (List.mem_map_of_mem (List.getElem_mem hlt)) k hk))))
   rw [hce] at hcs
   obtain ⟨_,hlen,hcell⟩:=World.cells?_some hcs
   refine ⟨y,cs,hy,hlen,fun j u hj=>?_⟩
   have hjl:j<cs.length:=(List.getElem?_eq_some_iff.1 hj).1
   have:=hcell j (by omega)
   rw [add_add] at this
   rw [this,hj]
  obtain ⟨F,hF⟩:=choose_lt hall
  have hg:∀ j p,((List.range len).map F)[j]?=some p->j<len/\p=F j:=by
   intro j p hj
   rw [List.getElem?_map] at hj
   by_cases hjl:j<len
   ·rw [List.getElem?_range hjl] at hj
    simp at hj
    exact ⟨hjl,hj.symm⟩
   ·rw [List.getElem?_eq_none (by simp;omega)] at hj
    cases hj
  refine ⟨some a,cap,(List.range len).map F,by simp,?_,fun _=>⟨a,rfl,fun i y hy=>?_⟩⟩
  ·have:=hw1 _ (List.mem_cons_self)
   rw [List.length_map,List.length_range]
   have h3:len * Tryz.prog.bytesOf e<=(elems.length+rest.length) * Tryz.prog.bytesOf e:=Nat.mul_le_mul_right _ (by omega)
   have h4:reachBytes=140737488351232:=rfl
   omega
  ·obtain ⟨h5,rfl⟩:=hg i y hy
   exact hF i h5
theorem Tryz.bytes_value:Tryz.prog.bytesOf 26=88:=by kernel_rfl
theorem Tryz.bytes_entry:Tryz.prog.bytesOf 44=104:=by kernel_rfl
theorem val_struct {n:Nat} {cs:List Value} {x:DataW H×List MemPlace} (h:DataW.trod enc Tryz.prog w base spare held n 26 cs=some x) (hw:wOk 26 x.1) :
 ∃ (m:Nat) (k nn f:Int) (s:ByteArray) (cl ce:Value) (yl ye:DataW H×List MemPlace),n=m+1/\cs=[.int .i64 k,.int .i64 nn,.int .u64 f,.string s,cl,ce]/\(Lit.int .i64 k).wf=true/\(Lit.int .i64 nn).wf=true/\(Lit.int .u64 f).wf=true/\s.size<=140737488351232 /\
  DataW.trod enc Tryz.prog w base spare held m 23 [cl]=some yl/\wOk 23 yl.1/\DataW.trod enc Tryz.prog w base spare held m 24 [ce]=some ye/\wOk 24 ye.1:=by
 obtain ⟨xs,m,rfl,hxy,hlen,hxl,hf⟩:=DataW.trod_struct Tryz.underlying26 h
 have c6:Tryz.prog.cellsOf 26=6:=by kernel_rfl
 rw [c6] at hlen
 have k0:Tryz.prog.cellsOf 3=1:=by kernel_rfl
 have k1:Tryz.prog.cellsOf 2=1:=by kernel_rfl
 have k2:Tryz.prog.cellsOf 22=1:=by kernel_rfl
 have k3:Tryz.prog.cellsOf 9=1:=by kernel_rfl
 have k4:Tryz.prog.cellsOf 23=1:=by kernel_rfl
 have k5:Tryz.prog.cellsOf 24=1:=by kernel_rfl
 match xs,hxl,cs,hlen with
 | [y0,y1,y2,y3,y4,y5],_,[v0,v1,v2,v3,v4,v5],_ =>
   have g0:=hf 0 _ rfl
   have g1:=hf 1 _ rfl
   have g2:=hf 2 _ rfl
   have g3:=hf 3 _ rfl
   have g4:=hf 4 _ rfl
   have g5:=hf 5 _ rfl
   simp only [k0,k1,k2,k3,k4,k5,List.drop,List.take,List.getElem?_cons_zero,List.getElem?_cons_succ] at g0 g1 g2 g3 g4 g5
   have hx1:x.1=.agg [y0.1,y1.1,y2.1,y3.1,y4.1,y5.1]:=by rw [hxy];rfl
   have hww:∀ k∈y0.1.weights Tryz.prog 3++(y1.1.weights Tryz.prog 2++(y2.1.weights Tryz.prog 22++(y3.1.weights Tryz.prog 9++(y4.1.weights Tryz.prog 23++(y5.1.weights Tryz.prog 24++[]))))),k<=reachBytes:=by
    intro k hk
    refine hw k ?_
    rw [hx1]
    unfold DataW.weights
    rw [Tryz.underlying26]
    exact hk
   obtain ⟨z0,rfl,w0⟩:=int_form Tryz.underlying3 g0
   obtain ⟨z1,rfl,w1⟩:=int_form Tryz.underlying2 g1
   obtain ⟨z2,rfl,w2⟩:=int_form Tryz.underlying22 g2
   obtain ⟨z3,rfl,w3⟩:=str_form Tryz.underlying9 g3 (fun k hk=>hww k (by simp [hk]))
   exact ⟨m,z0,z1,z2,z3,v4,v5,y4,y5,rfl,rfl,w0,w1,w2,w3,g4,fun k hk=>hww k (by simp [hk]),g5,fun k hk=>hww k (by simp [hk])⟩
theorem ent_struct {n:Nat} {cs:List Value} {x:DataW H×List MemPlace} (h:DataW.trod enc Tryz.prog w base spare held n 44 cs=some x) (hw:wOk 44 x.1) :
 ∃ (m:Nat) (s:ByteArray) (cs':List Value) (y:DataW H×List MemPlace),n=m+1/\cs=.string s::cs'/\s.size<=140737488351232/\DataW.trod enc Tryz.prog w base spare held m 26 cs'=some y/\wOk 26 y.1:=by
 obtain ⟨xs,m,rfl,hxy,hlen,hxl,hf⟩:=DataW.trod_struct Tryz.underlying44 h
 have c7:Tryz.prog.cellsOf 44=7:=by kernel_rfl
 rw [c7] at hlen
 have k3:Tryz.prog.cellsOf 9=1:=by kernel_rfl
 have k6:Tryz.prog.cellsOf 26=6:=by kernel_rfl
 match xs,hxl,cs,hlen with
 | [y0,y1],_,[v0,v1,v2,v3,v4,v5,v6],_ =>
   have g0:=hf 0 _ rfl
   have g1:=hf 1 _ rfl
   simp only [k3,k6,List.drop,List.take,List.getElem?_cons_zero,List.getElem?_cons_succ] at g0 g1
   have hx1:x.1=.agg [y0.1,y1.1]:=by rw [hxy];rfl
   have hww:∀ k∈y0.1.weights Tryz.prog 9++(y1.1.weights Tryz.prog 26++[]),k<=reachBytes:=by
    intro k hk
    refine hw k ?_
    rw [hx1]
    unfold DataW.weights
    rw [Tryz.underlying44]
    exact hk
   obtain ⟨z3,rfl,w3⟩:=str_form Tryz.underlying9 g0 (fun k hk=>hww k (by simp [hk]))
   exact ⟨m,z3,_,y1,rfl,rfl,w3,g1,fun k hk=>hww k (by simp [hk])⟩
theorem row_of {t:Bool} {ad:Option Addr} {cap:Nat} (xs:List (ByteArray×Loc)) (hb:xs.length * (st t * 16 - 8)<=140737488351232)
 (h:xs≠[]->∃ a:Addr,ad=some a/\∀ i y,xs[i]?=some y->VAt w (fun _=>True) y.2/\(t=true->y.1.size<=140737488351232)/\∀ j u,((if t then [Value.string y.1] else [])++y.2.cs)[j]?=some u->w.cell? (a.add (i * st t+j))=some u) :
 RowAt w (fun _=>True) t (xs.map fun y=>(y.1,y.2.v)) (.slice ad xs.length cap):=by
 by_cases h0:xs=[]
 ·subst h0;exact .nil _ _ _
 ·obtain ⟨a,rfl,hall⟩:=h h0
  have hpos:0<xs.length:=List.length_pos_iff.2 h0
  obtain ⟨y0,hy0⟩:∃ y0,xs[0]?=some y0:=⟨_,List.getElem?_eq_getElem hpos⟩
  have hc0:∃ u,w.cell? (a.add (0 * st t+0))=some u:=by
   cases t with
   | true=>exact ⟨_,(hall 0 y0 hy0).2.2 0 (.string y0.1) rfl⟩
   | false=>exact ⟨_,(hall 0 y0 hy0).2.2 0 (.int .i64 y0.2.v.k) rfl⟩
  obtain ⟨u0,hu0⟩:=hc0
  have hspot:a.spot=none:=by
   have:=World.cell?_spot hu0
   simpa [Addr.add] using this
  obtain ⟨b,off,spot⟩:=a
  simp only at hspot
  subst hspot
  have hlt:b<w.heap.size:=World.block_lt_of_cell? w ⟨b,off+(0 * st t+0),none⟩ (by rw [Addr.add_lit] at hu0;exact hu0)
  have hl:(xs.map fun y=>(y.1,y.2.v)).length=xs.length:=by simp
  rw [<-hl]
  have hget:∀ i x,(xs.map fun y=>(y.1,y.2.v))[i]?=some x->∃ y,xs[i]?=some y/\x=(y.1,y.2.v)/\(xs.getD i default)=y:=fun i x hi=>by
   rw [List.getElem?_map] at hi
   obtain ⟨y,h1,rfl⟩:=Option.map_eq_some_iff.1 hi
   exact ⟨y,h1,rfl,by simp [List.getD,h1]⟩
  refine .row t _ b off cap (fun i=>(xs.getD i default).2.sl) (fun i=>(xs.getD i default).2.se) (by simpa using h0) (by rw [hl];exact hb) trivial hlt (fun ht i x hi=>?_) (fun i x hi=>?_) (fun i x hi=>?_) (fun i x hi=>?_)
  ·obtain ⟨y,h1,rfl,-⟩:=hget i x hi
   subst ht
   obtain ⟨-,h2,h3⟩:=hall i y h1
   have:=h3 0 (.string y.1) rfl
   rw [Addr.add_lit] at this
   exact ⟨this,h2 rfl⟩
  ·obtain ⟨y,h1,rfl,h4⟩:=hget i x hi
   obtain ⟨hv,-,h3⟩:=hall i y h1
   have hcell:∀ j u,y.2.cs[j]?=some u->w.cell? ⟨b,off+i * st t+fd t+j,none⟩=some u:=fun j u hj=>by
    cases t with
    | true =>
      have:=h3 (j+1) u (by simpa using hj)
      rw [Addr.add_lit] at this
      rw [show off+i * st true+fd true+j=off+(i * st true+(j+1)) by simp [fd];omega]
      exact this
    | false =>
      have:=h3 j u (by simpa using hj)
      rw [Addr.add_lit] at this
      rw [show off+i * st false+fd false+j=off+(i * st false+j) by simp [fd];omega]
      exact this
   simp only [h4]
   exact ⟨hv.wf,hcell 0 _ rfl,hcell 1 _ rfl,hcell 2 _ rfl,hcell 3 _ rfl,hcell 4 _ rfl,hcell 5 _ rfl⟩
  ·obtain ⟨y,h1,rfl,h4⟩:=hget i x hi
   simp only [h4]
   exact (hall i y h1).1.l
  ·obtain ⟨y,h1,rfl,h4⟩:=hget i x hi
   simp only [h4]
   exact (hall i y h1).1.e
theorem wf_of {k nn f:Int} {s:ByteArray} {l:List V} {e:List (ByteArray×V)} (h1:(Lit.int .i64 k).wf=true) (h2:(Lit.int .i64 nn).wf=true) (h3:(Lit.int .u64 f).wf=true) (h4:s.size<=140737488351232):(V.mk k nn f s l e).wf:=by
 simp [Lit.wf,IntKind.min,IntKind.max,IntKind.signed,IntKind.bits] at h1 h2 h3
 exact ⟨h1.1,h1.2,h2.1,h2.2,h3.1,h3.2,h4⟩
theorem val_open:∀ (n:Nat) (cs:List Value) (x:DataW H×List MemPlace),DataW.trod enc Tryz.prog w base spare held n 26 cs=some x->wOk 26 x.1->∃ q:Loc,cs=q.cs/\VAt w (fun _=>True) q:=by
 intro n
 induction n using Nat.strongRecOn with
 | ind n ih =>
   intro cs x h hw
   obtain ⟨m,k,nn,f,s,cl,ce,yl,ye,rfl,rfl,w1,w2,w3,hs,hl,hwl,he,hwe⟩:=val_struct h hw
   obtain ⟨ad,cap,ls,rfl,hlb,hlc⟩:=rows_open (wd:=6) (R:=fun cs (q:Loc)=>cs=q.cs/\VAt w (fun _=>True) q) Tryz.underlying23 (by kernel_rfl) hl hwl (fun m' cs y hm h1 h2=>ih m' (by omega) cs y h1 h2)
   obtain ⟨bd,dap,es,rfl,heb,hec⟩:=rows_open (wd:=7) (R:=fun cs (q:ByteArray×Loc)=>cs=.string q.1::q.2.cs/\q.1.size<=140737488351232/\VAt w (fun _=>True) q.2) Tryz.underlying24 (by kernel_rfl) he hwe (fun m' cs y hm h1 h2=>by
    obtain ⟨m2,s2,cs2,y2,rfl,rfl,hs2,h3,h4⟩:=ent_struct h1 h2
    obtain ⟨q,rfl,hv⟩:=ih m2 (by omega) _ _ h3 h4
    exact ⟨(s2,q),rfl,hs2,hv⟩)
   rw [Tryz.bytes_value] at hlb
   rw [Tryz.bytes_entry] at heb
   have r1:=row_of (w:=w) (t:=false) (ad:=ad) (cap:=cap) (ls.map fun q=>((⟨#[]⟩:ByteArray),q)) (by simpa [st] using hlb) (fun hne=>by
    obtain ⟨a,rfl,hall⟩:=hlc (by intro e;rw [e] at hne;exact hne rfl)
    refine ⟨a,rfl,fun i y hi=>?_⟩
    rw [List.getElem?_map] at hi
    obtain ⟨q,hq,rfl⟩:=Option.map_eq_some_iff.1 hi
    obtain ⟨cs,⟨rfl,hv⟩,-,hc⟩:=hall i q hq
    exact ⟨hv,(fun h=>(by cases h)),fun j u hj=>hc j u (by simpa using hj)⟩)
   have r2:=row_of (w:=w) (t:=true) (ad:=bd) (cap:=dap) es (by simp only [st,if_true];omega) (fun hne=>by
    obtain ⟨a,rfl,hall⟩:=hec hne
    refine ⟨a,rfl,fun i y hi=>?_⟩
    obtain ⟨cs,⟨rfl,hk,hv⟩,-,hc⟩:=hall i y hi
    exact ⟨hv,fun _=>hk,fun j u hj=>hc j u (by simpa using hj)⟩)
   rw [List.length_map,List.map_map] at r1
   refine ⟨⟨.mk k nn f s (ls.map (·.v)) (es.map fun y=>(y.1,y.2.v)),ad,cap,bd,dap⟩,by simp [Loc.cs,V.k,V.n,V.f,V.s,V.l,V.e],wf_of w1 w2 w3 hs,?_,?_⟩
   ·show RowAt w _ false (lp (ls.map (·.v))) (.slice ad (ls.map (·.v)).length cap)
    rw [List.length_map,lp,List.map_map]
    exact r1
   ·show RowAt w _ true (es.map fun y=>(y.1,y.2.v)) (.slice bd (es.map fun y=>(y.1,y.2.v)).length dap)
    rw [List.length_map]
    exact r2
theorem val_arg {r:Reach} {b0:Nat} {v:Value} {d:DataW H} {p:List MemPlace} (hv:Value.okWide Tryz.prog w r b0 26 v) (h:DataW.Trod enc Tryz.prog w base spare held 26 v d p) (hw:wOk 26 d) :
 ∃ q:Loc,v=q.val/\VAt w (fun _=>True) q:=by
 obtain ⟨cs,rfl,-⟩:=okWide_struct Tryz.underlying26 hv
 obtain ⟨n,hn⟩:=h
 obtain ⟨q,hq,hvq⟩:=val_open n _ _ hn hw
 refine ⟨q,?_,hvq⟩
 have:cs.toList=q.cs:=hq
 have e:cs=q.cs.toArray:=by rw [<-this]
 rw [e];rfl
end
end Go.Proofs.YtldhmfkojaekfaaGreatDoor
