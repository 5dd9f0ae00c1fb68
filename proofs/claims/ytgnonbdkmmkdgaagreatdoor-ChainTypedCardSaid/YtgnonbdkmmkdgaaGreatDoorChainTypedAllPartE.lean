/-
  Lemmas for the statement: plain laws, and what functions answer; the conditions stand in each.
-/
import Derived.RangeFuncNested
import Derived.RangeFuncBound
import Derived.RangeFuncCalls
import Derived.RangeFuncLeaves
import Derived.Shelf.Abstract
import Derived.Shelf.RegionOpen
import Derived.WalkKit
import Derived.OwnWalkIn
import Derived.TacticsInMore
import Derived.LoopNIn
import Derived.LoopIn
import Derived.Outline
import Derived.Test.YtgnonbdkmmkdgaaGreatDoorProg
import Derived.Lib.OthersKept
import Derived.WalkLawsBesides
import Derived.Deep.DeepFit
import Derived.Test.YtgnonbdkmmkdgaaGreatDoorChainTypedAllPartD
set_option linter.unusedVariables false
set_option linter.unusedSimpArgs false
set_option maxHeartbeats 16000000
set_option maxRecDepth 100000
open Go.Lib (hid)
namespace Go.Proofs.YtgnonbdkmmkdgaaGreatDoor
open Go.RowKit Go.Deep Go.WideShapes Gx
section
variable {H:Type} {enc:TypeId×Value->H} {w:World} {base:Nat} {spare:Nat->Bool} {held:Bool}
theorem bool_form {t:TypeId} (ht:Tryz.prog.underlying t=some .bool) {n:Nat} {c:Value} {x:DataW H×List MemPlace} (h:DataW.trod enc Tryz.prog w base spare held n t [c]=some x):∃ b,c=.bool b:=by
 obtain ⟨b,h1,-⟩:=DataW.trod_bool ht h
 exact ⟨b,by simpa using h1⟩
theorem spot_of {a:Addr} {i:Nat} {u:Value} (h:w.cell? (a.add i)=some u) (h0:i=0:=by simp):∃ b o,a=⟨b,o,none⟩/\b<w.heap.size:=by
 subst h0
 have hs:a.spot=none:=by
  have:=World.cell?_spot h
  simpa [Addr.add] using this
 obtain ⟨b,o,spot⟩:=a
 simp only at hs
 subst hs
 exact ⟨b,o,rfl,World.block_lt_of_cell? w ⟨b,o+0,none⟩ (by rw [Addr.add_lit] at h;exact h)⟩
theorem texts_open {n:Nat} {c:Value} {x:DataW H×List MemPlace} (h:DataW.trod enc Tryz.prog w base spare held n 23 [c]=some x) (hw:wOk 23 x.1) :
 ∃ (ad:Option Addr) (cap:Nat) (xs:List ByteArray),c=.slice ad xs.length cap/\SRow w (fun _=>True) xs (.slice ad xs.length cap)/\xs.length<=cap/\cap<=9223372036854775807:=by
 obtain ⟨ad,cap,xs,rfl,hb,⟨h1,h2,-⟩,hc⟩:=rows_open (wd:=1) (R:=fun cs (s:ByteArray)=>cs=[.string s]/\s.size<=140737488351232) Tryz.underlying23 (by kernel_rfl) h hw (fun m' cs y hm h1 h2=>by
  obtain ⟨s,hs,hxy,-⟩:=DataW.trod_string Tryz.underlying9 h1
  subst hs
  obtain ⟨s',h3,h4⟩:=str_form Tryz.underlying9 h1 h2
  obtain rfl:s=s':=by simpa using h3
  exact ⟨s,rfl,h4⟩)
 refine ⟨ad,cap,xs,rfl,?_,h1,h2⟩
 have hbs:Tryz.prog.bytesOf 9=16:=by kernel_rfl
 rw [hbs] at hb
 by_cases h0:xs=[]
 ·subst h0;exact .nil _ _
 ·obtain ⟨a,rfl,hall⟩:=hc h0
  have hcell:∀ i y,xs[i]?=some y->w.cell? (a.add i)=some (.string y)/\y.size<=140737488351232:=fun i y hi=>by
   obtain ⟨cs,⟨rfl,hk⟩,-,hcl⟩:=hall i y hi
   have:=hcl 0 _ rfl
   rw [Nat.mul_one,Nat.add_zero] at this
   exact ⟨this,hk⟩
  obtain ⟨y0,hy0⟩:∃ y0,xs[0]?=some y0:=⟨_,List.getElem?_eq_getElem (List.length_pos_iff.2 h0)⟩
  obtain ⟨b,o,rfl,hlt⟩:=spot_of (hcell 0 y0 hy0).1
  exact .row xs b o cap h0 hb trivial hlt (fun i y hi=>by have:=hcell i y hi;rw [Addr.add_lit] at this;exact this)
theorem Tryz.bytes_type:Tryz.prog.bytesOf 27=112:=by kernel_rfl
theorem Tryz.bytes_field:Tryz.prog.bytesOf 65=224:=by kernel_rfl
theorem trow_of {t:Bool} {ad:Option Addr} {cap:Nat} (ps:List Ft) (hb:ps.length * 112<=140737488351232)
 (h:ps≠[]->∃ a:Addr,ad=some a/\∀ i p,ps[i]?=some p->TyAt w (fun _=>True) p.t/\VAt w (fun _=>True) p.d/\p.n.size<=140737488351232/\∀ j u,(cellsF t p)[j]?=some u->w.cell? (a.add (i * sw t+j))=some u) :
 TRow w (fun _=>True) t (ps.map Ft.fd) (.slice ad ps.length cap):=by
 by_cases h0:ps=[]
 ·subst h0;exact .nil _ _ _
 ·obtain ⟨a,rfl,hall⟩:=h h0
  obtain ⟨y0,hy0⟩:∃ y0,ps[0]?=some y0:=⟨_,List.getElem?_eq_getElem (List.length_pos_iff.2 h0)⟩
  have hc0:∃ u,w.cell? (a.add (0 * sw t+0))=some u:=by
   cases t with
   | true=>exact ⟨_,(hall 0 y0 hy0).2.2.2 0 (.string y0.n) rfl⟩
   | false=>exact ⟨_,(hall 0 y0 hy0).2.2.2 0 (.int .i64 y0.t.v.k) rfl⟩
  obtain ⟨u0,hu0⟩:=hc0
  obtain ⟨b,off,rfl,hlt⟩:=spot_of hu0
  have hl:(ps.map Ft.fd).length=ps.length:=List.length_map _
  rw [<-hl]
  have hget:∀ i x,(ps.map Ft.fd)[i]?=some x->∃ y,ps[i]?=some y/\y.fd=x/\(ps.getD i ⟨⟨#[]⟩,false,false,default,default⟩)=y:=fun i x hi=>by
   rw [List.getElem?_map] at hi
   obtain ⟨y,h1,h2⟩:=Option.map_eq_some_iff.1 hi
   exact ⟨y,h1,h2,by simp [List.getD,h1]⟩
  have hcell:∀ i y,ps[i]?=some y->∀ j u,(cellsF t y)[j]?=some u->w.cell? ⟨b,off+i * sw t+j,none⟩=some u:=fun i y hi j u hj=>by
   have:=(hall i y hi).2.2.2 j u hj
   rw [Addr.add_lit] at this
   rw [Nat.add_assoc];exact this
  refine .row t _ b off cap (fun i=>.slice (ps.getD i ⟨⟨#[]⟩,false,false,default,default⟩).t.xd (ps.getD i ⟨⟨#[]⟩,false,false,default,default⟩).t.v.x.length (ps.getD i ⟨⟨#[]⟩,false,false,default,default⟩).t.xc)
   (fun i=>.slice (ps.getD i ⟨⟨#[]⟩,false,false,default,default⟩).t.td (ps.getD i ⟨⟨#[]⟩,false,false,default,default⟩).t.v.t.length (ps.getD i ⟨⟨#[]⟩,false,false,default,default⟩).t.tc)
   (fun i=>.slice (ps.getD i ⟨⟨#[]⟩,false,false,default,default⟩).t.fd (ps.getD i ⟨⟨#[]⟩,false,false,default,default⟩).t.v.f.length (ps.getD i ⟨⟨#[]⟩,false,false,default,default⟩).t.fc)
   (fun i=>.slice (ps.getD i ⟨⟨#[]⟩,false,false,default,default⟩).d.ad (ps.getD i ⟨⟨#[]⟩,false,false,default,default⟩).d.v.l.length (ps.getD i ⟨⟨#[]⟩,false,false,default,default⟩).d.cap)
   (fun i=>.slice (ps.getD i ⟨⟨#[]⟩,false,false,default,default⟩).d.bd (ps.getD i ⟨⟨#[]⟩,false,false,default,default⟩).d.v.e.length (ps.getD i ⟨⟨#[]⟩,false,false,default,default⟩).d.dap)
   (by simpa using h0) (by rw [hl];exact hb) trivial hlt (fun ht i x hi=>?_) (fun ht i x hi=>?_) (fun i x hi=>?_) (fun i x hi=>?_) (fun i x hi=>?_) (fun i x hi=>?_) (fun ht i x hi=>?_) (fun ht i x hi=>?_)
  ·obtain ⟨y,h1,rfl,-⟩:=hget i x hi
   subst ht
   exact ⟨⟨hcell i y h1 0 _ rfl,(hall i y h1).2.2.1⟩,hcell i y h1 1 _ rfl,hcell i y h1 2 _ rfl⟩
  ·obtain ⟨y,h1,rfl,h4⟩:=hget i x hi
   subst ht
   simp only [h4]
   exact ⟨(hall i y h1).2.1.wf,hcell i y h1 10 _ rfl,hcell i y h1 11 _ rfl,hcell i y h1 12 _ rfl,hcell i y h1 13 _ rfl,hcell i y h1 14 _ rfl,hcell i y h1 15 _ rfl⟩
  ·obtain ⟨y,h1,rfl,h4⟩:=hget i x hi
   simp only [h4]
   refine ⟨(hall i y h1).1.wf,?_⟩
   cases t with
   | false=>exact ⟨hcell i y h1 0 _ rfl,hcell i y h1 1 _ rfl,hcell i y h1 2 _ rfl,hcell i y h1 3 _ rfl,hcell i y h1 4 _ rfl,hcell i y h1 5 _ rfl,hcell i y h1 6 _ rfl⟩
   | true=>exact ⟨hcell i y h1 3 _ rfl,hcell i y h1 4 _ rfl,hcell i y h1 5 _ rfl,hcell i y h1 6 _ rfl,hcell i y h1 7 _ rfl,hcell i y h1 8 _ rfl,hcell i y h1 9 _ rfl⟩
  ·obtain ⟨y,h1,rfl,h4⟩:=hget i x hi
   simp only [h4]
   exact (hall i y h1).1.x
  ·obtain ⟨y,h1,rfl,h4⟩:=hget i x hi
   simp only [h4]
   exact (hall i y h1).1.t
  ·obtain ⟨y,h1,rfl,h4⟩:=hget i x hi
   simp only [h4]
   exact (hall i y h1).1.f
  ·obtain ⟨y,h1,rfl,h4⟩:=hget i x hi
   simp only [h4]
   exact (hall i y h1).2.1.l
  ·obtain ⟨y,h1,rfl,h4⟩:=hget i x hi
   simp only [h4]
   exact (hall i y h1).2.1.e
theorem c1s:Tryz.prog.cellsOf 3=1/\Tryz.prog.cellsOf 2=1/\Tryz.prog.cellsOf 4=1/\Tryz.prog.cellsOf 9=1/\Tryz.prog.cellsOf 23=1/\Tryz.prog.cellsOf 24=1/\Tryz.prog.cellsOf 25=1/\Tryz.prog.cellsOf 49=1/\Tryz.prog.cellsOf 32=6/\Tryz.prog.cellsOf 27=7 :=
 ⟨by kernel_rfl,by kernel_rfl,by kernel_rfl,by kernel_rfl,by kernel_rfl,by kernel_rfl,by kernel_rfl,by kernel_rfl,by kernel_rfl,by kernel_rfl⟩
theorem ty_struct {n:Nat} {cs:List Value} {x:DataW H×List MemPlace} (h:DataW.trod enc Tryz.prog w base spare held n 27 cs=some x) (hw:wOk 27 x.1) :
 ∃ (m:Nat) (k lo hi:Int) (cx ct cf:Value) (s:ByteArray) (yx yt yf:DataW H×List MemPlace),n=m+1/\cs=[.int .i64 k,.int .i64 lo,.int .i64 hi,cx,ct,cf,.string s]/\(Lit.int .i64 k).wf=true/\(Lit.int .i64 lo).wf=true/\(Lit.int .i64 hi).wf=true/\s.size<=140737488351232 /\
  DataW.trod enc Tryz.prog w base spare held m 23 [cx]=some yx/\wOk 23 yx.1/\DataW.trod enc Tryz.prog w base spare held m 24 [ct]=some yt/\wOk 24 yt.1/\DataW.trod enc Tryz.prog w base spare held m 25 [cf]=some yf/\wOk 25 yf.1:=by
 obtain ⟨xs,m,rfl,hxy,hlen,hxl,hf⟩:=DataW.trod_struct Tryz.underlying27 h
 obtain ⟨k0,k1,-,k3,k4,k5,k6,-,-,k7⟩:=c1s
 rw [k7] at hlen
 match xs,hxl,cs,hlen with
 | [y0,y1,y2,y3,y4,y5,y6],_,[v0,v1,v2,v3,v4,v5,v6],_ =>
   have g0:=hf 0 _ rfl
   have g1:=hf 1 _ rfl
   have g2:=hf 2 _ rfl
   have g3:=hf 3 _ rfl
   have g4:=hf 4 _ rfl
   have g5:=hf 5 _ rfl
   have g6:=hf 6 _ rfl
   simp only [k0,k1,k3,k4,k5,k6,List.drop,List.take,List.getElem?_cons_zero,List.getElem?_cons_succ] at g0 g1 g2 g3 g4 g5 g6
   have hx1:x.1=.agg [y0.1,y1.1,y2.1,y3.1,y4.1,y5.1,y6.1]:=by rw [hxy];rfl
   have hww:∀ k∈y0.1.weights Tryz.prog 3++(y1.1.weights Tryz.prog 2++(y2.1.weights Tryz.prog 2++(y3.1.weights Tryz.prog 23++(y4.1.weights Tryz.prog 24++(y5.1.weights Tryz.prog 25++(y6.1.weights Tryz.prog 9++[])))))),k<=reachBytes:=by
    intro k hk
    refine hw k ?_
    rw [hx1]
    unfold DataW.weights
    rw [Tryz.underlying27]
    exact hk
   obtain ⟨z0,rfl,w0⟩:=int_form Tryz.underlying3 g0
   obtain ⟨z1,rfl,w1⟩:=int_form Tryz.underlying2 g1
   obtain ⟨z2,rfl,w2⟩:=int_form Tryz.underlying2 g2
   obtain ⟨z6,rfl,w6⟩:=str_form Tryz.underlying9 g6 (fun k hk=>hww k (by simp [hk]))
   exact ⟨m,z0,z1,z2,v3,v4,v5,z6,y3,y4,y5,rfl,rfl,w0,w1,w2,w6,g3,fun k hk=>hww k (by simp [hk]),g4,fun k hk=>hww k (by simp [hk]),g5,fun k hk=>hww k (by simp [hk])⟩
theorem fd_struct {n:Nat} {cs:List Value} {x:DataW H×List MemPlace} (h:DataW.trod enc Tryz.prog w base spare held n 65 cs=some x) (hw:wOk 65 x.1) :
 ∃ (m:Nat) (s:ByteArray) (o d:Bool) (ct cv:List Value) (yt yv:DataW H×List MemPlace),n=m+1/\cs=.string s::.bool o::.bool d::(ct++cv)/\s.size<=140737488351232 /\
  DataW.trod enc Tryz.prog w base spare held m 27 ct=some yt/\wOk 27 yt.1/\DataW.trod enc Tryz.prog w base spare held m 32 cv=some yv/\wOk 32 yv.1:=by
 obtain ⟨xs,m,rfl,hxy,hlen,hxl,hf⟩:=DataW.trod_struct Tryz.underlying65 h
 obtain ⟨-,-,k2,k3,-,-,-,-,k6,k7⟩:=c1s
 have k16:Tryz.prog.cellsOf 65=16:=by kernel_rfl
 rw [k16] at hlen
 match xs,hxl,cs,hlen with
 | [y0,y1,y2,y3,y4],_,[v0,v1,v2,v3,v4,v5,v6,v7,v8,v9,v10,v11,v12,v13,v14,v15],_ =>
   have g0:=hf 0 _ rfl
   have g1:=hf 1 _ rfl
   have g2:=hf 2 _ rfl
   have g3:=hf 3 _ rfl
   have g4:=hf 4 _ rfl
   simp only [k2,k3,k6,k7,List.drop,List.take,List.getElem?_cons_zero,List.getElem?_cons_succ] at g0 g1 g2 g3 g4
   have hx1:x.1=.agg [y0.1,y1.1,y2.1,y3.1,y4.1]:=by rw [hxy];rfl
   have hww:∀ k∈y0.1.weights Tryz.prog 9++(y1.1.weights Tryz.prog 4++(y2.1.weights Tryz.prog 4++(y3.1.weights Tryz.prog 27++(y4.1.weights Tryz.prog 32++[])))),k<=reachBytes:=by
    intro k hk
    refine hw k ?_
    rw [hx1]
    unfold DataW.weights
    rw [Tryz.underlying65]
    exact hk
   obtain ⟨z0,rfl,w0⟩:=str_form Tryz.underlying9 g0 (fun k hk=>hww k (by simp [hk]))
   obtain ⟨z1,rfl⟩:=bool_form Tryz.underlying4 g1
   obtain ⟨z2,rfl⟩:=bool_form Tryz.underlying4 g2
   exact ⟨m,z0,z1,z2,_,_,y3,y4,rfl,rfl,w0,g3,fun k hk=>hww k (by simp [hk]),g4,fun k hk=>hww k (by simp [hk])⟩
theorem i64_of {k:Int} (h:(Lit.int .i64 k).wf=true):-9223372036854775808<=k/\k<=9223372036854775807:=by
 simp [Lit.wf,IntKind.min,IntKind.max,IntKind.signed,IntKind.bits] at h
 exact h
theorem ty_open:∀ (n:Nat) (cs:List Value) (x:DataW H×List MemPlace),DataW.trod enc Tryz.prog w base spare held n 27 cs=some x->wOk 27 x.1->∃ q:Lt,cs=q.cs/\TyAt w (fun _=>True) q:=by
 intro n
 induction n using Nat.strongRecOn with
 | ind n ih =>
   intro cs x h hw
   obtain ⟨m,k,lo,hi,cx,ct,cf,s,yx,yt,yf,rfl,rfl,w0,w1,w2,hs,hx,hwx,ht,hwt,hf,hwf⟩:=ty_struct h hw
   obtain ⟨xd,xc,xs,rfl,hxr,-,-⟩:=texts_open hx hwx
   obtain ⟨td,tc,ts,rfl,htb,-,htc⟩:=rows_open (wd:=7) (R:=fun cs (q:Lt)=>cs=q.cs/\TyAt w (fun _=>True) q) Tryz.underlying24 (by kernel_rfl) ht hwt (fun m' cs y hm h1 h2=>ih m' (by omega) cs y h1 h2)
   haveI:Inhabited Ft:=⟨⟨⟨#[]⟩,false,false,default,default⟩⟩
   obtain ⟨fd,fc,fs,rfl,hfb,-,hfc⟩:=rows_open (wd:=16) (R:=fun cs (p:Ft)=>cs=cellsF true p/\p.n.size<=140737488351232/\TyAt w (fun _=>True) p.t/\VAt w (fun _=>True) p.d) Tryz.underlying25 (by kernel_rfl) hf hwf (fun m' cs y hm h1 h2=>by
    obtain ⟨m2,s2,o2,d2,ct2,cv2,yt2,yv2,rfl,rfl,hs2,h3,h4,h5,h6⟩:=fd_struct h1 h2
    obtain ⟨q,rfl,hq⟩:=ih m2 (by omega) _ _ h3 h4
    obtain ⟨p,rfl,hp⟩:=val_open m2 _ _ h5 h6
    exact ⟨⟨s2,o2,d2,q,p⟩,rfl,hs2,hq,hp⟩)
   rw [Tryz.bytes_type] at htb
   rw [Tryz.bytes_field] at hfb
   have r1:=trow_of (w:=w) (t:=false) (ad:=td) (cap:=tc) (ts.map Ft.one) (by rw [List.length_map];exact htb) (fun hne=>by
    obtain ⟨a,rfl,hall⟩:=htc (by intro e;rw [e] at hne;exact hne rfl)
    refine ⟨a,rfl,fun i p hi=>?_⟩
    rw [List.getElem?_map] at hi
    obtain ⟨q,hq,rfl⟩:=Option.map_eq_some_iff.1 hi
    obtain ⟨cs,⟨rfl,hv⟩,-,hc⟩:=hall i q hq
    exact ⟨hv,VAt.zero w _ none none 0 0,Nat.zero_le _,fun j u hj=>hc j u hj⟩)
   have r2:=trow_of (w:=w) (t:=true) (ad:=fd) (cap:=fc) fs (by omega) (fun hne=>by
    obtain ⟨a,rfl,hall⟩:=hfc hne
    refine ⟨a,rfl,fun i p hi=>?_⟩
    obtain ⟨cs,⟨rfl,hk,hv,hd⟩,-,hc⟩:=hall i p hi
    exact ⟨hv,hd,hk,fun j u hj=>hc j u hj⟩)
   rw [List.length_map,List.map_map] at r1
   have ek:=i64_of w0
   have el:=i64_of w1
   have eh:=i64_of w2
   refine ⟨⟨.mk k lo hi xs (ts.map (·.v)) (fs.map Ft.fd) s,xd,xc,td,tc,fd,fc⟩,by simp [Lt.cs,Ty.k,Ty.lo,Ty.hi,Ty.x,Ty.t,Ty.f,Ty.n],⟨ek.1,ek.2,el.1,el.2,eh.1,eh.2,hs⟩,hxr,?_,?_⟩
   ·show TRow w _ false (tf (ts.map (·.v))) (.slice td (ts.map (·.v)).length tc)
    rw [List.length_map,tf,List.map_map]
    exact r1
   ·show TRow w _ true (fs.map Ft.fd) (.slice fd (fs.map Ft.fd).length fc)
    rw [List.length_map]
    exact r2
theorem ty_arg {r:Reach} {b0:Nat} {v:Value} {d:DataW H} {p:List MemPlace} (hv:Value.okWide Tryz.prog w r b0 27 v) (h:DataW.Trod enc Tryz.prog w base spare held 27 v d p) (hw:wOk 27 d) :
 ∃ q:Lt,v=q.val/\TyAt w (fun _=>True) q:=by
 obtain ⟨cs,rfl,-⟩:=okWide_struct Tryz.underlying27 hv
 obtain ⟨n,hn⟩:=h
 obtain ⟨q,hq,hvq⟩:=ty_open n _ _ hn hw
 refine ⟨q,?_,hvq⟩
 have:cs.toList=q.cs:=hq
 have e:cs=q.cs.toArray:=by rw [<-this]
 rw [e];rfl
def Lm.cs (m:Lm):List Value:=[.int .i64 m.k,.slice m.pd m.p.length m.pc,.string m.key,.string m.dst]++m.q.cs
instance:Inhabited Lm:=⟨⟨0,[],⟨#[]⟩,⟨#[]⟩,default,none,0⟩⟩
theorem mv_open {n:Nat} {cs:List Value} {x:DataW H×List MemPlace} (h:DataW.trod enc Tryz.prog w base spare held n 55 cs=some x) (hw:wOk 55 x.1) :
 ∃ m:Lm,cs=m.cs/\MvAt w (fun _=>True) m:=by
 obtain ⟨xs,m,rfl,hxy,hlen,hxl,hf⟩:=DataW.trod_struct Tryz.underlying55 h
 obtain ⟨k0,-,-,k3,k4,-,-,-,k6,-⟩:=c1s
 have k10:Tryz.prog.cellsOf 55=10:=by kernel_rfl
 rw [k10] at hlen
 match xs,hxl,cs,hlen with
 | [y0,y1,y2,y3,y4],_,[v0,v1,v2,v3,v4,v5,v6,v7,v8,v9],_ =>
   have g0:=hf 0 _ rfl
   have g1:=hf 1 _ rfl
   have g2:=hf 2 _ rfl
   have g3:=hf 3 _ rfl
   have g4:=hf 4 _ rfl
   simp only [k0,k3,k4,k6,List.drop,List.take,List.getElem?_cons_zero,List.getElem?_cons_succ] at g0 g1 g2 g3 g4
   have hx1:x.1=.agg [y0.1,y1.1,y2.1,y3.1,y4.1]:=by rw [hxy];rfl
   have hww:∀ k∈y0.1.weights Tryz.prog 3++(y1.1.weights Tryz.prog 23++(y2.1.weights Tryz.prog 9++(y3.1.weights Tryz.prog 9++(y4.1.weights Tryz.prog 32++[])))),k<=reachBytes:=by
    intro k hk
    refine hw k ?_
    rw [hx1]
    unfold DataW.weights
    rw [Tryz.underlying55]
    exact hk
   obtain ⟨z0,rfl,w0⟩:=int_form Tryz.underlying3 g0
   obtain ⟨pd,pc,p,rfl,hp,hp1,hp2⟩:=texts_open g1 (fun k hk=>hww k (by simp [hk]))
   obtain ⟨z2,rfl,w2⟩:=str_form Tryz.underlying9 g2 (fun k hk=>hww k (by simp [hk]))
   obtain ⟨z3,rfl,w3⟩:=str_form Tryz.underlying9 g3 (fun k hk=>hww k (by simp [hk]))
   obtain ⟨q,hq,hv⟩:=val_open m _ _ g4 (fun k hk=>hww k (by simp [hk]))
   have e0:=i64_of w0
   refine ⟨⟨z0,p,z2,z3,q,pd,pc⟩,?_,e0.1,e0.2,w2,w3,hp,hv,hp1,hp2⟩
   unfold Lm.cs
   rw [<-hq];rfl
structure Ln where
 a:Int
 b:Int
 ms:List Lm
 ad:Option Addr
 cap:Nat
instance:Inhabited Ln:=⟨⟨0,0,[],none,0⟩⟩
def Ln.cs (k:Ln):List Value:=[.int .i64 k.a,.int .i64 k.b,.slice k.ad k.ms.length k.cap]
def MRow (w:World) (ad:Option Addr) (ms:List Lm):Prop:=ms.length * 10<=140737488351232/\(ms≠[]->∃ b o,ad=some ⟨b,o,none⟩/\b<w.heap.size)/\∀ i m,ms[i]?=some m->MvAt w (fun _=>True) m/\∃ b o,ad=some ⟨b,o,none⟩/\∀ j u,m.cs[j]?=some u->w.cell? ⟨b,o+i * 10+j,none⟩=some u
def LRow (w:World) (ad:Option Addr) (ls:List Ln):Prop:=ls.length * 3<=140737488351232/\(ls≠[]->∃ b o,ad=some ⟨b,o,none⟩/\b<w.heap.size)/\∀ i k,ls[i]?=some k->(Lit.int .i64 k.a).wf=true/\(Lit.int .i64 k.b).wf=true/\MRow w k.ad k.ms/\∃ b o,ad=some ⟨b,o,none⟩/\∀ j u,k.cs[j]?=some u->w.cell? ⟨b,o+i * 3+j,none⟩=some u
theorem moves_open {n:Nat} {c:Value} {x:DataW H×List MemPlace} (h:DataW.trod enc Tryz.prog w base spare held n 49 [c]=some x) (hw:wOk 49 x.1) :
 ∃ (ad:Option Addr) (cap:Nat) (ms:List Lm),c=.slice ad ms.length cap/\MRow w ad ms:=by
 obtain ⟨ad,cap,ms,rfl,hb,-,hc⟩:=rows_open (wd:=10) (R:=fun cs (m:Lm)=>cs=m.cs/\MvAt w (fun _=>True) m) Tryz.underlying49 (by kernel_rfl) h hw (fun m' cs y hm h1 h2=>mv_open h1 h2)
 have hbs:Tryz.prog.bytesOf 55=152:=by kernel_rfl
 rw [hbs] at hb
 refine ⟨ad,cap,ms,rfl,by omega,fun hne=>?_,fun i m hi=>?_⟩
 ·obtain ⟨a,rfl,hall⟩:=hc hne
  obtain ⟨y0,hy0⟩:∃ y0,ms[0]?=some y0:=⟨_,List.getElem?_eq_getElem (List.length_pos_iff.2 hne)⟩
  obtain ⟨cs,⟨rfl,-⟩,-,hcl⟩:=hall 0 y0 hy0
  obtain ⟨b,o,rfl,hlt⟩:=spot_of (hcl 0 (.int .i64 y0.k) rfl)
  exact ⟨b,o,rfl,hlt⟩
 ·have hne:ms≠[]:=by intro e;rw [e] at hi;cases hi
  obtain ⟨a,rfl,hall⟩:=hc hne
  obtain ⟨y0,hy0⟩:∃ y0,ms[0]?=some y0:=⟨_,List.getElem?_eq_getElem (List.length_pos_iff.2 hne)⟩
  obtain ⟨cs,⟨rfl,-⟩,-,hcl0⟩:=hall 0 y0 hy0
  obtain ⟨b,o,rfl,hlt⟩:=spot_of (hcl0 0 (.int .i64 y0.k) rfl)
  obtain ⟨cs,⟨rfl,hm⟩,-,hcl⟩:=hall i m hi
  refine ⟨hm,b,o,rfl,fun j u hj=>?_⟩
  have:=hcl j u hj
  rw [Addr.add_lit] at this
  rw [Nat.add_assoc];exact this
theorem link_open {n:Nat} {cs:List Value} {x:DataW H×List MemPlace} (h:DataW.trod enc Tryz.prog w base spare held n 51 cs=some x) (hw:wOk 51 x.1) :
 ∃ k:Ln,cs=k.cs/\(Lit.int .i64 k.a).wf=true/\(Lit.int .i64 k.b).wf=true/\MRow w k.ad k.ms:=by
 obtain ⟨xs,m,rfl,hxy,hlen,hxl,hf⟩:=DataW.trod_struct Tryz.underlying51 h
 obtain ⟨k0,-,-,-,-,-,-,k7,-,-⟩:=c1s
 have k3:Tryz.prog.cellsOf 51=3:=by kernel_rfl
 rw [k3] at hlen
 match xs,hxl,cs,hlen with
 | [y0,y1,y2],_,[v0,v1,v2],_ =>
   have g0:=hf 0 _ rfl
   have g1:=hf 1 _ rfl
   have g2:=hf 2 _ rfl
   simp only [k0,k7,List.drop,List.take,List.getElem?_cons_zero,List.getElem?_cons_succ] at g0 g1 g2
   have hx1:x.1=.agg [y0.1,y1.1,y2.1]:=by rw [hxy];rfl
   have hww:∀ k∈y0.1.weights Tryz.prog 3++(y1.1.weights Tryz.prog 3++(y2.1.weights Tryz.prog 49++[])),k<=reachBytes:=by
    intro k hk
    refine hw k ?_
    rw [hx1]
    unfold DataW.weights
    rw [Tryz.underlying51]
    exact hk
   obtain ⟨z0,rfl,w0⟩:=int_form Tryz.underlying3 g0
   obtain ⟨z1,rfl,w1⟩:=int_form Tryz.underlying3 g1
   obtain ⟨ad,cap,ms,rfl,hm⟩:=moves_open g2 (fun k hk=>hww k (by simp [hk]))
   exact ⟨⟨z0,z1,ms,ad,cap⟩,rfl,w0,w1,hm⟩
theorem links_arg {r:Reach} {b0:Nat} {v:Value} {d:DataW H} {p:List MemPlace} (hv:Value.okWide Tryz.prog w r b0 22 v) (h:DataW.Trod enc Tryz.prog w base spare held 22 v d p) (hw:wOk 22 d) :
 ∃ (ad:Option Addr) (cap:Nat) (ls:List Ln),v=.slice ad ls.length cap/\LRow w ad ls/\Lk w ad cap (ls.map fun k=>(k.a,k.b)):=by
 obtain ⟨ad0,len0,cap0,rfl⟩:=okWide_slice Tryz.underlying22 hv
 obtain ⟨n,hn⟩:=h
 have hn':DataW.trod enc Tryz.prog w base spare held n 22 [.slice ad0 len0 cap0]=some (d,p):=hn
 obtain ⟨ad,cap,ls,he,hb,⟨hc1,hc2,hc3⟩,hc⟩:=rows_open (wd:=3) (R:=fun cs (k:Ln)=>cs=k.cs/\(Lit.int .i64 k.a).wf=true/\(Lit.int .i64 k.b).wf=true/\MRow w k.ad k.ms) Tryz.underlying22 (by kernel_rfl) hn' hw (fun m' cs y hm h1 h2=>link_open h1 h2)
 have hbs:Tryz.prog.bytesOf 51=40:=by kernel_rfl
 rw [hbs] at hb
 have hrow:LRow w ad ls:=by
  refine ⟨by omega,fun hne=>?_,fun i k hi=>?_⟩
  ·obtain ⟨a,rfl,hall⟩:=hc hne
   obtain ⟨y0,hy0⟩:∃ y0,ls[0]?=some y0:=⟨_,List.getElem?_eq_getElem (List.length_pos_iff.2 hne)⟩
   obtain ⟨cs,⟨rfl,-⟩,-,hcl⟩:=hall 0 y0 hy0
   obtain ⟨b,o,rfl,hlt⟩:=spot_of (hcl 0 (.int .i64 y0.a) rfl)
   exact ⟨b,o,rfl,hlt⟩
  ·have hne:ls≠[]:=by intro e;rw [e] at hi;cases hi
   obtain ⟨a,rfl,hall⟩:=hc hne
   obtain ⟨y0,hy0⟩:∃ y0,ls[0]?=some y0:=⟨_,List.getElem?_eq_getElem (List.length_pos_iff.2 hne)⟩
   obtain ⟨cs,⟨rfl,-⟩,-,hcl0⟩:=hall 0 y0 hy0
   obtain ⟨b,o,rfl,hlt⟩:=spot_of (hcl0 0 (.int .i64 y0.a) rfl)
   obtain ⟨cs,⟨rfl,h1,h2,hm⟩,-,hcl⟩:=hall i k hi
   refine ⟨h1,h2,hm,b,o,rfl,fun j u hj=>?_⟩
   have:=hcl j u hj
   rw [Addr.add_lit] at this
   rw [Nat.add_assoc];exact this
 refine ⟨ad,cap,ls,he,hrow,by rw [List.length_map];exact hc1,hc2,fun p hp=>?_,hc3,fun a ha hp=>?_⟩
 ·obtain ⟨k,hk,rfl⟩:=List.mem_map.1 hp
  obtain ⟨i,hi⟩:=List.mem_iff_getElem?.1 hk
  exact ⟨(hrow.2.2 i k hi).1,(hrow.2.2 i k hi).2.1⟩
 ·rw [List.length_map] at hp
  obtain ⟨b,o,hao,hlt⟩:=hrow.2.1 (by intro e;rw [e] at hp;cases hp)
  rw [ha] at hao
  obtain rfl:=Option.some.inj hao
  refine ⟨rfl,hlt,fun j p hj=>?_⟩
  rw [List.getElem?_map] at hj
  obtain ⟨k,hk,rfl⟩:=Option.map_eq_some_iff.1 hj
  obtain ⟨-,-,-,b',o',e,hcl⟩:=hrow.2.2 j k hk
  rw [ha] at e
  simp only [Option.some.injEq,Addr.mk.injEq,and_true] at e
  obtain ⟨rfl,rfl⟩:=e
  exact ⟨hcl 0 _ rfl,hcl 1 _ rfl,_,_,_,hcl 2 _ rfl⟩
end
end Go.Proofs.YtgnonbdkmmkdgaaGreatDoor
namespace Go.Proofs.YtgnonbdkmmkdgaaGreatDoor
open Go.RowKit Gx
def Prt (k:Int):Prop:=k=2\/k=3\/k=4\/k=5\/k=6\/k=8\/k=10
inductive Nm:Ty->Prop
 | leaf (a:Ty) (hk:Prt a.k) (h8:a.k≠8) (h10:a.k≠10):Nm a
 | list (a b:Ty) (hk:a.k=8) (ht:a.t=[b]) (hb:Nm b):Nm a
 | record (a:Ty) (hk:a.k=10) (hn:(a.f.map Fd.n).Nodup) (hh:∀ f∈a.f,f.h=false) (hf:∀ f∈a.f,Nm f.t):Nm a
 | union (a:Ty) (hk:a.k=11) (hn:(a.t.map Ty.k).Nodup) (hp:∀ b∈a.t,Prt b.k) (hb:∀ b∈a.t,Nm b):Nm a
theorem prt_tells {j k v:Int} (hj:Prt j) (hk:Prt k) (h1:tells j v=true) (h2:tells k v=true):j=k:=by
 have key:∀ k,Prt k->tells k v=true->v=(if k=8 then 5 else if k=10 then 6 else k - 2):=by
  intro k hk ht
  unfold tells at ht
  rcases hk with rfl|rfl|rfl|rfl|rfl|rfl|rfl<;>simp at ht ⊢<;>omega
 have e1:=key j hj h1
 have e2:=key k hk h2
 rcases hj with rfl|rfl|rfl|rfl|rfl|rfl|rfl<;>rcases hk with rfl|rfl|rfl|rfl|rfl|rfl|rfl<;>simp at e1 e2 ⊢<;>omega
theorem Prt.ne {k:Int} (h:Prt k):k≠11/\k≠1/\k≠7/\k≠9:=by unfold Prt at h;omega
theorem Nm.prt {a:Ty} (h:Nm a) (hk:a.k≠11):Prt a.k:=by
 cases h with
 | leaf _ h=>exact h
 | list _ _ h=>unfold Prt;omega
 | record _ h=>unfold Prt;omega
 | union _ h=>exact absurd h hk
theorem fit_self {full:Bool} {a b:Ty} {v:V} (hb:a.pick v.k=some b) (hne:b.k≠11) (h:Fit full a v):Fit full b v:=by
 cases h with
 | mk _ _ c hc hi hs ho hn hl hm hr hf hq =>
   rw [hb] at hc
   obtain rfl:=Option.some.inj hc
   have ht:tells b.k v.k=true:=by
    unfold Ty.pick at hb
    exact List.find?_some (p:=fun b:Ty=>tells b.k v.k) hb
   exact .mk b v b (pick_self hne ht) hi hs ho hn hl hm hr hf hq
theorem fit_up {full:Bool} {a b:Ty} {v:V} (hb:a.pick v.k=some b) (hne:b.k≠11) (h:Fit full b v):Fit full a v:=by
 cases h with
 | mk _ _ c hc hi hs ho hn hl hm hr hf hq =>
   have ht:tells b.k v.k=true:=by
    unfold Ty.pick at hb
    exact List.find?_some (p:=fun b:Ty=>tells b.k v.k) hb
   rw [pick_self hne ht] at hc
   obtain rfl:=Option.some.inj hc
   exact .mk a v b hb hi hs ho hn hl hm hr hf hq
theorem fit_pick {full:Bool} {a:Ty} {v:V} (h:Fit full a v):∃ b,a.pick v.k=some b:=by
 cases h with
 | mk _ _ c hc=>exact ⟨c,hc⟩
theorem fit_tells {full:Bool} {a:Ty} {v:V} (hne:a.k≠11) (h:Fit full a v):tells a.k v.k=true:=(fit_plain hne h).1
structure Pts (l:List Ty):Prop where
 nd:(l.map Ty.k).Nodup
 p:∀ b∈l,Prt b.k
 n:∀ b∈l,Nm b
def LFit (l:List Ty) (v:V):Prop:=∃ b∈l,Fit false b v
theorem nodup_kind:∀ {l:List Ty} {b c:Ty},(l.map Ty.k).Nodup->b∈l->c∈l->b.k=c.k->b=c
 | [],_,_,_,h,_,_=>absurd h List.not_mem_nil
 | a::l,b,c,hn,hb,hc,e=>by
   rw [List.map_cons,List.nodup_cons] at hn
   rcases List.mem_cons.1 hb with h1|h1
   ·rcases List.mem_cons.1 hc with h2|h2
    ·rw [h1,h2]
    ·exact absurd (List.mem_map.2 ⟨c,h2,by rw [<-e,h1]⟩) hn.1
   ·rcases List.mem_cons.1 hc with h2|h2
    ·exact absurd (List.mem_map.2 ⟨b,h1,by rw [e,h2]⟩) hn.1
    ·exact nodup_kind hn.2 h1 h2 e
theorem flat_parts:∀ {l:List Ty},(∀ b∈l,b.k≠11)->l.flatMap Ty.flat=l
 | [],_=>rfl
 | a::l,h=>by
   rw [List.flatMap_cons,Ty.flat_one (h a List.mem_cons_self),flat_parts (fun b hb=>h b (List.mem_cons_of_mem _ hb))]
   rfl
theorem pick_parts {a:Ty} {l:List Ty} {b:Ty} {v:Int} (hk:a.k=11) (hl:a.t=l) (hp:Pts l) (hb:b∈l) (ht:tells b.k v=true):a.pick v=some b:=by
 unfold Ty.pick
 rw [Ty.flat_union hk,hl,flat_parts (fun b hb=>(hp.p b hb).ne.1)]
 cases hf:l.find? (fun b=>tells b.k v) with
 | none =>
   rw [List.find?_eq_none] at hf
   exact absurd ht (hf b hb)
 | some c =>
   have h1:=List.find?_some hf
   have h2:=List.mem_of_find?_eq_some hf
   rw [nodup_kind hp.nd hb h2 (prt_tells (hp.p b hb) (hp.p c h2) ht h1)]
theorem union_fit {a:Ty} {l:List Ty} {v:V} (hk:a.k=11) (hl:a.t=l) (hp:Pts l) (h:LFit l v):Fit false a v:=by
 obtain ⟨b,hb,hf⟩:=h
 have hne:=(hp.p b hb).ne.1
 exact fit_up (pick_parts hk hl hp hb (fit_tells hne hf)) hne hf
theorem fit_union {a:Ty} {l:List Ty} {v:V} (hk:a.k=11) (hl:a.t=l) (hp:Pts l) (h:Fit false a v):LFit l v:=by
 obtain ⟨b,hb⟩:=fit_pick h
 have hm:b∈l:=by
  unfold Ty.pick at hb
  rw [Ty.flat_union hk,hl,flat_parts (fun b hb=>(hp.p b hb).ne.1)] at hb
  exact List.mem_of_find?_eq_some hb
 exact ⟨b,hm,fit_self hb (hp.p b hm).ne.1 h⟩
theorem Pts.perm {l m:List Ty} (h:Pts l) (p:m.Perm l):Pts m:=⟨(p.map Ty.k).nodup_iff.2 h.nd,fun b hb=>h.p b (p.mem_iff.1 hb),fun b hb=>h.n b (p.mem_iff.1 hb)⟩
structure JoinOk (a b c:Ty):Prop where
 n:Nm c
 l:∀ v,Fit false a v->Fit false c v
 r:∀ v,Fit false b v->Fit false c v
def partsT (a:Ty):List Ty:=if a.k=11 then a.t else [a]
theorem parts_pts {a:Ty} (h:Nm a):Pts (partsT a):=by
 unfold partsT
 by_cases hk:a.k=11
 ·rw [if_pos hk]
  cases h with
  | leaf _ h=>exact absurd hk h.ne.1
  | list _ _ h=>omega
  | record _ h=>omega
  | union _ _ hn hp hb=>exact ⟨hn,hp,hb⟩
 ·rw [if_neg hk]
  exact ⟨by simp,fun b hb=>by rw [List.mem_singleton.1 hb];exact h.prt hk,fun b hb=>by rw [List.mem_singleton.1 hb];exact h⟩
theorem parts_fit {a:Ty} {v:V} (h:Nm a) (hf:Fit false a v):LFit (partsT a) v:=by
 have hp:=parts_pts h
 unfold partsT at hp ⊢
 by_cases hk:a.k=11
 ·rw [if_pos hk] at hp ⊢
  exact fit_union hk rfl hp hf
 ·rw [if_neg hk]
  exact ⟨a,List.mem_singleton_self _,hf⟩
theorem union_ok {l m:List Ty} {c:Ty} (hp:Pts l) (hm:m.Perm l) (hc:(m.length=1/\m=[c])\/(m.length≠1/\c.k=11/\c.t=m)):Nm c/\∀ v,LFit l v->Fit false c v:=by
 have hpm:=hp.perm hm
 have hf:∀ v,LFit l v->LFit m v:=fun v ⟨b,hb,h⟩=>⟨b,hm.mem_iff.2 hb,h⟩
 rcases hc with ⟨-,rfl⟩|⟨-,hk,ht⟩
 ·refine ⟨hpm.n c (List.mem_singleton_self _),fun v h=>?_⟩
  obtain ⟨b,hb,h⟩:=hf v h
  rwa [List.mem_singleton.1 hb] at h
 ·exact ⟨.union c hk (by rw [ht];exact hpm.nd) (by rw [ht];exact hpm.p) (by rw [ht];exact hpm.n),fun v h=>union_fit hk ht hpm (hf v h)⟩
theorem parts_more {l:List Ty} {y:Ty} (hp:Pts l) (hy:Nm y) (hk:y.k≠11) (hn:∀ b∈l,b.k≠y.k):Pts (l++[y])/\(∀ v,LFit l v->LFit (l++[y]) v)/\∀ v,Fit false y v->LFit (l++[y]) v:=by
 refine ⟨⟨?_,?_,?_⟩,fun v ⟨b,hb,h⟩=>⟨b,List.mem_append_left _ hb,h⟩,fun v h=>⟨y,by simp,h⟩⟩
 ·rw [List.map_append,List.nodup_append]
  refine ⟨hp.nd,by simp,fun k hk2 j hj=>?_⟩
  obtain ⟨b,hb,rfl⟩:=List.mem_map.1 hk2
  have:j=y.k:=by simpa using hj
  rw [this];exact hn b hb
 ·intro b hb
  rcases List.mem_append.1 hb with hb|hb
  ·exact hp.p b hb
  ·rw [List.mem_singleton.1 hb];exact hy.prt hk
 ·intro b hb
  rcases List.mem_append.1 hb with hb|hb
  ·exact hp.n b hb
  ·rw [List.mem_singleton.1 hb];exact hy
theorem parts_both {l:List Ty} {i:Nat} {x y c:Ty} (hp:Pts l) (hi:l[i]?=some x) (hc:JoinOk x y c) (hk:c.k=x.k):Pts (l.set i c)/\(∀ v,LFit l v->LFit (l.set i c) v)/\∀ v,Fit false y v->LFit (l.set i c) v:=by
 obtain ⟨hl,rfl⟩:=List.getElem?_eq_some_iff.1 hi
 have hin:c∈l.set i c:=List.mem_iff_getElem.2 ⟨i,by rw [List.length_set];exact hl,by rw [List.getElem_set_self]⟩
 have hmap:(l.set i c).map Ty.k=l.map Ty.k:=by
  rw [List.map_set,hk]
  have:(l[i]).k=(l.map Ty.k)[i]'(by rw [List.length_map];exact hl):=by rw [List.getElem_map]
  rw [this,List.set_getElem_self]
 refine ⟨⟨by rw [hmap];exact hp.nd,?_,?_⟩,?_,fun v h=>⟨c,hin,hc.r v h⟩⟩
 ·intro b hb
  rcases List.mem_or_eq_of_mem_set hb with hb|rfl
  ·exact hp.p b hb
  ·rw [hk];exact hp.p _ (List.getElem_mem hl)
 ·intro b hb
  rcases List.mem_or_eq_of_mem_set hb with hb|rfl
  ·exact hp.n b hb
  ·exact hc.n
 ·rintro v ⟨b,hb,h⟩
  obtain ⟨j,hj,rfl⟩:=List.getElem_of_mem hb
  by_cases e:i=j
  ·subst e;exact ⟨c,hin,hc.l v h⟩
  ·exact ⟨l[j],List.mem_iff_getElem.2 ⟨j,by rw [List.length_set];exact hj,by rw [List.getElem_set_ne e]⟩,h⟩
theorem mk_plain {a:Ty} {v:V} (hne:a.k≠11) (ht:tells a.k v.k=true) (h4:a.k=4->a.lo<=v.n/\v.n<=a.hi) (h6:a.k=6->a.lo<=runeN v.s.data.toList/\(runeN v.s.data.toList:Int)<=a.hi) (h7:a.k≠7) (h9:a.k≠9) (h10:a.k≠10)
 (h8:a.k=8->(a.lo<=v.l.length/\(v.l.length:Int)<=a.hi)/\∀ c∈v.l,Fit false (a.t.getD 0 default) c):Fit false a v :=
 .mk a v a (pick_self hne ht) h4 h6 (fun h=>absurd h h7) (fun h=>(h8 h).1) (fun h=>(h8 h).2) (fun h=>absurd h h9) (fun h=>absurd h h10) (fun h=>absurd h h10) (fun h=>absurd h h10)
theorem fit_text {a:Ty} {v:V} (ha:a.k=6) (h:Fit false a v):a.lo<=runeN v.s.data.toList/\(runeN v.s.data.toList:Int)<=a.hi:=by
 cases h with
 | mk _ _ b hb hi hs ho hn hl hm hr hf hq =>
   unfold Ty.pick at hb
   rw [Ty.flat_one (by omega),List.find?_cons] at hb
   cases ht:tells a.k v.k with
   | false=>rw [ht] at hb;simp at hb
   | true =>
     rw [ht] at hb
     obtain rfl:=Option.some.inj hb
     exact hs ha
theorem both_ok {a b c:Ty} (ha:Nm a) (hb:Nm b) (he:a.k=b.k) (hne:a.k≠11) (h10:a.k≠10) (hk:c.k=a.k) (hlo:c.lo=min a.lo b.lo) (hhi:c.hi=max a.hi b.hi)
 (h8:a.k=8->∃ d,c.t=[d]/\JoinOk (a.t.getD 0 default) (b.t.getD 0 default) d):JoinOk a b c:=by
 have hpa:=ha.prt hne
 obtain ⟨n1,n2,n3,n4⟩:=hpa.ne
 have hn:Nm c:=by
  by_cases h:a.k=8
  ·obtain ⟨d,hd,hj⟩:=h8 h
   exact .list c d (by omega) hd hj.n
  ·exact .leaf c (by rw [hk];exact hpa) (by omega) (by omega)
 have key:∀ x:Ty,x.k=a.k->min a.lo b.lo<=x.lo->x.hi<=max a.hi b.hi->(a.k=8->∀ d,c.t=[d]->∀ v,Fit false (x.t.getD 0 default) v->Fit false d v)->∀ v,Fit false x v->Fit false c v:=by
  intro x hx l1 l2 l8 v h
  obtain ⟨t1,t2,-,t4⟩:=fit_plain (by omega) h
  refine mk_plain (by omega) (by rw [hk,<-hx];exact t1) (fun h4=>?_) (fun h6=>?_) (by omega) (by omega) (by omega) (fun h=>?_)
  ·have:=t2 (by omega);rw [hlo,hhi];omega
  ·have:=fit_text (by omega) h;rw [hlo,hhi];omega
  ·obtain ⟨t5,t6⟩:=t4 (by omega)
   refine ⟨by rw [hlo,hhi];omega,fun e he2=>?_⟩
   obtain ⟨d,hd,hj⟩:=h8 (by omega)
   have:=l8 (by omega) d hd e (t6 e he2)
   rw [hd];exact this
 refine ⟨hn,key a rfl (by omega) (by omega) (fun h d hd v hv=>?_),key b he.symm (by omega) (by omega) (fun h d hd v hv=>?_)⟩
 ·obtain ⟨d',hd',hj⟩:=h8 h
  obtain rfl:d'=d:=by rw [hd'] at hd;exact (List.cons.inj hd).1
  exact hj.l v hv
 ·obtain ⟨d',hd',hj⟩:=h8 h
  obtain rfl:d'=d:=by rw [hd'] at hd;exact (List.cons.inj hd).1
  exact hj.r v hv
def FldR (b:List (Fd Ty)) (f g:Fd Ty):Prop:=g.n=f.n/\g.h=false /\
 ((fdOf b f.n=none/\g.o=true/\g.t=f.t)\/∃ h,fdOf b f.n=some h/\g.o=(f.o || h.o)/\JoinOk f.t h.t g.t)
inductive AllF {α β:Type} (R:α->β->Prop):List α->List β->Prop
 | nil:AllF R [] []
 | cons (a:α) (b:β) (l:List α) (m:List β) (h:R a b) (hl:AllF R l m):AllF R (a::l) (b::m)
theorem AllF.snoc {α β:Type} {R:α->β->Prop} {l:List α} {m:List β} {a:α} {b:β} (h:AllF R l m) (hr:R a b):AllF R (l++[a]) (m++[b]):=by
 induction h with
 | nil=>exact .cons _ _ _ _ hr .nil
 | cons x y l m h hl ih=>exact .cons _ _ _ _ h ih
theorem AllF.left {α β:Type} {R:α->β->Prop} {l:List α} {m:List β} (h:AllF R l m):∀ a∈l,∃ b∈m,R a b:=by
 induction h with
 | nil=>intro a ha;cases ha
 | cons x y l m h hl ih =>
   intro a ha
   rcases List.mem_cons.1 ha with rfl|ha
   ·exact ⟨y,List.mem_cons_self,h⟩
   ·obtain ⟨b,hb,hr⟩:=ih a ha
    exact ⟨b,List.mem_cons_of_mem _ hb,hr⟩
theorem AllF.right {α β:Type} {R:α->β->Prop} {l:List α} {m:List β} (h:AllF R l m):∀ b∈m,∃ a∈l,R a b:=by
 induction h with
 | nil=>intro a ha;cases ha
 | cons x y l m h hl ih =>
   intro b hb
   rcases List.mem_cons.1 hb with rfl|hb
   ·exact ⟨x,List.mem_cons_self,h⟩
   ·obtain ⟨a,ha,hr⟩:=ih b hb
    exact ⟨a,List.mem_cons_of_mem _ ha,hr⟩
theorem AllF.names {b:List (Fd Ty)} {l m:List (Fd Ty)} (h:AllF (FldR b) l m):m.map Fd.n=l.map Fd.n:=by
 induction h with
 | nil=>rfl
 | cons x y l m h hl ih=>rw [List.map_cons,List.map_cons,ih,h.1]
def newF (a b:List (Fd Ty)):List (Fd Ty):=(b.filter fun g:Fd Ty=>(fdOf a g.n).isNone).map fun g=>{ g with o:=true }
theorem mem_newF {a b:List (Fd Ty)} {g:Fd Ty}:g∈newF a b↔∃ h∈b,h.n∉a.map Fd.n/\g={ h with o:=true }:=by
 unfold newF
 rw [List.mem_map]
 constructor
 ·rintro ⟨h,h1,rfl⟩
  rw [List.mem_filter] at h1
  exact ⟨h,h1.1,fdOf_none.1 (by simpa using h1.2),rfl⟩
 ·rintro ⟨h,h1,h2,rfl⟩
  exact ⟨h,List.mem_filter.2 ⟨h1,by rw [fdOf_none.2 h2];rfl⟩,rfl⟩
theorem tables_ok {a b c:Ty} {m:List (Fd Ty)} (ha:Nm a) (hb:Nm b) (ka:a.k=10) (kb:b.k=10) (kc:c.k=10) (hm:AllF (FldR b.f) a.f m) (hp:c.f.Perm (m++newF a.f b.f)):JoinOk a b c:=by
 have inv:∀ x:Ty,Nm x->x.k=10->(x.f.map Fd.n).Nodup/\(∀ f∈x.f,f.h=false)/\∀ f∈x.f,Nm f.t:=by
  intro x hx hk
  cases hx with
  | leaf _ _ _ h=>exact absurd hk h
  | list _ _ h=>omega
  | record _ _ h1 h2 h3=>exact ⟨h1,h2,h3⟩
  | union _ h=>omega
 obtain ⟨na,ha2,ha3⟩:=inv a ha ka
 obtain ⟨nb,hb2,hb3⟩:=inv b hb kb
 have hnm:=hm.names
 have nn:((m++newF a.f b.f).map Fd.n).Nodup:=by
  rw [List.map_append,List.nodup_append,hnm]
  refine ⟨na,?_,fun s hs t ht e=>?_⟩
  ·have:(newF a.f b.f).map Fd.n=(b.f.filter fun g:Fd Ty=>(fdOf a.f g.n).isNone).map Fd.n:=by
    unfold newF;rw [List.map_map];rfl
   rw [this]
   exact List.Pairwise.sublist (List.Sublist.map _ List.filter_sublist) nb
  ·obtain ⟨g,hg,rfl⟩:=List.mem_map.1 ht
   obtain ⟨h,-,h2,rfl⟩:=mem_newF.1 hg
   exact h2 (e▸hs)
 have nc:(c.f.map Fd.n).Nodup:=(hp.map Fd.n).nodup_iff.2 nn
 have mem:∀ g,g∈c.f↔g∈m\/g∈newF a.f b.f:=fun g=>by rw [hp.mem_iff,List.mem_append]
 have hn:Nm c:=by
  refine .record c kc nc (fun g hg=>?_) (fun g hg=>?_)
  ·rcases (mem g).1 hg with hg|hg
   ·obtain ⟨f,-,h⟩:=hm.right g hg;exact h.2.1
   ·obtain ⟨h,h1,-,rfl⟩:=mem_newF.1 hg;exact hb2 h h1
  ·rcases (mem g).1 hg with hg|hg
   ·obtain ⟨f,hf,-,-,⟨-,-,h⟩|⟨h,-,-,hj⟩⟩:=hm.right g hg
    ·rw [h];exact ha3 f hf
    ·exact hj.n
   ·obtain ⟨h,h1,-,rfl⟩:=mem_newF.1 hg;exact hb3 h h1
 have ask:∀ g:Fd Ty,g.h=false->(askF false g=true↔g.o=false):=fun g hg=>by unfold askF;rw [hg];cases g.o<;>simp
 refine ⟨hn,fun v h=>?_,fun v h=>?_⟩
 ·obtain ⟨h0,h1,h2,h3⟩:=fit_record ka h
  refine record_fit kc h0 (fun e he=>?_) (fun e he g hg=>?_) (fun g hg hq=>?_)
  ·obtain ⟨f,hf,e1⟩:=List.mem_map.1 (h1 e he)
   obtain ⟨g,hg,hr⟩:=hm.left f hf
   exact List.mem_map.2 ⟨g,(mem g).2 (.inl hg),hr.1.trans e1⟩
  ·obtain ⟨g1,g2⟩:=fdOf_mem hg
   obtain ⟨f,hf,e1⟩:=List.mem_map.1 (h1 e he)
   have hff:=h2 e he f (by rw [<-e1];exact fdOf_uq na hf)
   rcases (mem g).1 g1 with hgm|hgn
   ·obtain ⟨f',hf',r1,-,r3⟩:=hm.right g hgm
    have:f'=f:=by
     have k1:=fdOf_uq na hf'
     have k2:=fdOf_uq na hf
     rw [<-r1,g2,<-e1,k2] at k1
     exact (Option.some.inj k1).symm
    subst this
    rcases r3 with ⟨-,-,r4⟩|⟨h,-,-,hj⟩
    ·rw [r4];exact hff
    ·exact hj.l _ hff
   ·obtain ⟨h,-,h5,rfl⟩:=mem_newF.1 hgn
    exact absurd (by rw [show h.n=e.1 from g2];exact h1 e he) h5
  ·rcases (mem g).1 hg with hgm|hgn
   ·obtain ⟨f,hf,r1,r2,r3⟩:=hm.right g hgm
    rw [r1]
    refine h3 f hf ((ask f (ha2 f hf)).2 ?_)
    have ho:=(ask g r2).1 hq
    rcases r3 with ⟨-,r4,-⟩|⟨h,-,r4,-⟩
    ·rw [r4] at ho;cases ho
    ·rw [r4] at ho
     cases hfo:f.o with
     | false=>rfl
     | true=>rw [hfo] at ho;simp at ho
   ·obtain ⟨h,h4,-,rfl⟩:=mem_newF.1 hgn
    have ho:=(ask { h with o:=true } (hb2 h h4)).1 hq
    cases ho
 ·obtain ⟨h0,h1,h2,h3⟩:=fit_record kb h
  refine record_fit kc h0 (fun e he=>?_) (fun e he g hg=>?_) (fun g hg hq=>?_)
  ·by_cases hin:e.1∈a.f.map Fd.n
   ·obtain ⟨f,hf,e1⟩:=List.mem_map.1 hin
    obtain ⟨g,hg,hr⟩:=hm.left f hf
    exact List.mem_map.2 ⟨g,(mem g).2 (.inl hg),hr.1.trans e1⟩
   ·obtain ⟨h,hh,e1⟩:=List.mem_map.1 (h1 e he)
    exact List.mem_map.2 ⟨{ h with o:=true },(mem _).2 (.inr (mem_newF.2 ⟨h,hh,by rw [e1];exact hin,rfl⟩)),e1⟩
  ·obtain ⟨g1,g2⟩:=fdOf_mem hg
   obtain ⟨h,hh,e1⟩:=List.mem_map.1 (h1 e he)
   have hfb:=fdOf_uq nb hh
   rw [e1] at hfb
   have hff:=h2 e he h hfb
   rcases (mem g).1 g1 with hgm|hgn
   ·obtain ⟨f',hf',r1,-,r3⟩:=hm.right g hgm
    rcases r3 with ⟨r4,-⟩|⟨h',r4,-,hj⟩
    ·rw [<-r1,g2,hfb] at r4;cases r4
    ·rw [<-r1,g2,hfb] at r4
     obtain rfl:=Option.some.inj r4
     exact hj.r _ hff
   ·obtain ⟨h',h4,-,rfl⟩:=mem_newF.1 hgn
    have:fdOf b.f h'.n=some h':=fdOf_uq nb h4
    rw [show h'.n=e.1 from g2,hfb] at this
    obtain rfl:=Option.some.inj this
    exact hff
  ·rcases (mem g).1 hg with hgm|hgn
   ·obtain ⟨f,hf,r1,r2,r3⟩:=hm.right g hgm
    have ho:=(ask g r2).1 hq
    rcases r3 with ⟨-,r4,-⟩|⟨h,hfb,r4,-⟩
    ·rw [r4] at ho;cases ho
    ·obtain ⟨k1,k2⟩:=fdOf_mem hfb
     rw [r1,<-k2]
     refine h3 h k1 ((ask h (hb2 h k1)).2 ?_)
     rw [r4] at ho
     cases hfo:h.o with
     | false=>rfl
     | true=>rw [hfo] at ho;simp at ho
   ·obtain ⟨h,h4,-,rfl⟩:=mem_newF.1 hgn
    have ho:=(ask { h with o:=true } (hb2 h h4)).1 hq
    cases ho
end Go.Proofs.YtgnonbdkmmkdgaaGreatDoor
namespace Go.Proofs.YtgnonbdkmmkdgaaGreatDoor
open Go.RowKit Go.Shelf Gx
attribute [local go_sem] Oper.semAt_some
def Bw (n₀ M:Nat) (b:Nat):Prop:=b<n₀/\b≠M
structure KeM (n₀ M:Nat) (W W':World):Prop where
 size:W.heap.size<=W'.heap.size
 block:∀ k,Bw n₀ M k->k<W.heap.size->W'.heap[k]?=W.heap[k]?
theorem KeM.refl (n₀ M:Nat) (W:World):KeM n₀ M W W:=⟨Nat.le_refl _,fun _ _ _=>rfl⟩
theorem KeM.trans {n₀ M:Nat} {A B C:World} (h:KeM n₀ M A B) (k:KeM n₀ M B C):KeM n₀ M A C :=
 ⟨Nat.le_trans h.size k.size,fun i hi hl=>(k.block i hi (Nat.lt_of_lt_of_le hl h.size)).trans (h.block i hi hl)⟩
theorem KeM.grow {n₀ M:Nat} {A B:World} {row:Option Nat} (hg:A.grownBy B row) (hr:∀ k,row=some k->¬ Bw n₀ M k):KeM n₀ M A B :=
 ⟨hg.size,fun i hi hl=>hg.block i hl (fun e=>hr i e.symm hi)⟩
theorem KeM.alloc (n₀ M:Nat) (A:World) (o:Obj):KeM n₀ M A (A.alloc o):=⟨by simp,fun _ _ hl=>Below.heap_alloc A o _ hl⟩
theorem KeM.put {n₀ M:Nat} {w:World} (hn:n₀<=w.heap.size) (W:World) (l:Nat) (o o':Obj) (hl:w.heap.size<=l) (h:W.heap[l]?=some o) (_:o.isCells=false) (_:o.isWalk=false):KeM n₀ M W (W.putObj l o') :=
 .grow (grownBy_putObj' W l o') (fun k e hb=>by cases e;have:=hb.1;omega)
theorem KeM.cell {n₀ M:Nat} {A B:World} (h:KeM n₀ M A B) {b o:Nat} (hb:Bw n₀ M b) (hl:b<A.heap.size):B.cell? ⟨b,o,none⟩=A.cell? ⟨b,o,none⟩:=World.cell?_of_block (h.block b hb hl)
abbrev LocAt (w:World) (n₀ M:Nat):={ x:Loc // VAt w (Bw n₀ M) x }
def V.parts (v:V):List V:=v.l++v.e.map Prod.snd
def LsAt (w:World) (n₀ M:Nat) (q:Loc) (ls:List (LocAt w n₀ M)):Prop:=ls.map (·.1.v)=q.v.l /\
 ∀ i x,ls[i]?=some x->∃ b off,q.ad=some ⟨b,off,none⟩/\Bw n₀ M b/\b<w.heap.size/\CellsAt w b (off+i * 6) x.1
def EsAt (w:World) (n₀ M:Nat) (q:Loc) (es:List (LocAt w n₀ M)):Prop:=es.map (·.1.v)=q.v.e.map Prod.snd /\
 ∀ i x,es[i]?=some x->∃ b off key,q.bd=some ⟨b,off,none⟩/\Bw n₀ M b/\b<w.heap.size/\w.cell? ⟨b,off+i * 7,none⟩=some (.string key)/\CellsAt w b (off+i * 7+1) x.1
theorem locs_of {w:World} {n₀ M:Nat} {q:Loc} (h:VAt w (Bw n₀ M) q):∃ ls es,LsAt w n₀ M q ls/\EsAt w n₀ M q es:=by
 have key:∀ {α:Type} (l:List α) (p:α->V) (Q:Nat->LocAt w n₀ M->Prop),(∀ i x,l[i]?=some x->∃ y:LocAt w n₀ M,y.1.v=p x/\Q i y)->∃ ys:List (LocAt w n₀ M),ys.map (·.1.v)=l.map p/\∀ i y,ys[i]?=some y->Q i y:=by
  intro α l p Q hq
  induction l generalizing Q with
  | nil=>exact ⟨[],rfl,fun i y h=>by simp at h⟩
  | cons a l ih =>
    obtain ⟨y,hy,hQ⟩:=hq 0 a rfl
    obtain ⟨ys,h1,h2⟩:=ih (fun i y=>Q (i+1) y) (fun i x h=>hq (i+1) x (by simpa using h))
    refine ⟨y::ys,by simp [hy,h1],fun i z hz=>?_⟩
    cases i with
    | zero=>simp at hz;subst hz;exact hQ
    | succ i=>exact h2 i z (by simpa using hz)
 obtain ⟨ls,hl1,hl2⟩:=key q.v.l id (fun i x=>∃ b off,q.ad=some ⟨b,off,none⟩/\Bw n₀ M b/\b<w.heap.size/\CellsAt w b (off+i * 6) x.1) (fun i x hi=>by
  obtain ⟨b,off,e1,e2,e3,e4⟩:=RowAt.elem h.l (by have:=(List.getElem?_eq_some_iff.1 hi).1;omega)
  obtain ⟨p,rfl,hv,c⟩:=e4 i x hi
  exact ⟨⟨p,hv⟩,rfl,b,off,e1,e2,e3,c⟩)
 obtain ⟨es,he1,he2⟩:=key q.v.e Prod.snd (fun i x=>∃ b off key,q.bd=some ⟨b,off,none⟩/\Bw n₀ M b/\b<w.heap.size/\w.cell? ⟨b,off+i * 7,none⟩=some (.string key)/\CellsAt w b (off+i * 7+1) x.1) (fun i x hi=>by
  obtain ⟨b,off,e1,e2,e3,e4⟩:=RowAt.entry h.e (by have:=(List.getElem?_eq_some_iff.1 hi).1;omega)
  obtain ⟨_,ck,p,hp,hv,c⟩:=e4 i x hi
  exact ⟨⟨p,hv⟩,hp,b,off,x.1,e1,e2,e3,ck,c⟩)
 exact ⟨ls,es,⟨by simpa using hl1,hl2⟩,he1,he2⟩
theorem LsAt.len {w:World} {n₀ M:Nat} {q:Loc} {ls:List (LocAt w n₀ M)} (h:LsAt w n₀ M q ls):ls.length=q.v.l.length:=by have:=congrArg List.length h.1;simpa using this
theorem EsAt.len {w:World} {n₀ M:Nat} {q:Loc} {es:List (LocAt w n₀ M)} (h:EsAt w n₀ M q es):es.length=q.v.e.length:=by have:=congrArg List.length h.1;simpa using this
def PartsPost (q:Loc) (w:World) (e:Ending) (w':World):Prop :=
 e=.returned (.func (.func 84) #[] #[.pointer (some ⟨w.heap.size,0,none⟩)])/\w'=w.alloc (.cells #[.int .i64 q.v.k,.int .i64 q.v.n,.int .u64 q.v.f,.string q.v.s,.slice q.ad q.v.l.length q.cap,.slice q.bd q.v.e.length q.dap] 32)
theorem parts_any (q:Loc) (w:World):Calls Tryz.prog 59 #[q.val] w (PartsPost q w):=by
 unfold Loc.val
 go_enter Tryz.func59,Tryz.ntmps59
 go_wp2_with fail
 try go_ret
 exact ⟨rfl,rfl⟩
end Go.Proofs.YtgnonbdkmmkdgaaGreatDoor
namespace Go.Proofs.YtgnonbdkmmkdgaaGreatDoor
open Go.RowKit Gx
def Tabs (w:World):Prop:=Lib.Utf8Tabs 0 1 w
theorem Tabs.keep {w w':World} (h:Tabs w) (hb:Below w.heap.size w w'):Tabs w':=Utf8Tabs_below h hb
def dec (l:List UInt8):Nat×Nat:=if l=[] then (65533,0) else Lib.decodeL l
theorem decodeGo_dec (s:ByteArray):Lib.decodeGo s=dec s.data.toList:=by
 unfold Lib.decodeGo dec
 have h:=Lib.decodeL_drop s 0
 rw [List.drop_zero] at h
 by_cases h0:s.data.toList=[]
 ·rw [if_pos h0,if_pos (by rw [Lib.size_eq,h0];rfl)]
 ·rw [if_neg h0,if_neg (by rw [Lib.size_eq];intro e;exact h0 (List.eq_nil_of_length_eq_zero e)),h]
theorem decodeL_le_len (l:List UInt8) (hne:l≠[]):(Lib.decodeL l).2<=l.length:=by
 rw [Lib.decodeL_N]
 exact Lib.decodeN_width_le _ _ _ _ _ (List.length_pos_iff.2 hne)
def NextPost (l:List UInt8) (w:World) (e:Ending) (w':World):Prop :=
 ∃ r:Int,e=.returned (.tuple #[.int .i32 r,.int .i64 (dec l).2])/\Below w.heap.size w w'
theorem next_any (s:ByteArray) (w:World) (hT:Tabs w):Calls Tryz.prog 71 #[.string s] w (NextPost s.data.toList w):=by
 have hc:=Tryz.utf8_DecodeRuneInString s w hT
 rw [decodeGo_dec] at hc
 obtain ⟨r,hr⟩:∃ r,r=(dec s.data.toList).1:=⟨_,rfl⟩
 obtain ⟨n,hn⟩:∃ n,n=(dec s.data.toList).2:=⟨_,rfl⟩
 rw [<-hr,<-hn] at hc
 have HC:=hid hc
 have HN:=hid hn
 clear hc hr hn
 by_cases h1:r=65533
 ·subst h1
  by_cases h2:n<2
  ·go_enter Tryz.func71,Tryz.ntmps71
   go_wp2_with fail
   refine HC.out.mono ?_
   rintro e w2 ⟨rfl,hb⟩
   go_wp2
   go_ret2
   exact ⟨-1,by rw [<-HN.out];rfl,hb⟩
  ·go_enter Tryz.func71,Tryz.ntmps71
   go_wp2_with fail
   refine HC.out.mono ?_
   rintro e w2 ⟨rfl,hb⟩
   go_wp2
   go_ret2
   exact ⟨_,by rw [<-HN.out];rfl,hb⟩
 ·go_enter Tryz.func71,Tryz.ntmps71
  go_wp2_with fail
  refine HC.out.mono ?_
  rintro e w2 ⟨rfl,hb⟩
  go_wp2
  go_ret2
  exact ⟨_,by rw [<-HN.out];rfl,hb⟩
def BadPost (l:List UInt8) (w:World) (e:Ending) (w':World):Prop :=
 ∃ i:Int,e=.returned (.int .i64 i)/\(i<0↔okText l)/\Below w.heap.size w w'
theorem drop_ne {l:List UInt8} {p:Nat} (h:p<l.length):l.drop p≠[]:=by
 intro e
 have:=congrArg List.length e
 simp at this
 omega
theorem bad_any (s:ByteArray) (w:World) (hT:Tabs w) (hs:s.size<=4611686018427387904):Calls Tryz.prog 48 #[.string s] w (BadPost s.data.toList w):=by
 have hsl:=Lib.size_eq s
 obtain ⟨l,hl⟩:∃ l,l=s.data.toList:=⟨_,rfl⟩
 rw [<-hl] at hsl ⊢
 have HL:=hid hl
 have HSL:=hid hsl
 have HT:=hid hT
 clear hl hsl hT
 go_enter Tryz.func48,Tryz.ntmps48
 go_wp2
 go_loopw [] (fun wr=>∃ pos:Nat,wr.heap[w.heap.size]?=some (.stringIter s pos)/\Below w.heap.size w wr/\Hid (okText (l.drop pos)↔okText l)/\pos<=s.size) (fun wr=>s.size - wr.iterPos w.heap.size)
 case atStart =>
  refine ⟨0,World.iter_heap w s 0,(Below.refl _ w).alloc (Nat.le_refl _) _,?_,Nat.zero_le _⟩
  show _↔_
  rw [List.drop_zero]
 case round =>
  obtain ⟨pos,hit,hbw,hok,hps⟩:=hrel
  have hsz:w.heap.size<wr.heap.size:=(Array.getElem?_eq_some_iff.1 hit).1
  by_cases hp:pos<s.size
  ·have hnx:∀ ty,(Instr.next (.pointer (some ⟨w.heap.size,0,none⟩)) true ty).run Tryz.prog wr=_:=fun ty=>Lib.run_next_any_at wr w.heap.size s pos ty hit hp
   have hdd:=Lib.decodeL_drop s pos
   rw [<-HL.out] at hdd
   rw [<-hdd] at hnx
   have hne:l.drop pos≠[]:=drop_ne (by have:=HSL.out;omega)
   have hd1:=decodeL_pos (l.drop pos)
   have hd4:pos+(Lib.decodeL (l.drop pos)).2<=s.size:=by
    have h5:=decodeL_le_len (l.drop pos) hne
    rw [List.length_drop,<-HSL.out] at h5
    omega
   have hst:=okText_step (l.drop pos) hne
   rw [hok.out,List.drop_drop] at hst
   obtain ⟨r,hr⟩:∃ r,r=(Lib.decodeL (l.drop pos)).1:=⟨_,rfl⟩
   obtain ⟨n,hn⟩:∃ n,n=(Lib.decodeL (l.drop pos)).2:=⟨_,rfl⟩
   have hpair:Lib.decodeL (l.drop pos)=(r,n):=by rw [hr,hn]
   rw [<-hr,<-hn] at hnx
   rw [<-hn] at hd1 hd4
   rw [hpair] at hst
   have hdec:dec (l.drop pos)=(r,n):=by unfold dec;rw [if_neg hne,hpair]
   have hit2:=Lib.iterAt_heap wr w.heap.size s pos (pos+n) hit
   have hbw2:=Lib.below_iterAt hbw (k:=w.heap.size) (Nat.le_refl _) s (pos+n)
   have hsz2:w.heap.size<(wr.iterAt w.heap.size s (pos+n)).heap.size:=by rw [Lib.iterAt_size];exact hsz
   have HST:=hid hst
   have HDEC:=hid hdec
   clear hst hdec hpair hr hn hne hdd
   by_cases h1:r=65533
   ·subst h1
    obtain ⟨w1,hw1⟩:∃ w1,w1=wr.iterAt w.heap.size s (pos+n):=⟨_,rfl⟩
    rw [<-hw1] at hit2 hbw2 hsz2
    have HX:=hid (next_any (s.extract pos s.size) w1 (HT.out.keep hbw2))
    unfold NextPost at HX
    rw [Lib.extract_to_end,<-HL.out,HDEC.out] at HX
    have HW:=hid hw1
    by_cases h2:n=1
    ·subst h2
     go_wp2_with fail
     rw [<-HW.out]
     refine HX.out.mono ?_
     rintro e w2 ⟨r2,rfl,hb⟩
     have hb2:Below w.heap.size w w2:=hbw2.trans (hb.mono (by omega))
     go_wp2
     go_ret
     refine ⟨(pos:Int),rfl,⟨fun h=>by omega,fun h=>?_⟩,hb2⟩
     exact absurd rfl (HST.out.1 h).1
    ·have hb2:((n:Int)==1)=false:=by simp;omega
     have hn1:((65533,n):Nat×Nat)≠(65533,1):=by intro e;exact h2 (Prod.mk.inj e).2
     go_wp2_with fail
     rw [<-HW.out]
     refine HX.out.mono ?_
     rintro e w2 ⟨r2,rfl,hb⟩
     have hb3:Below w.heap.size w w2:=hbw2.trans (hb.mono (by omega))
     have hit3:w2.heap[w.heap.size]?=some (.stringIter s (pos+n)):=by rw [hb.block _ hsz2];exact hit2
     have hok2:Hid (okText (l.drop (pos+n))↔okText l):=by
      show _↔_
      rw [HST.out];exact ⟨fun h=>⟨hn1,h⟩,fun h=>h.2⟩
     clear hb hit2 hbw2
     go_wp2
     go_roundw
     case rel=>exact ⟨pos+n,hit3,hb3,hok2,hd4⟩
     case measure =>
      simp only [World.iterPos,hit3,hit]
      omega
   ·have hn1:((r,n):Nat×Nat)≠(65533,1):=by intro e;exact h1 (Prod.mk.inj e).1
    have hok2:Hid (okText (l.drop (pos+n))↔okText l):=by
     show _↔_
     rw [HST.out];exact ⟨fun h=>⟨hn1,h⟩,fun h=>h.2⟩
    have hr2:((r:Int)==65533)=false:=by simp;omega
    go_wp2
    go_roundw
    case rel=>exact ⟨pos+n,hit2,hbw2,hok2,hd4⟩
    case measure =>
     simp only [World.iterPos,hit2,hit]
     omega
  ·have hnx:∀ ty,(Instr.next (.pointer (some ⟨w.heap.size,0,none⟩)) true ty).run Tryz.prog wr=_:=fun ty=>Lib.run_next_end_at wr w.heap.size s pos ty hit hp
   have hfin:okText l:=by
    rw [<-hok.out,List.drop_eq_nil_of_le (by have:=HSL.out;omega)];exact okText_nil
   go_wp2
   go_ret
   exact ⟨-1,rfl,⟨fun _=>hfin,fun _=>by omega⟩,hbw⟩
def nanBad (f:Int):Bool:=(bits .and .u64 (f / 4503599627370496) 2047==2047) && (bits .and .u64 f 4503599627370495 != 0) && (f != 9221120237041090561)
def kindBad (k n f:Int) (s:ByteArray) (nl ne:Nat):Bool :=
 decide (k<0) || decide (6<k) || (!(k==1 || k==2) && n != 0) || (k==1 && n != 0 && n != 1) || (k != 3 && f != 0) || nanBad f ||
  (k != 4 && !s.toList.isEmpty) || (k != 5 && decide (0<nl)) || (k != 6 && decide (0<ne))
open Classical in
noncomputable def ownE (k n f:Int) (s:ByteArray) (nl ne:Nat):Nat :=
 if kindBad k n f s nl ne then 10 else if 4000<s.size\/200<nl\/200<ne then 2 else if okText s.data.toList then 0 else 3
def OwnPost (r:Nat) (w:World) (e:Ending) (w':World):Prop:=e=.returned (.int .i64 r)/\Below w.heap.size w w'
theorem nan0:nanBad 0=false:=by decide
theorem nan_of {f E F:Int} (hE:bits .and .u64 (f / 4503599627370496) 2047=E) (hF:bits .and .u64 f 4503599627370495=F):nanBad f=((E==2047) && (F != 0) && (f != 9221120237041090561)):=by unfold nanBad;rw [hE,hF]
theorem empty_of {s:ByteArray} (h:s.toList.isEmpty=true):s=⟨#[]⟩:=by
 have h1:s.toList=[]:=by simpa using h
 have h2:s.data.toList=[]:=by rw [<-h1];exact (ByteArray.toList_eq s).symm
 obtain ⟨a⟩:=s
 have:a=#[]:=by simpa using h2
 rw [this]
end Go.Proofs.YtgnonbdkmmkdgaaGreatDoor
namespace Go.Proofs.YtgnonbdkmmkdgaaGreatDoor
open Go.RowKit Gx
noncomputable def ownV (v:V):Nat:=ownE v.k v.n v.f v.s v.l.length v.e.length
def keyBad (prev:Option ByteArray) (x:ByteArray):Bool:=match prev with|none=>false|some p=>!(Op.bytesLess p.toList x.toList)
open Classical in
noncomputable def keyE (prev:Option ByteArray):List (ByteArray×V)->Nat
 | []=>0
 | x::xs=>if 100<x.1.size then 2 else if ¬ okText x.1.data.toList then 3 else if keyBad prev x.1=true then 14 else keyE (some x.1) xs
def chkAll (f:V->Nat->Nat×Nat):List V->Nat->Nat×Nat
 | [],m=>(0,m)
 | x::xs,m=>if (f x m).1=0 then chkAll f xs (f x m).2 else f x m
noncomputable def chk:Nat->V->Nat->Nat×Nat
 | 0,_,m=>(if 2000<m+1 then 2 else 5,m+1)
 | d+1,v,m=>if 2000<m+1 then (2,m+1) else if ownV v≠0 then (ownV v,m+1) else if keyE none v.e≠0 then (keyE none v.e,m+1) else chkAll (chk d) v.parts (m+1)
noncomputable def chkV (v:V):Nat:=(chk 20 v 0).1
theorem chkAll_snoc (f:V->Nat->Nat×Nat):∀ (xs:List V) (x:V) (m:Nat),(chkAll f xs m).1=0->chkAll f (xs++[x]) m=f x (chkAll f xs m).2
 | [],x,m,_=>by
   show (if (f x m).1=0 then (0,(f x m).2) else f x m)=f x m
   by_cases h:(f x m).1=0
   ·rw [if_pos h];exact Prod.ext h.symm rfl
   ·rw [if_neg h]
 | y::xs,x,m,h=>by
   have e:∀ zs,chkAll f (y::zs) m=if (f y m).1=0 then chkAll f zs (f y m).2 else f y m:=fun _=>rfl
   rw [e] at h
   rw [List.cons_append,e,e]
   by_cases h1:(f y m).1=0
   ·rw [if_pos h1] at h
    rw [if_pos h1,if_pos h1]
    exact chkAll_snoc f xs x _ h
   ·rw [if_neg h1] at h
    exact absurd h h1
theorem chkAll_stop (f:V->Nat->Nat×Nat):∀ (xs ys:List V) (m:Nat),(chkAll f xs m).1≠0->chkAll f (xs++ys) m=chkAll f xs m
 | [],ys,m,h=>absurd rfl h
 | x::xs,ys,m,h=>by
   simp only [chkAll,List.cons_append] at h ⊢
   by_cases h1:(f x m).1=0
   ·rw [if_pos h1] at h
    rw [if_pos h1,if_pos h1]
    exact chkAll_stop f xs ys _ h
   ·rw [if_neg h1,if_neg h1]
theorem chkAll_le (f:V->Nat->Nat×Nat) (hf:∀ x m,m<=2000->(f x m).2<=2001/\((f x m).1=0->(f x m).2<=2000)):∀ (xs:List V) (m:Nat),m<=2000->(chkAll f xs m).2<=2001/\((chkAll f xs m).1=0->(chkAll f xs m).2<=2000)
 | [],m,h=>⟨by simp [chkAll];omega,fun _=>h⟩
 | x::xs,m,h=>by
   simp only [chkAll]
   by_cases h1:(f x m).1=0
   ·rw [if_pos h1]
    exact chkAll_le f hf xs _ ((hf x m h).2 h1)
   ·rw [if_neg h1]
    exact hf x m h
theorem chk_le:∀ (d:Nat) (v:V) (m:Nat),m<=2000->(chk d v m).2<=2001/\((chk d v m).1=0->(chk d v m).2<=2000)
 | 0,v,m,h=>by
   simp only [chk]
   refine ⟨by omega,fun h2=>?_⟩
   split at h2<;>cases h2
 | d+1,v,m,h=>by
   simp only [chk]
   by_cases h1:2000<m+1
   ·rw [if_pos h1];exact ⟨by simp only;omega,fun h2=>by cases h2⟩
   rw [if_neg h1]
   by_cases h2:ownV v≠0
   ·rw [if_pos h2];exact ⟨by simp only;omega,fun h3=>absurd h3 h2⟩
   rw [if_neg h2]
   by_cases h3:keyE none v.e≠0
   ·rw [if_pos h3];exact ⟨by simp only;omega,fun h4=>absurd h4 h3⟩
   rw [if_neg h3]
   exact chkAll_le _ (chk_le d) _ _ (by omega)
def prevK (e:List (ByteArray×V)) (k:Nat):Option ByteArray:=if k=0 then none else (e[k - 1]?).map Prod.fst
theorem prevK_succ {e:List (ByteArray×V)} {k:Nat} {x:ByteArray×V} (h:e[k]?=some x):prevK e (k+1)=some x.1:=by unfold prevK;simp [h]
open Classical in
theorem keyE_drop {e:List (ByteArray×V)} {k:Nat} {x:ByteArray×V} (h:e[k]?=some x):keyE (prevK e k) (e.drop k) =
 if 100<x.1.size then 2 else if ¬ okText x.1.data.toList then 3 else if keyBad (prevK e k) x.1=true then 14 else keyE (prevK e (k+1)) (e.drop (k+1)):=by
 obtain ⟨hl,hx⟩:=List.getElem?_eq_some_iff.1 h
 rw [prevK_succ h,List.drop_eq_getElem_cons hl,hx,keyE]
theorem keyE_end (e:List (ByteArray×V)) (p:Option ByteArray):keyE p (e.drop e.length)=0:=by rw [List.drop_length];rfl
end Go.Proofs.YtgnonbdkmmkdgaaGreatDoor
namespace Go.Proofs.YtgnonbdkmmkdgaaGreatDoor
open Go.RowKit Gx
theorem ownV_zero {v:V} (h:ownV v=0):kindBad v.k v.n v.f v.s v.l.length v.e.length=false/\v.s.size<=4000/\v.l.length<=200/\v.e.length<=200/\okText v.s.data.toList:=by
 unfold ownV ownE at h
 by_cases h1:kindBad v.k v.n v.f v.s v.l.length v.e.length=true
 ·rw [if_pos h1] at h;cases h
 rw [if_neg h1] at h
 by_cases h2:4000<v.s.size\/200<v.l.length\/200<v.e.length
 ·rw [if_pos h2] at h;cases h
 rw [if_neg h2] at h
 by_cases h3:okText v.s.data.toList
 ·exact ⟨by simpa using h1,by omega,by omega,by omega,h3⟩
 ·rw [if_neg h3] at h;cases h
structure OwnOk (v:V):Prop where
 k0:0<=v.k
 k6:v.k<=6
 n:v.k≠1->v.k≠2->v.n=0
 n1:v.k=1->v.n=0\/v.n=1
 f:v.k≠3->v.f=0
 s:v.k≠4->v.s=⟨#[]⟩
 l:v.k≠5->v.l=[]
 e:v.k≠6->v.e=[]
 nan:nanBad v.f=false
theorem kindBad_ok {v:V} (h:kindBad v.k v.n v.f v.s v.l.length v.e.length=false):OwnOk v:=by
 unfold kindBad at h
 simp only [Bool.or_eq_false_iff,Bool.and_eq_false_iff,decide_eq_false_iff_not,bne_eq_false_iff_eq,Bool.not_eq_false',beq_iff_eq,Bool.or_eq_true,beq_eq_false_iff_ne,Bool.not_eq_eq_eq_not,Bool.not_true] at h
 obtain ⟨⟨⟨⟨⟨⟨⟨⟨h1,h2⟩,h3⟩,h4⟩,h5⟩,h6⟩,h7⟩,h8⟩,h9⟩:=h
 refine ⟨by omega,by omega,fun a b=>?_,fun a=>?_,fun a=>?_,fun a=>?_,fun a=>?_,fun a=>?_,h6⟩
 ·rcases h3 with h3|h3
  ·simp at h3;omega
  ·exact h3
 ·omega
 ·omega
 ·rcases h7 with h7|h7
  ·exact absurd h7 a
  ·exact empty_of (by simpa using h7)
 ·rcases h8 with h8|h8
  ·exact absurd h8 a
  ·exact List.eq_nil_of_length_eq_zero (by omega)
 ·rcases h9 with h9|h9
  ·exact absurd h9 a
  ·exact List.eq_nil_of_length_eq_zero (by omega)
theorem keyE_short:∀ (e:List (ByteArray×V)) (p:Option ByteArray),keyE p e=0->∀ x∈e,x.1.size<=100/\okText x.1.data.toList
 | [],_,_,x,hx=>by cases hx
 | y::e,p,h,x,hx=>by
   rw [keyE] at h
   by_cases h1:100<y.1.size
   ·rw [if_pos h1] at h;cases h
   rw [if_neg h1] at h
   by_cases h2:okText y.1.data.toList
   ·rw [if_neg (fun g=>g h2)] at h
    by_cases h3:keyBad p y.1=true
    ·rw [if_pos h3] at h;cases h
    rw [if_neg h3] at h
    rcases List.mem_cons.1 hx with rfl|hx
    ·exact ⟨by omega,h2⟩
    ·exact keyE_short e _ h x hx
   ·rw [if_pos h2] at h;cases h
def Gd:Nat->V->Prop
 | 0,_=>False
 | d+1,v=>ownV v=0/\keyE none v.e=0/\∀ x∈v.parts,Gd d x
theorem chk_gd:∀ (d:Nat) (v:V) (m:Nat),(chk d v m).1=0->Gd d v
 | 0,v,m,h=>by simp only [chk] at h;split at h<;>cases h
 | d+1,v,m,h=>by
   simp only [chk] at h
   by_cases h1:2000<m+1
   ·rw [if_pos h1] at h;cases h
   rw [if_neg h1] at h
   by_cases h2:ownV v≠0
   ·rw [if_pos h2] at h;exact absurd h h2
   rw [if_neg h2] at h
   by_cases h3:keyE none v.e≠0
   ·rw [if_pos h3] at h;exact absurd h h3
   rw [if_neg h3] at h
   refine ⟨by omega,by omega,?_⟩
   have hall:∀ (xs:List V) (m:Nat),(chkAll (chk d) xs m).1=0->∀ x∈xs,Gd d x:=by
    intro xs
    induction xs with
    | nil=>intro m _ x hx;cases hx
    | cons y ys ih =>
      intro m hm x hx
      have e:chkAll (chk d) (y::ys) m=if (chk d y m).1=0 then chkAll (chk d) ys (chk d y m).2 else chk d y m:=rfl
      rw [e] at hm
      by_cases hy:(chk d y m).1=0
      ·rw [if_pos hy] at hm
       rcases List.mem_cons.1 hx with rfl|hx
       ·exact chk_gd d x m hy
       ·exact ih _ hm x hx
      ·rw [if_neg hy] at hm;exact absurd hm hy
   exact hall _ _ h
theorem Gd.ok {d:Nat} {v:V} (h:Gd (d+1) v):OwnOk v:=kindBad_ok (ownV_zero h.1).1
theorem Gd.l {d:Nat} {v:V} (h:Gd (d+1) v):∀ x∈v.l,Gd d x:=fun x hx=>h.2.2 x (List.mem_append_left _ hx)
theorem Gd.e {d:Nat} {v:V} (h:Gd (d+1) v):∀ x∈v.e,Gd d x.2:=fun x hx=>h.2.2 x.2 (List.mem_append_right _ (List.mem_map_of_mem hx))
theorem bl_no:∀ a:List UInt8,Op.bytesLess a a=false
 | []=>rfl
 | x::a=>by
   have h:¬ x<x:=by rw [UInt8.lt_iff_toNat_lt];omega
   simp [Op.bytesLess,bl_no a,h]
theorem bl_tr:∀ {a b c:List UInt8},Op.bytesLess a b=true->Op.bytesLess b c=true->Op.bytesLess a c=true
 | _,[],_,h,_=>by cases ‹List UInt8›<;>simp [Op.bytesLess] at h
 | _,_::_,[],_,h=>by simp [Op.bytesLess] at h
 | [],_::_,_::_,_,_=>rfl
 | x::a,y::b,z::c,h,g=>by
   simp only [Op.bytesLess,Bool.or_eq_true,Bool.and_eq_true,decide_eq_true_eq,beq_iff_eq] at h g ⊢
   rcases h with h|⟨rfl,h⟩
   ·rcases g with g|⟨rfl,g⟩
    ·exact .inl (UInt8.lt_trans h g)
    ·exact .inl h
   ·rcases g with g|⟨rfl,g⟩
    ·exact .inl g
    ·exact .inr ⟨rfl,bl_tr h g⟩
theorem bl_tot:∀ a b:List UInt8,Op.bytesLess a b=true\/a=b\/Op.bytesLess b a=true
 | [],[]=>.inr (.inl rfl)
 | [],_::_=>.inl rfl
 | _::_,[]=>.inr (.inr rfl)
 | x::a,y::b=>by
   simp only [Op.bytesLess,Bool.or_eq_true,Bool.and_eq_true,decide_eq_true_eq,beq_iff_eq,List.cons.injEq]
   rcases Nat.lt_trichotomy x.toNat y.toNat with h|h|h
   ·exact .inl (.inl (UInt8.lt_iff_toNat_lt.2 h))
   ·obtain rfl:=UInt8.toNat_inj.1 h
    rcases bl_tot a b with h1|rfl|h1
    ·exact .inl (.inr ⟨rfl,h1⟩)
    ·exact .inr (.inl ⟨rfl,rfl⟩)
    ·exact .inr (.inr (.inr ⟨rfl,h1⟩))
   ·exact .inr (.inr (.inl (UInt8.lt_iff_toNat_lt.2 h)))
theorem itoa_low (n:Int):∀ c∈Lib.itoa n,c.toNat<128:=by
 intro c hc
 unfold Lib.itoa at hc
 have hd:∀ u,∀ c∈Lib.decDigits u,c.toNat<128:=fun u c hc=>by
  rw [dec_digF (u+1) u (by omega)] at hc
  exact dig_small10 _ _ c hc
 split at hc
 ·rcases List.mem_cons.1 hc with rfl|hc
  ·decide
  ·exact hd _ c hc
 ·exact hd _ c hc
def Rise (e:List (ByteArray×V)):Prop:=e.Pairwise fun x y=>Op.bytesLess x.1.toList y.1.toList=true
def Sh:Nat->V->Prop
 | 0,_=>True
 | d+1,v=>kindBad v.k v.n v.f v.s v.l.length v.e.length=false/\okText v.s.data.toList/\Rise v.e/\(∀ x∈v.e,okText x.1.data.toList)/\∀ x∈v.parts,Sh d x
theorem rise_keyE:∀ (e:List (ByteArray×V)) (p:Option ByteArray),Rise e->(∀ x∈e,okText x.1.data.toList)->(∀ q,p=some q->∀ x∈e,Op.bytesLess q.toList x.1.toList=true)->keyE p e=0\/keyE p e=2
 | [],_,_,_,_=>.inl rfl
 | x::e,p,h,ho,hp=>by
   unfold Rise at h
   rw [List.pairwise_cons] at h
   rw [keyE]
   by_cases h1:100<x.1.size
   ·rw [if_pos h1];exact .inr rfl
   rw [if_neg h1,if_neg (fun g=>g (ho x List.mem_cons_self))]
   have hb:¬ keyBad p x.1=true:=by
    unfold keyBad
    cases p with
    | none=>simp
    | some q =>
      have:=hp q rfl x List.mem_cons_self
      simp [this]
   rw [if_neg hb]
   exact rise_keyE e (some x.1) h.2 (fun y hy=>ho y (List.mem_cons_of_mem _ hy)) (fun q hq y hy=>by obtain rfl:=Option.some.inj hq;exact h.1 y hy)
theorem keyE_rise:∀ (e:List (ByteArray×V)) (p:Option ByteArray),keyE p e=0->Rise e/\∀ q,p=some q->∀ x∈e,Op.bytesLess q.toList x.1.toList=true
 | [],_,_=>⟨List.Pairwise.nil,fun _ _ x hx=>absurd hx List.not_mem_nil⟩
 | x::e,p,h=>by
   rw [keyE] at h
   split at h
   ·cases h
   split at h
   ·cases h
   split at h
   ·cases h
   rename_i h3
   obtain ⟨h1,h2⟩:=keyE_rise e (some x.1) h
   have hx:=h2 x.1 rfl
   refine ⟨List.pairwise_cons.2 ⟨hx,h1⟩,fun q hq y hy=>?_⟩
   subst hq
   have h4:Op.bytesLess q.toList x.1.toList=true:=by unfold keyBad at h3;simpa using h3
   rcases List.mem_cons.1 hy with rfl|hy
   ·exact h4
   ·exact bl_tr h4 (hx y hy)
theorem shape_own {v:V} (h:Sh 1 v):ownV v=0\/ownV v=2:=by
 unfold ownV ownE
 rw [if_neg (by rw [h.1];decide)]
 split
 ·exact .inr rfl
 ·rw [if_pos h.2.1];exact .inl rfl
theorem shape_chk:∀ (d:Nat) (v:V) (m:Nat),(∀ j,Sh j v)->(chk d v m).1=0\/(chk d v m).1=2\/(chk d v m).1=5
 | 0,v,m,_=>by
   simp only [chk]
   split
   ·exact .inr (.inl rfl)
   ·exact .inr (.inr rfl)
 | d+1,v,m,h=>by
   simp only [chk]
   have ho:=shape_own (h 1)
   have hk:=rise_keyE v.e none (h 1).2.2.1 (h 1).2.2.2.1 (fun q hq=>by cases hq)
   split
   ·exact .inr (.inl rfl)
   split
   ·rcases ho with ho|ho
    ·rename_i h1;exact absurd ho h1
    ·exact .inr (.inl ho)
   split
   ·rcases hk with hk|hk
    ·rename_i h1;exact absurd hk h1
    ·exact .inr (.inl hk)
   have hall:∀ (xs:List V) (m:Nat),(∀ x∈xs,∀ j,Sh j x)->(chkAll (chk d) xs m).1=0\/(chkAll (chk d) xs m).1=2\/(chkAll (chk d) xs m).1=5:=by
    intro xs
    induction xs with
    | nil=>intro m _;exact .inl rfl
    | cons y ys ih =>
      intro m hx
      simp only [chkAll]
      split
      ·exact ih _ (fun x hx'=>hx x (List.mem_cons_of_mem _ hx'))
      ·exact shape_chk d y m (hx y List.mem_cons_self)
   exact hall _ _ (fun x hx j=>(h (j+1)).2.2.2.2 x hx)
theorem gd_shape:∀ (n:Nat) (v:V),Gd n v->∀ j,Sh j v
 | _,_,_,0=>trivial
 | 0,v,h,_+1=>h.elim
 | n+1,v,h,j+1=>by
   obtain ⟨a1,-,-,-,a5⟩:=ownV_zero h.1
   exact ⟨a1,a5,(keyE_rise v.e none h.2.1).1,fun x hx=>(keyE_short v.e none h.2.1 x hx).2,fun x hx=>gd_shape n x (h.2.2 x hx) j⟩
theorem good_shape {v:V} (h:chkV v=0):∀ j,Sh j v:=gd_shape 20 v (chk_gd 20 v 0 h)
theorem shape_good {v:V} (h:∀ j,Sh j v):chkV v=0\/chkV v=2\/chkV v=5:=shape_chk 20 v 0 h
theorem rise_drop {e:List (ByteArray×V)} (s:ByteArray) (h:Rise e):Rise (dropL e s):=List.Pairwise.sublist List.filter_sublist h
theorem rise_ins {e:List (ByteArray×V)} {s:ByteArray} {v:V} (h:Rise e) (hn:∀ x∈e,x.1≠s):Rise (insL e s v):=by
 unfold Rise insL at *
 have hsplit:=List.take_append_drop (gidx s e) e
 rw [<-hsplit,List.pairwise_append] at h
 obtain ⟨h1,h2,h3⟩:=h
 rw [List.pairwise_append,List.pairwise_cons]
 have hlow:∀ x∈e.take (gidx s e),Op.bytesLess x.1.toList s.toList=true:=by
  intro x hx
  obtain ⟨i,hi,rfl⟩:=List.mem_take_iff_getElem.1 hx
  have hlt:i<gidx s e:=by omega
  have hg:¬ gtK s (e[i]'(by omega))=true:=by
   have:=List.not_of_lt_findIdx (p:=gtK s) (xs:=e) (i:=i) hlt
   simpa using this
  unfold gtK at hg
  simp only [Bool.and_eq_true,Bool.not_eq_true',not_and,Bool.not_eq_false] at hg
  cases hb:Op.bytesLess (e[i]'(by omega)).1.toList s.toList with
  | true=>rfl
  | false =>
    have:=hg hb
    have he:isK s (e[i]'(by omega))=true:=this
    exact absurd (isK_iff.1 he) (hn _ (List.getElem_mem _))
 have hhigh:∀ x∈e.drop (gidx s e),Op.bytesLess s.toList x.1.toList=true:=by
  cases hd:e.drop (gidx s e) with
  | nil=>intro x hx;cases hx
  | cons y t =>
    have hl:gidx s e<e.length:=by
     have:=congrArg List.length hd
     rw [List.length_drop,List.length_cons] at this
     omega
    have hy:y=e[gidx s e]:=by
     have:=List.drop_eq_getElem_cons hl
     rw [hd] at this
     exact (List.cons.inj this).1
    have hgy:gtK s y=true:=by rw [hy];exact List.findIdx_getElem (w:=hl)
    have hsy:Op.bytesLess s.toList y.1.toList=true:=by
     unfold gtK at hgy
     simp only [Bool.and_eq_true,Bool.not_eq_true'] at hgy
     rcases bl_tot s.toList y.1.toList with h|h|h
     ·exact h
     ·rw [h] at hgy;simp at hgy
     ·rw [h] at hgy;simp at hgy
    rw [hd,List.pairwise_cons] at h2
    intro x hx
    rcases List.mem_cons.1 hx with rfl|hx
    ·exact hsy
    ·exact bl_tr hsy (h2.1 x hx)
 refine ⟨h1,⟨hhigh,h2⟩,fun x hx y hy=>?_⟩
 rcases List.mem_cons.1 hy with rfl|hy
 ·exact hlow x hx
 ·exact h3 x hx y hy
theorem rise_put {e:List (ByteArray×V)} {s:ByteArray} {v:V} (h:Rise e):Rise (putL e s v):=rise_ins (rise_drop s h) (fun _ hx=>(drop_mem.1 hx).2)
theorem shape_set {v:V} {e:List (ByteArray×V)} (h:∀ j,Sh j v) (hk:v.k=6) (hr:Rise e) (ho:∀ x∈e,okText x.1.data.toList/\∀ j,Sh j x.2):∀ j,Sh j (setE v e)
 | 0=>trivial
 | j+1=>by
   obtain ⟨a1,a2,-,-,a5⟩:=h 1
   have ok:=kindBad_ok a1
   have hl:v.l=[]:=ok.l (by omega)
   refine ⟨?_,a2,hr,fun x hx=>(ho x hx).1,?_⟩
   ·show kindBad v.k v.n v.f v.s v.l.length e.length=false
    unfold kindBad at a1 ⊢
    rw [hk] at a1 ⊢
    simpa using a1
   ·intro x hx
    unfold V.parts at hx
    have e1:(setE v e).l=[]:=hl
    have e2:(setE v e).e=e:=rfl
    rw [e1,e2,List.nil_append] at hx
    obtain ⟨c,hc,rfl⟩:=List.mem_map.1 hx
    exact (ho c hc).2 j
theorem shape_ent {v:V} (h:∀ j,Sh j v):∀ x∈v.e,okText x.1.data.toList/\∀ j,Sh j x.2:=fun x hx =>
 ⟨(h 1).2.2.2.1 x hx,fun j=>(h (j+1)).2.2.2.2 x.2 (List.mem_append_right _ (List.mem_map.2 ⟨x,hx,rfl⟩))⟩
theorem shape_leaf {k n f:Int} {s:ByteArray} (hk:kindBad k n f s 0 0=false) (hs:okText s.data.toList):∀ j,Sh j (.mk k n f s [] [])
 | 0=>trivial
 | j+1=>⟨hk,hs,List.Pairwise.nil,fun _ hx=>(List.not_mem_nil hx).elim,fun _ hx=>(List.not_mem_nil hx).elim⟩
theorem become_shape {x y:V} {k:Int} (h:becomeV x k=.ok y) (hx:∀ j,Sh j x):∀ j,Sh j y:=by
 unfold becomeV at h
 split at h
 ·split at h
  ·obtain rfl:=Except.ok.inj h
   refine shape_leaf ?_ ?_
   ·unfold kindBad nanBad;rfl
   ·have:=(okText_asciis (Lib.itoa x.n) (fun c hc=>itoa_low _ c hc) []).2 okText_nil
    rwa [List.append_nil] at this
  ·cases h
 split at h
 ·split at h
  ·split at h
   ·obtain rfl:=Except.ok.inj h
    refine shape_leaf ?_ okText_nil
    unfold kindBad nanBad
    rw [ByteArray.toList_eq];rfl
   ·cases h
  ·cases h
 split at h
 ·obtain rfl:=Except.ok.inj h
  intro j
  cases j with
  | zero=>trivial
  | succ j =>
    refine ⟨?_,okText_nil,List.Pairwise.nil,fun _ hx=>(List.not_mem_nil hx).elim,fun c hc=>?_⟩
    ·show kindBad 5 0 0 ⟨#[]⟩ 1 0=false
     unfold kindBad nanBad
     rw [ByteArray.toList_eq];rfl
    ·obtain rfl:c=x:=List.mem_singleton.1 hc
     exact hx j
 split at h
 ·split at h
  ·rename_i hl
   obtain rfl:=Except.ok.inj h
   obtain ⟨z,hz⟩:∃ z,x.l=[z]:=List.length_eq_one_iff.1 hl
   rw [hz]
   exact fun j=>(hx (j+1)).2.2.2.2 z (List.mem_append_left _ (by rw [hz];exact List.mem_singleton_self _))
  ·cases h
 ·cases h
theorem table_shape {m:Mv} {v z:V} (h:tableM m v=.ok z) (hk:v.k=6) (hv:∀ j,Sh j v) (hm:m.k=3->∀ j,Sh j m.v) (hkey:okText m.key.data.toList) (hdst:m.k=1->okText m.dst.data.toList):∀ j,Sh j z:=by
 have he:=shape_ent hv
 have hr:=(hv 1).2.2.1
 have hput:∀ (e:List (ByteArray×V)) (s:ByteArray) (y:V),Rise e->(∀ x∈e,okText x.1.data.toList/\∀ j,Sh j x.2)->okText s.data.toList->(∀ j,Sh j y)->∀ j,Sh j (setE v (putL e s y)) :=
  fun e s y h1 h2 h3 h4=>shape_set hv hk (rise_put h1) (fun x hx=>by
   rcases put_mem.1 hx with rfl|⟨hx,-⟩
   ·exact ⟨h3,h4⟩
   ·exact h2 x hx)
 unfold tableM at h
 split at h
 ·rename_i m3
  split at h
  ·cases h
  ·obtain rfl:=Except.ok.inj h
   exact hput _ _ _ hr he hkey (hm m3)
 split at h
 ·rename_i hin
  have hent:=ent_find hin
  split at h
  ·rename_i m1
   split at h
   ·cases h
   ·obtain rfl:=Except.ok.inj h
    exact hput _ _ _ (rise_drop _ hr) (fun x hx=>he x (drop_mem.1 hx).1) (hdst m1) (he _ hent).2
  split at h
  ·obtain rfl:=Except.ok.inj h
   exact shape_set hv hk (rise_drop _ hr) (fun x hx=>he x (drop_mem.1 hx).1)
  split at h
  ·rename_i y hy
   obtain rfl:=Except.ok.inj h
   exact hput _ _ _ hr he hkey (become_shape hy (he _ hent).2)
  ·cases h
 ·cases h
theorem along_shape {ch:V->Except Int V} (hch:∀ v z,ch v=.ok z->v.k=6->(∀ j,Sh j v)->∀ j,Sh j z):∀ (p:List ByteArray) (v z:V),alongV ch p v=.ok z->(∀ j,Sh j v)->(∀ s∈p,okText s.data.toList)->∀ j,Sh j z
 | [],v,z,h,hv,_=>by
   rw [alongV] at h
   split at h
   ·rename_i hk;exact hch v z h hk hv
   ·cases h
 | s::p,v,z,h,hv,hp=>by
   rw [alongV] at h
   split at h
   ·rename_i hk
    split at h
    ·rename_i hin
     have hent:=ent_find hin
     have he:=shape_ent hv
     split at h
     ·rename_i x hx
      obtain rfl:=Except.ok.inj h
      have ih:=along_shape hch p _ x hx (he _ hent).2 (fun t ht=>hp t (List.mem_cons_of_mem _ ht))
      exact shape_set hv hk (rise_put (hv 1).2.2.1) (fun y hy=>by
       rcases put_mem.1 hy with rfl|⟨hy,-⟩
       ·exact ⟨hp s List.mem_cons_self,ih⟩
       ·exact he y hy)
     ·cases h
    ·cases h
   ·cases h
end Go.Proofs.YtgnonbdkmmkdgaaGreatDoor
