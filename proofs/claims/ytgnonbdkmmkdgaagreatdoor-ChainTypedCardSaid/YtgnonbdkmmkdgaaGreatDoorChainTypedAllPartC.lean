/-
  Lemmas for the statement: plain laws, and what functions answer; the conditions stand in each.
-/
import Derived.Test.YtgnonbdkmmkdgaaGreatDoorProg
import Derived.Deep.DeepCutAuto
import Derived.Deep.CutBlock
import Derived.Deep.DeepFit
import Derived.Outline
import Derived.WalkLawsBesides
import Derived.StillTailTactics
import Derived.Test.YtgnonbdkmmkdgaaGreatDoorChainTypedAllPartB
set_option linter.unusedVariables false
set_option linter.unusedSimpArgs false
set_option maxHeartbeats 16000000
set_option maxRecDepth 100000
open Go.Lib (hid)
namespace Go.Proofs.YtgnonbdkmmkdgaaGreatDoor
open Go.RowKit Gx
structure Ft where
 n:ByteArray
 o:Bool
 h:Bool
 t:Lt
 d:Loc
def Ft.fd (p:Ft):Fd Ty:=⟨p.n,p.o,p.h,p.t.v,p.d.v⟩
def Ft.one (q:Lt):Ft:=⟨⟨#[]⟩,false,false,q,⟨.zero,none,0,none,0⟩⟩
def cellsF (t:Bool) (p:Ft):List Value:=if t then .string p.n::.bool p.o::.bool p.h::(p.t.cs++p.d.cs) else p.t.cs
theorem cellsF_len (t:Bool) (p:Ft):(cellsF t p).length=sw t:=by cases t<;>rfl
structure AccT (w:World) (vb:Nat) (B:Nat->Prop) (t:Bool) (e:TypeId) (v:Value) (ps:List Ft):Prop where
 own:w.ownsRow (vb+1) e (sw t) v ps.length (ps.flatMap (cellsF t))
 at_:∀ p∈ps,TyAt w (fun b=>B b/\v.ownBlock≠some b) p.t
 ad:∀ p∈ps,VAt w (fun b=>B b/\v.ownBlock≠some b) p.d
 key:∀ p∈ps,p.n.size<=140737488351232
theorem AccT.nil (w:World) (vb:Nat) (B:Nat->Prop) (t:Bool) (e:TypeId):AccT w vb B t e (.slice none 0 0) []:=⟨World.ownsRow_nil _ _ _ _,fun _ h=>absurd h List.not_mem_nil,fun _ h=>absurd h List.not_mem_nil,fun _ h=>absurd h List.not_mem_nil⟩
theorem AccT.grow {w w':World} {vb:Nat} {B:Nat->Prop} {t:Bool} {e:TypeId} {v:Value} {ps:List Ft} {r:Option Nat} (h:AccT w vb B t e v ps) (hg:w.grownBy w' r) (hr:∀ b,r=some b->b<=vb/\¬ B b):AccT w' vb B t e v ps:=by
 refine ⟨h.own.kept hg ?_,fun p hp=>(h.at_ p hp).grow hg (fun b hb hb2=>(hr b hb).2 hb2.1),fun p hp=>(h.ad p hp).grow hg (fun b hb hb2=>(hr b hb).2 hb2.1),h.key⟩
 cases hv:v.ownBlock with
 | none=>exact .inl rfl
 | some b =>
   have:=(h.own.lt b hv).1
   exact .inr (fun e=>by have:=(hr b e.symm).1;omega)
theorem AccT.keep {w w':World} {vb:Nat} {B:Nat->Prop} {t:Bool} {e:TypeId} {v:Value} {ps:List Ft} (h:AccT w vb B t e v ps) (hb:Below w.heap.size w w'):AccT w' vb B t e v ps:=h.grow (grown_none hb) (fun _ e=>absurd e (by simp))
theorem AccT.form {w:World} {vb:Nat} {B:Nat->Prop} {t:Bool} {e:TypeId} {v:Value} {ps:List Ft} (h:AccT w vb B t e v ps):∃ ao c,v=.slice ao ps.length c:=own_form h.own
theorem AccT.push {w w':World} {vb:Nat} {B:Nat->Prop} {t:Bool} {e:TypeId} {v v':Value} {ps:List Ft} {p:Ft} (h:AccT w vb B t e v ps) (hp:TyAt w (fun b=>B b/\v.ownBlock≠some b) p.t) (hd:VAt w (fun b=>B b/\v.ownBlock≠some b) p.d) (hk:p.n.size<=140737488351232)
 (ho:w'.ownsRow (vb+1) e (sw t) v' (ps.length+1) (ps.flatMap (cellsF t)++cellsF t p)) (hs:w.heap.size<=w'.heap.size) (hb:∀ b,B b->v.ownBlock≠some b->b<w.heap.size->w'.heap[b]?=w.heap[b]?) (hm:Moved v v' w.heap.size):AccT w' vb B t e v' (ps++[p]):=by
 have hC:∀ b,(B b/\v.ownBlock≠some b)->b<w.heap.size->(B b/\v'.ownBlock≠some b):=fun b hb hl=>⟨hb.1,fun e=>by
  rcases hm with hm|⟨g,hm,hgl⟩
  ·exact hb.2 (by rw [<-hm];exact e)
  ·rw [hm] at e;have:g=b:=Option.some.inj e;omega⟩
 refine ⟨by rw [List.length_append,List.flatMap_append];simpa using ho,fun x hx=>?_,fun x hx=>?_,fun x hx=>?_⟩
 ·have hx':TyAt w (fun b=>B b/\v.ownBlock≠some b) x.t:=by
   rcases List.mem_append.1 hx with hx|hx
   ·exact h.at_ x hx
   ·obtain rfl:x=p:=by simpa using hx
    exact hp
  exact hx'.through hs (fun b hb' hl=>hb b hb'.1 hb'.2 hl) hC
 ·have hx':VAt w (fun b=>B b/\v.ownBlock≠some b) x.d:=by
   rcases List.mem_append.1 hx with hx|hx
   ·exact h.ad x hx
   ·obtain rfl:x=p:=by simpa using hx
    exact hd
  exact hx'.through hs (fun b hb' hl=>hb b hb'.1 hb'.2 hl) hC
 ·rcases List.mem_append.1 hx with hx|hx
  ·exact h.key x hx
  ·obtain rfl:x=p:=by simpa using hx
   exact hk
theorem AccT.row {w:World} {vb:Nat} {B C:Nat->Prop} {t:Bool} {e:TypeId} {v:Value} {ps:List Ft} {xs:List (Fd Ty)} (h:AccT w vb B t e v ps) (hl:ps.length * 112<=140737488351232) (hx:xs=ps.map Ft.fd) (hC:∀ b,b<w.heap.size->B b\/vb<b->C b):TRow w C t xs v:=by
 subst hx
 have hcell:=fun g=>h.own.cells (g:=g)
 have hlt:=h.own.lt
 rcases h.own.2 with ⟨rfl,h0⟩|⟨g,cap,cur,rfl,hb,-⟩
 ·obtain rfl:ps=[]:=List.eq_nil_of_length_eq_zero h0
  exact .nil _ _ _
 by_cases hne:ps=[]
 ·subst hne;exact .nil _ _ _
 have hm:(ps.map Ft.fd).length=ps.length:=List.length_map _
 have hget:∀ i x,(ps.map Ft.fd)[i]?=some x->∃ p:Ft,ps[i]?=some p/\p.fd=x:=fun i x hi=>by
  rw [List.getElem?_map] at hi
  exact Option.map_eq_some_iff.1 hi
 have hc:∀ i p,ps[i]?=some p->∀ j u,j<sw t->(cellsF t p)[j]?=some u->w.cell? ⟨g,0+i * sw t+j,none⟩=some u:=fun i p hi j u hj hu=>by
  have:=hcell g rfl (i * sw t+j) u ((flat_get (cellsF_len t) ps i p hi j hj).trans hu)
  rw [Addr.add_lit] at this
  rw [Nat.add_assoc];exact this
 have hin:∀ i p,ps[i]?=some p->p∈ps:=fun i p hi=>List.mem_of_getElem? hi
 have hB:∀ {p:Ft},p∈ps->TyAt w C p.t:=fun hp=>(h.at_ _ hp).weak (fun b hb hl=>hC b hl (.inl hb.1))
 have hD:∀ {p:Ft},p∈ps->VAt w C p.d:=fun hp=>(h.ad _ hp).weak (fun b hb hl=>hC b hl (.inl hb.1))
 have hsl:∀ i:Nat,∃ s:Lt×Loc,∀ p,ps[i]?=some p->s=(p.t,p.d):=fun i=>by
  cases hp:ps[i]? with
  | none=>exact ⟨(default,default),fun p h=>(by cases h)⟩
  | some p=>exact ⟨(p.t,p.d),fun q h=>(by cases h;rfl)⟩
 obtain ⟨S,hS⟩:∃ S:Nat->Lt×Loc,∀ i p,ps[i]?=some p->S i=(p.t,p.d):=⟨fun i=>Classical.choose (hsl i),fun i=>Classical.choose_spec (hsl i)⟩
 have hgt:=hlt g rfl
 have key:TRow w C t (ps.map Ft.fd) (.slice (some ⟨g,0,none⟩) (ps.map Ft.fd).length cap):=by
  refine .row t _ g 0 cap (fun i=>.slice (S i).1.xd (S i).1.v.x.length (S i).1.xc) (fun i=>.slice (S i).1.td (S i).1.v.t.length (S i).1.tc) (fun i=>.slice (S i).1.fd (S i).1.v.f.length (S i).1.fc)
   (fun i=>.slice (S i).2.ad (S i).2.v.l.length (S i).2.cap) (fun i=>.slice (S i).2.bd (S i).2.v.e.length (S i).2.dap) (by simpa using hne) (by rw [hm];exact hl) (hC g hgt.2 (.inr (by omega))) hgt.2
   (fun ht i x hi=>?_) (fun ht i x hi=>?_) (fun i x hi=>?_) (fun i x hi=>?_) (fun i x hi=>?_) (fun i x hi=>?_) (fun ht i x hi=>?_) (fun ht i x hi=>?_)
  ·obtain ⟨p,hp,rfl⟩:=hget i x hi
   subst ht
   exact ⟨⟨hc i p hp 0 _ (by decide) rfl,h.key p (hin i p hp)⟩,hc i p hp 1 _ (by decide) rfl,hc i p hp 2 _ (by decide) rfl⟩
  ·obtain ⟨p,hp,rfl⟩:=hget i x hi
   subst ht
   refine ⟨(hD (hin i p hp)).wf,?_⟩
   simp only [hS i p hp]
   exact ⟨hc i p hp 10 _ (by decide) rfl,hc i p hp 11 _ (by decide) rfl,hc i p hp 12 _ (by decide) rfl,hc i p hp 13 _ (by decide) rfl,hc i p hp 14 _ (by decide) rfl,hc i p hp 15 _ (by decide) rfl⟩
  ·obtain ⟨p,hp,rfl⟩:=hget i x hi
   refine ⟨(hB (hin i p hp)).wf,?_⟩
   simp only [hS i p hp]
   cases t with
   | false=>exact ⟨hc i p hp 0 _ (by decide) rfl,hc i p hp 1 _ (by decide) rfl,hc i p hp 2 _ (by decide) rfl,hc i p hp 3 _ (by decide) rfl,hc i p hp 4 _ (by decide) rfl,hc i p hp 5 _ (by decide) rfl,hc i p hp 6 _ (by decide) rfl⟩
   | true=>exact ⟨hc i p hp 3 _ (by decide) rfl,hc i p hp 4 _ (by decide) rfl,hc i p hp 5 _ (by decide) rfl,hc i p hp 6 _ (by decide) rfl,hc i p hp 7 _ (by decide) rfl,hc i p hp 8 _ (by decide) rfl,hc i p hp 9 _ (by decide) rfl⟩
  ·obtain ⟨p,hp,rfl⟩:=hget i x hi
   simp only [hS i p hp]
   exact (hB (hin i p hp)).x
  ·obtain ⟨p,hp,rfl⟩:=hget i x hi
   simp only [hS i p hp]
   exact (hB (hin i p hp)).t
  ·obtain ⟨p,hp,rfl⟩:=hget i x hi
   simp only [hS i p hp]
   exact (hB (hin i p hp)).f
  ·obtain ⟨p,hp,rfl⟩:=hget i x hi
   simp only [hS i p hp]
   exact (hD (hin i p hp)).l
  ·obtain ⟨p,hp,rfl⟩:=hget i x hi
   simp only [hS i p hp]
   exact (hD (hin i p hp)).e
 rw [hm] at key
 exact key
def zeroTy:Value:=.agg #[.int .i64 0,.int .i64 0,.int .i64 0,.slice none 0 0,.slice none 0 0,.slice none 0 0,.string ⟨#[]⟩]
def zeroFd:Value:=.agg #[.string ⟨#[]⟩,.bool false,.bool false,.int .i64 0,.int .i64 0,.int .i64 0,.slice none 0 0,.slice none 0 0,.slice none 0 0,.string ⟨#[]⟩,.int .i64 0,.int .i64 0,.int .u64 0,.string ⟨#[]⟩,.slice none 0 0,.slice none 0 0]
theorem Tryz.info_ty:(Tryz.prog.info? 27).map (fun i=>(i.zero,i.size,i.bytes))=some (some zeroTy,7,112):=by kernel_rfl
theorem Tryz.info_fd:(Tryz.prog.info? 65).map (fun i=>(i.zero,i.size,i.bytes))=some (some zeroFd,16,224):=by kernel_rfl
theorem cellsF_one (t:Bool) (p:Ft):∀ u∈cellsF t p,u.oneCell'=true:=by
 intro u hu
 cases t with
 | false =>
   simp only [cellsF,Lt.cs,List.mem_cons,List.not_mem_nil,or_false,if_neg (show ¬ (false=true) by decide)] at hu
   rcases hu with rfl|rfl|rfl|rfl|rfl|rfl|rfl<;>rfl
 | true =>
   simp only [cellsF,Lt.cs,Loc.cs,List.mem_cons,List.mem_append,List.not_mem_nil,or_false,if_true] at hu
   rcases hu with rfl|rfl|rfl|(rfl|rfl|rfl|rfl|rfl|rfl|rfl)|(rfl|rfl|rfl|rfl|rfl|rfl)<;>rfl
theorem step_accT {t:Bool} {e ti:TypeId} {z:Value} {bytes:Nat} (ht:Tryz.prog.underlying ti=some (.slice e)) (hinfo:(Tryz.prog.info? e).map (fun i=>(i.zero,i.size,i.bytes))=some (some z,sw t,bytes)) (hzs:z.cells.size=sw t) (hby:bytes<=224)
 {ops:Array Oper} {o:Oper} {ac:Act} {K:Act->World->Prop} {Q:Exit->Act->World->Prop} {F:Prop} {w:World} {vb:Nat} {B:Nat->Prop} {v:Value} {ps:List Ft} (hgd:o.guard=none) (s x:Operand)
 (ho:o.op=.call { callee:=.builtin .append,args:=#[s,x],argTypes:=#[ti,ti] }) (h:AccT w vb B t e v ps) (hb:vb+1<=w.heap.size) (p:Ft) (hp:TyAt w (fun b=>B b/\v.ownBlock≠some b) p.t) (hd:VAt w (fun b=>B b/\v.ownBlock≠some b) p.d) (hk:p.n.size<=140737488351232)
 (W:World) (hW:W=w.alloc (.cells (cellsF t p).toArray e)) (hs:ac.eval s=v) (hx:ac.eval x=.slice (some ⟨w.heap.size,0,none⟩) 1 1) (n:Nat) (hn:ps.length=n) (hl:(n+1) * bytes<=140737488351232) (h63:n<=10000000000000)
 (hK:∀ ao c w',AccT w' vb B t e (.slice ao (n+1) c) (ps++[p])->w.grownBy w' v.ownBlock->K (ac.put o.dst (.slice ao (n+1) c)) w') :
 if Region.wanted o (yielded ops ac.tmps)=true then Oper.wp Tryz.prog o ac W K Q else F:=by
 subst hW
 subst hn
 obtain ⟨i0,hi,hz0,hz1,hz2⟩:=info_parts hinfo
 have hw:Region.wanted o (yielded ops ac.tmps)=true:=by simp [Region.wanted,hgd]
 rw [if_pos hw]
 have hst:0<sw t:=by cases t<;>decide
 obtain ⟨v',w',hr,ho2,hg,hm,hnn⟩:=run_append_moved (P:=Tryz.prog) (w.alloc (.cells (cellsF t p).toArray e)) (vb+1) ti o.type e i0 z (sw t) bytes ht hi hz0 hz1 hz2 hzs hst v ps.length (ps.flatMap (cellsF t))
  (h.own.alloc _) ⟨w.heap.size,0,none⟩ 1 1 (cellsF t p) (by rw [cellsF_len,Nat.one_mul])
  (fun j u hj=>by
    rw [Addr.add_lit]
    have:=World.cell?_alloc_mark w (cellsF t p).toArray e (0,0) (0+j)
    rw [this];simpa using hj)
  (cellsF_one t p) (Nat.le_trans hl (by decide)) (by unfold maxLen;omega) (by simp;omega)
 have hg':=grown_alloc' (.cells (cellsF t p).toArray e) hg
 have hm':Moved v v' w.heap.size:=by
  rcases hm with hm|⟨g,hm,hgl⟩
  ·exact .inl hm
  ·exact .inr ⟨g,hm,by simp at hgl;omega⟩
 have hacc:=h.push hp hd hk ho2 hg'.size (fun b _ hb hl=>hg'.block b hl (fun e=>hb e.symm)) hm'
 obtain ⟨ao,c,rfl⟩:=own_form ho2
 unfold Oper.wp execOp
 simp only [ho,resolve,invoke,builtin,Sem.run_bind,Sem.run_pure,Result.andThen_ok,List.map_toArray,List.map_cons,List.map_nil,hs,hx,hr]
 exact hK ao c w' hacc hg'
theorem fidx_at {s:ByteArray} {l:List (ByteArray×V)} {k:Nat} {y:ByteArray×V} (hy:l[k]?=some y) (h:isK s y=true) (hlt:∀ j z,j<k->l[j]?=some z->isK s z=false):fidx s l=k:=by
 obtain ⟨hk,rfl⟩:=List.getElem?_eq_some_iff.1 hy
 unfold fidx
 rw [List.findIdx_eq hk]
 exact ⟨h,fun j hj=>hlt j _ hj (List.getElem?_eq_getElem (by omega))⟩
theorem fidx_no {s:ByteArray} {l:List (ByteArray×V)} (hlt:∀ j z,j<l.length->l[j]?=some z->isK s z=false):fidx s l=l.length:=by
 unfold fidx
 rw [List.findIdx_eq_length]
 intro x hx
 obtain ⟨j,hj,rfl⟩:=List.getElem_of_mem hx
 exact hlt j _ hj (List.getElem?_eq_getElem hj)
def KeyPostE (b:Bool) (w:World) (e:Ending) (w':World):Prop:=e=.returned (.bool b)/\Below w.heap.size w w'
theorem find1_any (x:ByteArray) (k n f:Int) (t:ByteArray) (sl se:Value) (K:Nat) (s:ByteArray) (w:World) (hK:w.cell? ⟨K,0,none⟩=some (.string s)) (b:Bool) (hb:(x.toList==s.toList)=b) :
 Calls Tryz.prog 107 #[.agg #[.string x,.int .i64 k,.int .i64 n,.int .u64 f,.string t,sl,se],.pointer (some ⟨K,0,none⟩)] w (KeyPostE b w):=by
 have hlt:=World.block_lt_of_cell? w _ hK
 have hbl:=(Below.refl w.heap.size w).alloc (Nat.le_refl _) (.cells #[.string x,.int .i64 k,.int .i64 n,.int .u64 f,.string t,sl,se] 96)
 have hk1:=(hbl.cell (p:=⟨K,0,none⟩) hlt).trans hK
 have hx1:(w.alloc (.cells #[.string x,.int .i64 k,.int .i64 n,.int .u64 f,.string t,sl,se] 96)).cell? ⟨w.heap.size,0,none⟩=some (.string x):=(seven_cells (heap_alloc_new w _)).1
 have HB:=hid hbl
 clear hK hlt hbl
 go_enter Tryz.func107,Tryz.ntmps107
 go_upto_region 1 with fail
 generalize hw2:World.alloc w _=w2 at HB hk1 hx1 ⊢
 clear hw2
 go_wp2_with fail
 try go_ret
 exact ⟨by rw [<-hb];rfl,HB.out⟩
def IdxPostE (i:Nat) (n:Nat) (w:World) (e:Ending) (w':World):Prop:=e=.returned (.int .i64 (if i<n then (i:Int) else -1))/\Below w.heap.size w w'
theorem indexEnt_any (bd:Option Addr) (dap:Nat) (l:List (ByteArray×V)) (K:Nat) (s:ByteArray) (w:World) (h:RowAt w (fun _=>True) true l (.slice bd l.length dap)) (hK:w.cell? ⟨K,0,none⟩=some (.string s)) :
 Calls Tryz.prog 106 #[.slice bd l.length dap,.func (.func 107) #[] #[.pointer (some ⟨K,0,none⟩)]] w (IdxPostE (fidx s l) l.length w):=by
 have hltK:=World.block_lt_of_cell? w _ hK
 have HK:=hid hK
 have H:=hid h
 have hbn:=h.ebound
 have HNO:=hid (fidx_no (s:=s) (l:=l))
 have HAT:=hid (fun k y=>fidx_at (s:=s) (l:=l) (k:=k) (y:=y))
 obtain ⟨n,hn⟩:∃ n,l.length=n:=⟨_,rfl⟩
 rw [hn] at hbn HNO ⊢
 have HN:=hid hn
 clear h hK hn
 go_enter Tryz.func106,Tryz.ntmps106
 go_wp2_with fail
 go_loopw [5,8] (fun _ v wr=>∃ k:Nat,k<=n/\v=.int .i64 k/\Hid (∀ j z,j<k->l[j]?=some z->isK s z=false)/\Hid (Below w.heap.size w wr)) (fun _ v _=>n - (intOf v).toNat)
 case atStart=>exact ⟨0,Nat.zero_le _,rfl,hid (fun j z h=>by omega),hid (Below.refl _ _)⟩
 case round =>
  obtain ⟨k,hk,rfl,HL,HB⟩:=hrel
  by_cases hlt:k<n
  ·obtain ⟨x,hx⟩:∃ x,l[k]?=some x:=⟨_,List.getElem?_eq_getElem (by rw [HN.out];exact hlt)⟩
   obtain ⟨b1,o1,hd1,-,hbl1,hcs1⟩:=H.out.entry (by rw [HN.out];omega)
   subst hd1
   obtain ⟨-,gk1,q1,hq1,hv1,hg1⟩:=hcs1 k x hx
   clear hcs1
   have k1:wr.cell? ⟨b1,o1+k * 7,none⟩=some (.string x.1):=(HB.out.cell (p:=⟨b1,_,none⟩) hbl1).trans gk1
   obtain ⟨c0,c1,c2,c3,c4,c5⟩:=(hg1.through (HB.out.block _ hbl1)).seven
   have hKr:=(HB.out.cell (p:=⟨K,0,none⟩) hltK).trans HK.out
   obtain ⟨b,hb⟩:∃ b,(x.1.toList==s.toList)=b:=⟨_,rfl⟩
   have HC:=hid (find1_any x.1 q1.v.k q1.v.n q1.v.f q1.v.s (.slice q1.ad q1.v.l.length q1.cap) (.slice q1.bd q1.v.e.length q1.dap) K s wr hKr b hb)
   have HX:=hid hx
   have HBB:=hid hb
   have r1:(0:Int)<=(k:Int):=by omega
   have r2:(k:Int)<(n:Int):=by omega
   clear hx hq1 hv1 hg1 gk1 hb hKr
   go_wp2_with fail
   (with_reducible refine HC.out.mono ?_)
   rintro e w2 ⟨rfl,hb2⟩
   have HB2:=hid (HB.out.trans (hb2.mono HB.out.size))
   clear hb2 c0 c1 c2 c3 c4 c5 k1
   cases b with
   | true =>
     have hf:=HAT.out k x HX.out HBB.out HL.out
     go_wp2_with fail
     try go_ret
     exact ⟨by rw [hf,if_pos hlt];rfl,HB2.out⟩
   | false =>
     have HL2:Hid (∀ j z,j<k+1->l[j]?=some z->isK s z=false):=hid (fun j z hj hz=>by
      by_cases e:j=k
      ·subst e
       rw [HX.out] at hz
       cases hz
       exact HBB.out
      ·exact HL.out j z (by omega) hz)
     go_wp2_with fail
     go_roundw
     case rel=>exact ⟨k+1,by omega,by go_num,HL2,HB2⟩
     case measure=>simp [intOf];omega
  ·obtain rfl:k=n:=by omega
   have hf:=HNO.out HL.out
   go_wp2_with fail
   try go_ret
   exact ⟨by rw [hf,if_neg (Nat.lt_irrefl _)];rfl,HB.out⟩
theorem find_any (bd:Option Addr) (dap:Nat) (l:List (ByteArray×V)) (s:ByteArray) (w:World) (h:RowAt w (fun _=>True) true l (.slice bd l.length dap)) :
 Calls Tryz.prog 85 #[.slice bd l.length dap,.string s] w (IdxPostE (fidx s l) l.length w):=by
 have hbl:=(Below.refl w.heap.size w).alloc (Nat.le_refl _) (.cells #[.string s] 9)
 have hs1:(w.alloc (.cells #[.string s] 9)).cell? ⟨w.heap.size,0,none⟩=some (.string s):=by have:=heap_alloc_new w (.cells #[.string s] 9);exact (by simp only [World.cell?,this];rfl)
 have HC:=hid (indexEnt_any bd dap l w.heap.size s _ (h.keep hbl) hs1)
 have HB:=hid hbl
 obtain ⟨I,hI⟩:∃ I:Int,(if fidx s l<l.length then (fidx s l:Int) else -1)=I:=⟨_,rfl⟩
 unfold IdxPostE at HC ⊢
 rw [hI] at HC ⊢
 clear h hs1 hbl hI
 generalize l.length=n at *
 go_enter Tryz.func85,Tryz.ntmps85
 go_upto_region 1 with fail
 generalize hw2:World.alloc w _=w2 at HB HC ⊢
 clear hw2
 go_wp2_with fail
 (with_reducible refine HC.out.mono ?_)
 rintro e w3 ⟨rfl,hb3⟩
 have HB3:=hid (HB.out.trans (hb3.mono HB.out.size))
 clear hb3
 go_wp2_with fail
 try go_ret
 refine ⟨?_,HB3.out⟩
 rfl
def Ft.val (p:Ft):Value:=.agg #[.string p.n,.bool p.o,.bool p.h,.int .i64 p.t.v.k,.int .i64 p.t.v.lo,.int .i64 p.t.v.hi,.slice p.t.xd p.t.v.x.length p.t.xc,.slice p.t.td p.t.v.t.length p.t.tc,.slice p.t.fd p.t.v.f.length p.t.fc,.string p.t.v.n,.int .i64 p.d.v.k,.int .i64 p.d.v.n,.int .u64 p.d.v.f,.string p.d.v.s,.slice p.d.ad p.d.v.l.length p.d.cap,.slice p.d.bd p.d.v.e.length p.d.dap]
structure FcAt (w:World) (b o:Nat) (p:Ft):Prop where
 c0:w.cell? ⟨b,o,none⟩=some (.string p.n)
 c1:w.cell? ⟨b,o+1,none⟩=some (.bool p.o)
 c2:w.cell? ⟨b,o+2,none⟩=some (.bool p.h)
 c3:w.cell? ⟨b,o+3,none⟩=some (.int .i64 p.t.v.k)
 c4:w.cell? ⟨b,o+4,none⟩=some (.int .i64 p.t.v.lo)
 c5:w.cell? ⟨b,o+5,none⟩=some (.int .i64 p.t.v.hi)
 c6:w.cell? ⟨b,o+6,none⟩=some (.slice p.t.xd p.t.v.x.length p.t.xc)
 c7:w.cell? ⟨b,o+7,none⟩=some (.slice p.t.td p.t.v.t.length p.t.tc)
 c8:w.cell? ⟨b,o+8,none⟩=some (.slice p.t.fd p.t.v.f.length p.t.fc)
 c9:w.cell? ⟨b,o+9,none⟩=some (.string p.t.v.n)
 c10:w.cell? ⟨b,o+10,none⟩=some (.int .i64 p.d.v.k)
 c11:w.cell? ⟨b,o+11,none⟩=some (.int .i64 p.d.v.n)
 c12:w.cell? ⟨b,o+12,none⟩=some (.int .u64 p.d.v.f)
 c13:w.cell? ⟨b,o+13,none⟩=some (.string p.d.v.s)
 c14:w.cell? ⟨b,o+14,none⟩=some (.slice p.d.ad p.d.v.l.length p.d.cap)
 c15:w.cell? ⟨b,o+15,none⟩=some (.slice p.d.bd p.d.v.e.length p.d.dap)
theorem FcAt.through {w w':World} {b o:Nat} {p:Ft} (h:FcAt w b o p) (hb:w'.heap[b]?=w.heap[b]?):FcAt w' b o p:=by
 have hq:∀ o,w'.cell? ⟨b,o,none⟩=w.cell? ⟨b,o,none⟩:=fun o=>World.cell?_of_block hb
 exact ⟨(hq _).trans h.c0,(hq _).trans h.c1,(hq _).trans h.c2,(hq _).trans h.c3,(hq _).trans h.c4,(hq _).trans h.c5,(hq _).trans h.c6,(hq _).trans h.c7,(hq _).trans h.c8,(hq _).trans h.c9,(hq _).trans h.c10,(hq _).trans h.c11,(hq _).trans h.c12,(hq _).trans h.c13,(hq _).trans h.c14,(hq _).trans h.c15⟩
theorem FcAt.box {w:World} {b:Nat} {p:Ft} {ty:TypeId} (h:w.heap[b]?=some (.cells #[.string p.n,.bool p.o,.bool p.h,.int .i64 p.t.v.k,.int .i64 p.t.v.lo,.int .i64 p.t.v.hi,.slice p.t.xd p.t.v.x.length p.t.xc,.slice p.t.td p.t.v.t.length p.t.tc,.slice p.t.fd p.t.v.f.length p.t.fc,.string p.t.v.n,.int .i64 p.d.v.k,.int .i64 p.d.v.n,.int .u64 p.d.v.f,.string p.d.v.s,.slice p.d.ad p.d.v.l.length p.d.cap,.slice p.d.bd p.d.v.e.length p.d.dap] ty)):FcAt w b 0 p:=by
 constructor<;>simp [World.cell?,h]
theorem TRow.fieldF {w:World} {B:Nat->Prop} {l:List (Fd Ty)} {ad:Option Addr} {n cap:Nat} (h:TRow w B true l (.slice ad n cap)) (hl:0<l.length):∃ b off,ad=some ⟨b,off,none⟩/\B b/\b<w.heap.size /\
 ∀ i x,l[i]?=some x->∃ p:Ft,p.fd=x/\TyAt w B p.t/\VAt w B p.d/\p.n.size<=140737488351232/\FcAt w b (off+i * 16) p:=by
 obtain ⟨b,off,h1,h2,h3,h4⟩:=h.field hl
 refine ⟨b,off,h1,h2,h3,fun i x hi=>?_⟩
 obtain ⟨k,e0,e1,e2,⟨q,hq,hqt,a0,a1,a2,a3,a4,a5,a6⟩,p,hp,hpv,b0,b1,b2,b3,b4,b5⟩:=h4 i x hi
 obtain ⟨xn,xo,xh,xt,xd⟩:=x
 simp only at hq hp k e0 e1 e2
 refine ⟨⟨xn,xo,xh,q,p⟩,by unfold Ft.fd;rw [hq,hp],hqt,hpv,k,⟨e0,e1,e2,a0,a1,a2,a3,a4,a5,a6,b0,b1,b2,b3,b4,b5⟩⟩
def fpos (s:ByteArray) (l:List (Fd Ty)):Nat:=l.findIdx fun f=>decide (f.n=s)
theorem fpos_at {s:ByteArray} {l:List (Fd Ty)} {k:Nat} {y:Fd Ty} (hy:l[k]?=some y) (h:decide (y.n=s)=true) (hlt:∀ j z,j<k->l[j]?=some z->decide (z.n=s)=false):fpos s l=k:=by
 obtain ⟨hk,rfl⟩:=List.getElem?_eq_some_iff.1 hy
 unfold fpos
 rw [List.findIdx_eq hk]
 exact ⟨h,fun j hj=>hlt j _ hj (List.getElem?_eq_getElem (by omega))⟩
theorem fpos_no {s:ByteArray} {l:List (Fd Ty)} (hlt:∀ j z,j<l.length->l[j]?=some z->decide (z.n=s)=false):fpos s l=l.length:=by
 unfold fpos
 rw [List.findIdx_eq_length]
 intro x hx
 obtain ⟨j,hj⟩:=List.getElem?_of_mem hx
 exact hlt j x (List.getElem?_eq_some_iff.1 hj).1 hj
theorem fdOf_fpos (s:ByteArray) (l:List (Fd Ty)):fdOf l s=l[fpos s l]?:=by
 unfold fdOf fpos
 exact List.find?_eq_getElem?_findIdx
theorem name_eq {a b:ByteArray}:(a.toList==b.toList)=decide (a=b):=by
 by_cases h:a=b
 ·subst h;simp
 ·rw [decide_eq_false h,beq_eq_false_iff_ne]
  exact fun e=>h (by rw [ByteArray.toList_eq,ByteArray.toList_eq] at e;exact ByteArray.ext (Array.toList_inj.1 e))
theorem recCmp_any (p:Ft) (K:Nat) (s:ByteArray) (w:World) (hK:w.cell? ⟨K,0,none⟩=some (.string s)) (b:Bool) (hb:(p.n.toList==s.toList)=b) :
 Calls Tryz.prog 105 #[p.val,.pointer (some ⟨K,0,none⟩)] w (KeyPostE b w):=by
 unfold Ft.val
 have hlt:=World.block_lt_of_cell? w _ hK
 have hbl:=(Below.refl w.heap.size w).alloc (Nat.le_refl _) (.cells #[.string p.n,.bool p.o,.bool p.h,.int .i64 p.t.v.k,.int .i64 p.t.v.lo,.int .i64 p.t.v.hi,.slice p.t.xd p.t.v.x.length p.t.xc,.slice p.t.td p.t.v.t.length p.t.tc,.slice p.t.fd p.t.v.f.length p.t.fc,.string p.t.v.n,.int .i64 p.d.v.k,.int .i64 p.d.v.n,.int .u64 p.d.v.f,.string p.d.v.s,.slice p.d.ad p.d.v.l.length p.d.cap,.slice p.d.bd p.d.v.e.length p.d.dap] 65)
 have hk1:=(hbl.cell (p:=⟨K,0,none⟩) hlt).trans hK
 have hx1:=(FcAt.box (heap_alloc_new w (.cells #[.string p.n,.bool p.o,.bool p.h,.int .i64 p.t.v.k,.int .i64 p.t.v.lo,.int .i64 p.t.v.hi,.slice p.t.xd p.t.v.x.length p.t.xc,.slice p.t.td p.t.v.t.length p.t.tc,.slice p.t.fd p.t.v.f.length p.t.fc,.string p.t.v.n,.int .i64 p.d.v.k,.int .i64 p.d.v.n,.int .u64 p.d.v.f,.string p.d.v.s,.slice p.d.ad p.d.v.l.length p.d.cap,.slice p.d.bd p.d.v.e.length p.d.dap] 65))).c0
 have HB:=hid hbl
 clear hK hlt hbl
 go_enter Tryz.func105,Tryz.ntmps105
 go_upto_region 1 with fail
 generalize hw2:World.alloc w _=w2 at HB hk1 hx1 ⊢
 clear hw2
 go_wp2_with fail
 try go_ret
 exact ⟨by rw [<-hb];rfl,HB.out⟩
theorem findCmp_any (p:Ft) (K:Nat) (s:ByteArray) (w:World) (hK:w.cell? ⟨K,0,none⟩=some (.string s)) (b:Bool) (hb:(p.n.toList==s.toList)=b) :
 Calls Tryz.prog 101 #[p.val,.pointer (some ⟨K,0,none⟩)] w (KeyPostE b w):=by
 unfold Ft.val
 have hlt:=World.block_lt_of_cell? w _ hK
 have hbl:=(Below.refl w.heap.size w).alloc (Nat.le_refl _) (.cells #[.string p.n,.bool p.o,.bool p.h,.int .i64 p.t.v.k,.int .i64 p.t.v.lo,.int .i64 p.t.v.hi,.slice p.t.xd p.t.v.x.length p.t.xc,.slice p.t.td p.t.v.t.length p.t.tc,.slice p.t.fd p.t.v.f.length p.t.fc,.string p.t.v.n,.int .i64 p.d.v.k,.int .i64 p.d.v.n,.int .u64 p.d.v.f,.string p.d.v.s,.slice p.d.ad p.d.v.l.length p.d.cap,.slice p.d.bd p.d.v.e.length p.d.dap] 65)
 have hk1:=(hbl.cell (p:=⟨K,0,none⟩) hlt).trans hK
 have hx1:=(FcAt.box (heap_alloc_new w (.cells #[.string p.n,.bool p.o,.bool p.h,.int .i64 p.t.v.k,.int .i64 p.t.v.lo,.int .i64 p.t.v.hi,.slice p.t.xd p.t.v.x.length p.t.xc,.slice p.t.td p.t.v.t.length p.t.tc,.slice p.t.fd p.t.v.f.length p.t.fc,.string p.t.v.n,.int .i64 p.d.v.k,.int .i64 p.d.v.n,.int .u64 p.d.v.f,.string p.d.v.s,.slice p.d.ad p.d.v.l.length p.d.cap,.slice p.d.bd p.d.v.e.length p.d.dap] 65))).c0
 have HB:=hid hbl
 clear hK hlt hbl
 go_enter Tryz.func101,Tryz.ntmps101
 go_upto_region 1 with fail
 generalize hw2:World.alloc w _=w2 at HB hk1 hx1 ⊢
 clear hw2
 go_wp2_with fail
 try go_ret
 exact ⟨by rw [<-hb];rfl,HB.out⟩
theorem indexFd_any (fn:FuncId) (hfn:fn=105\/fn=101) (ad:Option Addr) (cap:Nat) (l:List (Fd Ty)) (K:Nat) (s:ByteArray) (w:World) (h:TRow w (fun _=>True) true l (.slice ad l.length cap)) (hK:w.cell? ⟨K,0,none⟩=some (.string s)) :
 Calls Tryz.prog 100 #[.slice ad l.length cap,.func (.func fn) #[] #[.pointer (some ⟨K,0,none⟩)]] w (IdxPostE (fpos s l) l.length w):=by
 have hltK:=World.block_lt_of_cell? w _ hK
 have HK:=hid hK
 have H:=hid h
 have hbn:=h.bound
 have HNO:=hid (fpos_no (s:=s) (l:=l))
 have HAT:=hid (fun k y=>fpos_at (s:=s) (l:=l) (k:=k) (y:=y))
 obtain ⟨n,hn⟩:∃ n,l.length=n:=⟨_,rfl⟩
 rw [hn] at hbn HNO ⊢
 have HN:=hid hn
 have HC:Hid (∀ (p:Ft) (W:World) (b:Bool),W.cell? ⟨K,0,none⟩=some (.string s)->(p.n.toList==s.toList)=b->Calls Tryz.prog fn #[p.val,.pointer (some ⟨K,0,none⟩)] W (KeyPostE b W)):=hid (by
  rcases hfn with rfl|rfl
  ·exact fun p W b h1 h2=>recCmp_any p K s W h1 b h2
  ·exact fun p W b h1 h2=>findCmp_any p K s W h1 b h2)
 unfold Ft.val at HC
 clear h hK hn
 rcases hfn with rfl|rfl
 all_goals
  go_enter Tryz.func100,Tryz.ntmps100
  go_wp2_with fail
  go_loopw [5,8] (fun _ v wr=>∃ k:Nat,k<=n/\v=.int .i64 k/\Hid (∀ j z,j<k->l[j]?=some z->decide (z.n=s)=false)/\Hid (Below w.heap.size w wr)) (fun _ v _=>n - (intOf v).toNat)
  case atStart=>exact ⟨0,Nat.zero_le _,rfl,hid (fun j z h=>by omega),hid (Below.refl _ _)⟩
  case round =>
   obtain ⟨k,hk,rfl,HL,HB⟩:=hrel
   by_cases hlt:k<n
   ·obtain ⟨x,hx⟩:∃ x,l[k]?=some x:=⟨_,List.getElem?_eq_getElem (by rw [HN.out];exact hlt)⟩
    obtain ⟨b1,o1,hd1,-,hbl1,hcs1⟩:=H.out.fieldF (by rw [HN.out];omega)
    subst hd1
    obtain ⟨p,hp,-,-,-,hg⟩:=hcs1 k x hx
    obtain ⟨c0,c1,c2,c3,c4,c5,c6,c7,c8,c9,c10,c11,c12,c13,c14,c15⟩:=hg.through (w':=wr) (HB.out.block _ hbl1)
    obtain ⟨b,hb⟩:∃ b,(p.n.toList==s.toList)=b:=⟨_,rfl⟩
    have HC1:=hid (HC.out p wr b ((HB.out.cell (p:=⟨K,0,none⟩) hltK).trans HK.out) hb)
    have HX:=hid hx
    have HBB:Hid (decide (x.n=s)=b):=hid (by rw [<-name_eq,<-hp];exact hb)
    have r1:(0:Int)<=(k:Int):=by omega
    have r2:(k:Int)<(n:Int):=by omega
    clear hx hp hg hcs1 hb
    go_wp2_with fail
    (with_reducible refine HC1.out.mono ?_)
    rintro e w2 ⟨rfl,hb2⟩
    have HB2:=hid (HB.out.trans (hb2.mono HB.out.size))
    clear hb2 c0 c1 c2 c3 c4 c5 c6 c7 c8 c9 c10 c11 c12 c13 c14 c15
    cases b with
    | true =>
      have hf:=HAT.out k x HX.out HBB.out HL.out
      go_wp2_with fail
      try go_ret
      exact ⟨by rw [hf,if_pos hlt];rfl,HB2.out⟩
    | false =>
      have HL2:Hid (∀ j z,j<k+1->l[j]?=some z->decide (z.n=s)=false):=hid (fun j z hj hz=>by
       by_cases e:j=k
       ·subst e
        rw [HX.out] at hz
        cases hz
        exact HBB.out
       ·exact HL.out j z (by omega) hz)
      go_wp2_with fail
      go_roundw
      case rel=>exact ⟨k+1,by omega,by go_num,HL2,HB2⟩
      case measure=>simp [intOf];omega
   ·obtain rfl:k=n:=by omega
    have hf:=HNO.out HL.out
    go_wp2_with fail
    try go_ret
    exact ⟨by rw [hf,if_neg (Nat.lt_irrefl _)];rfl,HB.out⟩
theorem own_same {w w':World} {base:Nat} {e:TypeId} {size:Nat} {v:Value} {n:Nat} {xs:List Value} (h:w.ownsRow base e size v n xs) (hb:∀ b,v.ownBlock=some b->w'.heap[b]?=w.heap[b]?):w'.ownsRow base e size v n xs:=by
 refine ⟨h.1,?_⟩
 rcases h.2 with h2|⟨g,cap,cur,hv,hg,hh,r⟩
 ·exact .inl h2
 ·exact .inr ⟨g,cap,cur,hv,hg,by rw [hb g (by rw [hv];rfl)];exact hh,r⟩
theorem AccT.same {w w':World} {vb:Nat} {B C:Nat->Prop} {t:Bool} {e:TypeId} {v:Value} {ps:List Ft} (h:AccT w vb B t e v ps) (hs:w.heap.size<=w'.heap.size) (hv:∀ b,v.ownBlock=some b->w'.heap[b]?=w.heap[b]?) (hb:∀ b,B b->b<w.heap.size->w'.heap[b]?=w.heap[b]?) (hC:∀ b,B b->b<w.heap.size->C b):AccT w' vb C t e v ps :=
 ⟨own_same h.own hv,fun p hp=>(h.at_ p hp).through hs (fun b hb' hl=>hb b hb'.1 hl) (fun b hb' hl=>⟨hC b hb'.1 hl,hb'.2⟩),fun p hp=>(h.ad p hp).through hs (fun b hb' hl=>hb b hb'.1 hl) (fun b hb' hl=>⟨hC b hb'.1 hl,hb'.2⟩),h.key⟩
inductive OwnT (w:World):(Nat->Prop)->Lt->Prop
 | leaf (B:Nat->Prop) (q:Lt) (h:TyAt w B q) (hf:q.v.f=[]):OwnT w B q
 | record (B:Nat->Prop) (q:Lt) (ps:List Ft) (S:Nat->Nat->Prop) (h:TyAt w B q) (hx:q.v.x=[]) (ht:q.v.t=[]) (ha:AccT w 0 B true 65 (.slice q.fd q.v.f.length q.fc) ps) (hg:∀ b,(Value.slice q.fd q.v.f.length q.fc).ownBlock=some b->B b)
   (hps:ps.map Ft.fd=q.v.f) (hS:∀ i b,S i b->B b/\(Value.slice q.fd q.v.f.length q.fc).ownBlock≠some b) (hD:∀ i j b,S i b->S j b->i=j) (hv:∀ i p,ps[i]?=some p->VAt w (S i) p.d) (ho:∀ i p,ps[i]?=some p->OwnT w (S i) p.t):OwnT w B q
theorem OwnT.at_ {w:World} {B:Nat->Prop} {q:Lt} (h:OwnT w B q):TyAt w B q:=by
 cases h with
 | leaf _ _ h=>exact h
 | record _ _ _ _ h=>exact h
theorem OwnT.through {w w':World} {B:Nat->Prop} {q:Lt} (h:OwnT w B q) (hs:w.heap.size<=w'.heap.size) (hb:∀ b,B b->b<w.heap.size->w'.heap[b]?=w.heap[b]?):OwnT w' B q:=by
 induction h with
 | leaf B q h hf=>exact .leaf B q (h.through hs hb (fun _ h _=>h)) hf
 | record B q ps S h hx ht ha hg hps hS hD hv ho ih =>
   exact .record B q ps S (h.through hs hb (fun _ h _=>h)) hx ht (ha.same hs (fun b e=>hb b (hg b e) (ha.own.lt b e).2) hb (fun _ h _=>h)) hg hps hS hD (fun i p hi=>(hv i p hi).through hs (fun b h1 h2=>hb b (hS i b h1).1 h2) (fun _ h _=>h)) (fun i p hi=>ih i p hi (fun b h1 h2=>hb b (hS i b h1).1 h2))
theorem OwnT.keep {w w':World} {B:Nat->Prop} {q:Lt} (h:OwnT w B q) (hb:Below w.heap.size w w'):OwnT w' B q:=h.through hb.size (fun b _ hl=>hb.block b hl)
theorem OwnT.weak {w:World} {B:Nat->Prop} {q:Lt} (h:OwnT w B q):∀ {C:Nat->Prop},(∀ b,B b->b<w.heap.size->C b)->OwnT w C q:=by
 induction h with
 | leaf B q h hf=>intro C hC;exact .leaf C q (h.weak hC) hf
 | record B q ps S h hx ht ha hg hps hS hD hv ho ih =>
   intro C hC
   exact .record C q ps (fun i b=>S i b/\b<w.heap.size) (h.weak hC) hx ht (ha.same (Nat.le_refl _) (fun _ _=>rfl) (fun _ _ _=>rfl) hC) (fun b e=>hC b (hg b e) (ha.own.lt b e).2) hps (fun i b hb=>⟨hC b (hS i b hb.1).1 hb.2,(hS i b hb.1).2⟩) (fun i j b h1 h2=>hD i j b h1.1 h2.1)
    (fun i p hi=>(hv i p hi).weak (fun b h1 h2=>⟨h1,h2⟩)) (fun i p hi=>ih i p hi (fun b h1 h2=>⟨h1,h2⟩))
def SoleT (w:World) (M:Nat) (v:Value) (ps:List Ft):Prop:=∃ S:Nat->Nat->Prop,
 (∀ i b,S i b->M<b/\b<w.heap.size/\v.ownBlock≠some b)/\(∀ i j b,S i b->S j b->i=j)/\∀ i p,ps[i]?=some p->OwnT w (S i) p.t/\VAt w (S i) p.d
theorem SoleT.nil (w:World) (M:Nat) (v:Value):SoleT w M v []:=⟨fun _ _=>False,fun _ _ h=>h.elim,fun _ _ _ h=>h.elim,fun i p h=>by simp at h⟩
theorem SoleT.grow {w w':World} {M:Nat} {v:Value} {ps:List Ft} {r:Option Nat} (h:SoleT w M v ps) (hg:w.grownBy w' r) (hr:∀ b,r=some b->b<=M\/v.ownBlock=some b):SoleT w' M v ps:=by
 obtain ⟨S,h1,h2,h3⟩:=h
 have hb:∀ i b,S i b->b<w.heap.size->w'.heap[b]?=w.heap[b]?:=fun i b hb hl=>hg.block b hl (fun e=>by
  obtain ⟨a1,-,a3⟩:=h1 i b hb
  rcases hr b e.symm with h|h
  ·omega
  ·exact a3 h)
 refine ⟨S,fun i b hb=>?_,h2,fun i p hi=>⟨(h3 i p hi).1.through hg.size (hb i),(h3 i p hi).2.through hg.size (hb i) (fun _ h _=>h)⟩⟩
 obtain ⟨a1,a2,a3⟩:=h1 i b hb
 exact ⟨a1,Nat.lt_of_lt_of_le a2 hg.size,a3⟩
theorem SoleT.keep {w w':World} {M:Nat} {v:Value} {ps:List Ft} (h:SoleT w M v ps) (hb:Below w.heap.size w w'):SoleT w' M v ps:=h.grow (grown_none hb) (fun _ e=>absurd e (by simp))
theorem SoleT.push {w w6 w7:World} {M:Nat} {v v':Value} {ps:List Ft} {p:Ft} (h:SoleT w M v ps) (hb:Below w.heap.size w w6) (ht:OwnT w6 (fun b=>w.heap.size<=b) p.t) (hd:VAt w6 (fun b=>w.heap.size<=b) p.d) (hM:M<w.heap.size)
 (hv:∀ k,v.ownBlock=some k->k<w.heap.size) (hg:w6.grownBy w7 v.ownBlock) (hm:Moved v v' w6.heap.size):SoleT w7 M v' (ps++[p]):=by
 have h6:=h.keep hb
 obtain ⟨S,h1,h2,h3⟩:=h
 have hs:=hb.size
 have hne:∀ b,b<w6.heap.size->v.ownBlock≠some b->v'.ownBlock≠some b:=fun b hl hn e=>by
  rcases hm with hm|⟨g,hm,hgl⟩
  ·rw [hm] at e;exact hn e
  ·rw [hm] at e;have:g=b:=Option.some.inj e;omega
 have hnew:∀ b,w.heap.size<=b->v.ownBlock≠some b:=fun b hl e=>by have:=hv b e;omega
 refine ⟨fun i b=>(i<ps.length/\S i b)\/(i=ps.length/\w.heap.size<=b/\b<w6.heap.size),?_,?_,?_⟩
 ·rintro i b (⟨-,hS⟩|⟨-,h5,h6⟩)
  ·obtain ⟨a1,a2,a3⟩:=h1 i b hS
   exact ⟨a1,Nat.lt_of_lt_of_le a2 (Nat.le_trans hs hg.size),hne b (by omega) a3⟩
  ·exact ⟨by omega,Nat.lt_of_lt_of_le h6 hg.size,hne b h6 (hnew b h5)⟩
 ·rintro i j b (⟨i1,hS⟩|⟨i1,i2,-⟩) (⟨j1,hT⟩|⟨j1,j2,-⟩)
  ·exact h2 i j b hS hT
  ·have:=(h1 i b hS).2.1;omega
  ·have:=(h1 j b hT).2.1;omega
  ·omega
 ·intro i x hi
  by_cases hlt:i<ps.length
  ·rw [List.getElem?_append_left hlt] at hi
   obtain ⟨o,d⟩:=h3 i x hi
   have hbl:∀ b,S i b->b<w.heap.size->w7.heap[b]?=w.heap[b]?:=fun b hS hl=>by
    obtain ⟨-,a2,a3⟩:=h1 i b hS
    exact (hg.block b (Nat.lt_of_lt_of_le hl hs) (fun e=>a3 e.symm)).trans (hb.block b hl)
   have hsz:=Nat.le_trans hs hg.size
   exact ⟨(o.through hsz hbl).weak (fun b hS _=>.inl ⟨hlt,hS⟩),(d.through hsz hbl (fun _ h _=>h)).weak (fun b hS _=>.inl ⟨hlt,hS⟩)⟩
  ·rw [List.getElem?_append_right (by omega)] at hi
   have hi0:i - ps.length=0:=by
    by_cases h0:i - ps.length=0
    ·exact h0
    ·obtain ⟨k,hk⟩:∃ k,i - ps.length=k+1:=⟨i - ps.length - 1,by omega⟩
     rw [hk] at hi;simp at hi
   rw [hi0] at hi
   obtain rfl:p=x:=by simpa using hi
   have hin:i=ps.length:=by omega
   have hbl:∀ b,(w.heap.size<=b/\b<w6.heap.size)->b<w6.heap.size->w7.heap[b]?=w6.heap[b]?:=fun b hb' hl=>hg.block b hl (fun e=>hnew b hb'.1 e.symm)
   exact ⟨((ht.weak (C:=fun b=>w.heap.size<=b/\b<w6.heap.size) (fun b h5 h6=>⟨h5,h6⟩)).through hg.size hbl).weak (fun b hb' _=>.inr ⟨hin,hb'⟩),
    ((hd.weak (C:=fun b=>w.heap.size<=b/\b<w6.heap.size) (fun b h5 h6=>⟨h5,h6⟩)).through hg.size hbl (fun _ h _=>h)).weak (fun b hb' _=>.inr ⟨hin,hb'⟩)⟩
instance:Inhabited Ft:=⟨Ft.one default⟩
theorem own_low' {w:World} {a b:Nat} {e:TypeId} {k:Nat} {v:Value} {n:Nat} {xs:List Value} (h:w.ownsRow a e k v n xs) (hab:b<=a):w.ownsRow b e k v n xs:=by
 refine ⟨h.1,?_⟩
 rcases h.2 with h2|⟨g,cap,cur,h1,h2,h3⟩
 ·exact .inl h2
 ·exact .inr ⟨g,cap,cur,h1,Nat.le_trans hab h2,h3⟩
theorem own_record {w:World} {M:Nat} {B C:Nat->Prop} {q:Lt} {ps:List Ft} (ha:AccT w M B true 65 (.slice q.fd q.v.f.length q.fc) ps) (hs:SoleT w M (.slice q.fd q.v.f.length q.fc) ps) (hq:TyAt w C q) (hx:q.v.x=[]) (ht:q.v.t=[])
 (hps:ps.map Ft.fd=q.v.f) (hB:∀ b,B b->M<b) (hC:∀ b,M<b->b<w.heap.size->C b):OwnT w C q:=by
 obtain ⟨S,h1,h2,h3⟩:=hs
 have hlt:=ha.own.lt
 have ha0:AccT w 0 C true 65 (.slice q.fd q.v.f.length q.fc) ps:=by
  have:=ha.same (w':=w) (C:=C) (Nat.le_refl _) (fun _ _=>rfl) (fun _ _ _=>rfl) (fun b hb hl=>hC b (hB b hb) hl)
  exact ⟨own_low' this.own (by omega),this.at_,this.ad,this.key⟩
 exact .record C q ps S hq hx ht ha0 (fun b e=>hC b (by have:=(hlt b e).1;omega) (hlt b e).2) hps (fun i b hS=>by
  obtain ⟨a1,a2,a3⟩:=h1 i b hS
  exact ⟨hC b a1 a2,a3⟩) h2 (fun i p hi=>(h3 i p hi).2) (fun i p hi=>(h3 i p hi).1)
theorem step_accTm {t:Bool} {e ti:TypeId} {z:Value} {bytes:Nat} (ht:Tryz.prog.underlying ti=some (.slice e)) (hinfo:(Tryz.prog.info? e).map (fun i=>(i.zero,i.size,i.bytes))=some (some z,sw t,bytes)) (hzs:z.cells.size=sw t) (hby:bytes<=224)
 {ops:Array Oper} {o:Oper} {ac:Act} {K:Act->World->Prop} {Q:Exit->Act->World->Prop} {F:Prop} {w:World} {vb:Nat} {B:Nat->Prop} {v:Value} {ps:List Ft} (hgd:o.guard=none) (s x:Operand)
 (ho:o.op=.call { callee:=.builtin .append,args:=#[s,x],argTypes:=#[ti,ti] }) (h:AccT w vb B t e v ps) (hb:vb+1<=w.heap.size) (p:Ft) (hp:TyAt w (fun b=>B b/\v.ownBlock≠some b) p.t) (hd:VAt w (fun b=>B b/\v.ownBlock≠some b) p.d) (hk:p.n.size<=140737488351232)
 (W:World) (hW:W=w.alloc (.cells (cellsF t p).toArray e)) (hs:ac.eval s=v) (hx:ac.eval x=.slice (some ⟨w.heap.size,0,none⟩) 1 1) (n:Nat) (hn:ps.length=n) (hl:(n+1) * bytes<=140737488351232) (h63:n<=10000000000000)
 (hK:∀ ao c w',AccT w' vb B t e (.slice ao (n+1) c) (ps++[p])->w.grownBy w' v.ownBlock->Moved v (.slice ao (n+1) c) w.heap.size->K (ac.put o.dst (.slice ao (n+1) c)) w') :
 if Region.wanted o (yielded ops ac.tmps)=true then Oper.wp Tryz.prog o ac W K Q else F:=by
 subst hW
 subst hn
 obtain ⟨i0,hi,hz0,hz1,hz2⟩:=info_parts hinfo
 have hw:Region.wanted o (yielded ops ac.tmps)=true:=by simp [Region.wanted,hgd]
 rw [if_pos hw]
 have hst:0<sw t:=by cases t<;>decide
 obtain ⟨v',w',hr,ho2,hg,hm,hnn⟩:=run_append_moved (P:=Tryz.prog) (w.alloc (.cells (cellsF t p).toArray e)) (vb+1) ti o.type e i0 z (sw t) bytes ht hi hz0 hz1 hz2 hzs hst v ps.length (ps.flatMap (cellsF t))
  (h.own.alloc _) ⟨w.heap.size,0,none⟩ 1 1 (cellsF t p) (by rw [cellsF_len,Nat.one_mul])
  (fun j u hj=>by
    rw [Addr.add_lit]
    have:=World.cell?_alloc_mark w (cellsF t p).toArray e (0,0) (0+j)
    rw [this];simpa using hj)
  (cellsF_one t p) (Nat.le_trans hl (by decide)) (by unfold maxLen;omega) (by simp;omega)
 have hg':=grown_alloc' (.cells (cellsF t p).toArray e) hg
 have hm':Moved v v' w.heap.size:=by
  rcases hm with hm|⟨g,hm,hgl⟩
  ·exact .inl hm
  ·exact .inr ⟨g,hm,by simp at hgl;omega⟩
 have hacc:=h.push hp hd hk ho2 hg'.size (fun b _ hb hl=>hg'.block b hl (fun e=>hb e.symm)) hm'
 obtain ⟨ao,c,rfl⟩:=own_form ho2
 unfold Oper.wp execOp
 simp only [ho,resolve,invoke,builtin,Sem.run_bind,Sem.run_pure,Result.andThen_ok,List.map_toArray,List.map_cons,List.map_nil,hs,hx,hr]
 exact hK ao c w' hacc hg' hm'
theorem step_accTat {t:Bool} {e ti:TypeId} {z:Value} {bytes:Nat} (ht:Tryz.prog.underlying ti=some (.slice e)) (hinfo:(Tryz.prog.info? e).map (fun i=>(i.zero,i.size,i.bytes))=some (some z,sw t,bytes)) (hzs:z.cells.size=sw t) (hby:bytes<=224)
 {ops:Array Oper} {o:Oper} {ac:Act} {K:Act->World->Prop} {Q:Exit->Act->World->Prop} {F:Prop} {w:World} {vb:Nat} {B:Nat->Prop} {v:Value} {ps:List Ft} (hgd:o.guard=none) (s x:Operand)
 (ho:o.op=.call { callee:=.builtin .append,args:=#[s,x],argTypes:=#[ti,ti] }) (h:AccT w vb B t e v ps) (hb:vb+1<=w.heap.size) (p:Ft) (hp:TyAt w (fun b=>B b/\v.ownBlock≠some b) p.t) (hd:VAt w (fun b=>B b/\v.ownBlock≠some b) p.d) (hk:p.n.size<=140737488351232)
 (b:Nat) (hW:w.heap[b]?=some (.cells (cellsF t p).toArray e)) (hs:ac.eval s=v) (hx:ac.eval x=.slice (some ⟨b,0,none⟩) 1 1) (n:Nat) (hn:ps.length=n) (hl:(n+1) * bytes<=140737488351232) (h63:n<=10000000000000)
 (hK:∀ ao c w',AccT w' vb B t e (.slice ao (n+1) c) (ps++[p])->w.grownBy w' v.ownBlock->Moved v (.slice ao (n+1) c) w.heap.size->K (ac.put o.dst (.slice ao (n+1) c)) w') :
 if Region.wanted o (yielded ops ac.tmps)=true then Oper.wp Tryz.prog o ac w K Q else F:=by
 subst hn
 obtain ⟨i0,hi,hz0,hz1,hz2⟩:=info_parts hinfo
 have hw:Region.wanted o (yielded ops ac.tmps)=true:=by simp [Region.wanted,hgd]
 rw [if_pos hw]
 have hst:0<sw t:=by cases t<;>decide
 obtain ⟨v',w',hr,ho2,hg',hm',hnn⟩:=run_append_moved (P:=Tryz.prog) w (vb+1) ti o.type e i0 z (sw t) bytes ht hi hz0 hz1 hz2 hzs hst v ps.length (ps.flatMap (cellsF t))
  h.own ⟨b,0,none⟩ 1 1 (cellsF t p) (by rw [cellsF_len,Nat.one_mul])
  (fun j u hj=>by
    rw [Addr.add_lit]
    simp only [World.cell?,hW,Nat.zero_add]
    simpa using hj)
  (cellsF_one t p) (Nat.le_trans hl (by decide)) (by unfold maxLen;omega) hb
 have hacc:=h.push hp hd hk ho2 hg'.size (fun b _ hb hl=>hg'.block b hl (fun e=>hb e.symm)) hm'
 obtain ⟨ao,c,rfl⟩:=own_form ho2
 unfold Oper.wp execOp
 simp only [ho,resolve,invoke,builtin,Sem.run_bind,Sem.run_pure,Result.andThen_ok,List.map_toArray,List.map_cons,List.map_nil,hs,hx,hr]
 exact hK ao c w' hacc hg' hm'
theorem AccT.append1m {t:Bool} {e ti:TypeId} {z:Value} {bytes:Nat} (ht:Tryz.prog.underlying ti=some (.slice e)) (hinfo:(Tryz.prog.info? e).map (fun i=>(i.zero,i.size,i.bytes))=some (some z,sw t,bytes)) (hzs:z.cells.size=sw t)
 {w:World} {vb:Nat} {B:Nat->Prop} {v:Value} {ps:List Ft} (h:AccT w vb B t e v ps) (hb:vb+1<=w.heap.size) (p:Ft) (hp:TyAt w (fun b=>B b/\v.ownBlock≠some b) p.t) (hd:VAt w (fun b=>B b/\v.ownBlock≠some b) p.d) (hk:p.n.size<=140737488351232)
 (n:Nat) (hn:ps.length=n) (hl:(n+1) * bytes<=140737488351232) (h63:n<=10000000000000) :
 ∃ ao c w',(Builtin.append_ #[ti,ti] ti #[v,.slice (some ⟨w.heap.size,0,none⟩) 1 1]).run Tryz.prog (w.alloc (.cells (cellsF t p).toArray e))=.ok (.slice ao (n+1) c) w'/\AccT w' vb B t e (.slice ao (n+1) c) (ps++[p])/\w.grownBy w' v.ownBlock/\Moved v (.slice ao (n+1) c) w.heap.size:=by
 subst hn
 obtain ⟨i0,hi,hz0,hz1,hz2⟩:=info_parts hinfo
 have hst:0<sw t:=by cases t<;>decide
 obtain ⟨v',w',hr,ho2,hg,hm,hnn⟩:=run_append_moved (P:=Tryz.prog) (w.alloc (.cells (cellsF t p).toArray e)) (vb+1) ti ti e i0 z (sw t) bytes ht hi hz0 hz1 hz2 hzs hst v ps.length (ps.flatMap (cellsF t))
  (h.own.alloc _) ⟨w.heap.size,0,none⟩ 1 1 (cellsF t p) (by rw [cellsF_len,Nat.one_mul])
  (fun j u hj=>by
    rw [Addr.add_lit]
    have:=World.cell?_alloc_mark w (cellsF t p).toArray e (0,0) (0+j)
    rw [this];simpa using hj)
  (cellsF_one t p) (Nat.le_trans hl (by decide)) (by unfold maxLen;omega) (by simp;omega)
 have hg':=grown_alloc' (.cells (cellsF t p).toArray e) hg
 have hm':Moved v v' w.heap.size:=by
  rcases hm with hm|⟨g,hm,hgl⟩
  ·exact .inl hm
  ·exact .inr ⟨g,hm,by simp at hgl;omega⟩
 have hacc:=h.push hp hd hk ho2 hg'.size (fun b _ hb hl=>hg'.block b hl (fun e=>hb e.symm)) hm'
 obtain ⟨ao,c,rfl⟩:=own_form ho2
 exact ⟨ao,c,w',hr,hacc,hg',hm'⟩
theorem ty_cells {w:World} {b:Nat} {ty:TypeId} {a0 a1 a2 a3 a4 a5 a6:Value} (h:w.heap[b]?=some (.cells #[a0,a1,a2,a3,a4,a5,a6] ty)):w.cell? ⟨b,0,none⟩=some a0/\w.cell? ⟨b,1,none⟩=some a1/\w.cell? ⟨b,2,none⟩=some a2/\w.cell? ⟨b,3,none⟩=some a3/\w.cell? ⟨b,4,none⟩=some a4/\w.cell? ⟨b,5,none⟩=some a5/\w.cell? ⟨b,6,none⟩=some a6/\(∀ j,w.frozen? ⟨b,j,none⟩=false) :=
 ⟨by simp [World.cell?,h],by simp [World.cell?,h],by simp [World.cell?,h],by simp [World.cell?,h],by simp [World.cell?,h],by simp [World.cell?,h],by simp [World.cell?,h],fun j=>by simp [World.frozen?,h]⟩
def kindsN (k:Int):Nat:=if k=1 then 127 else if k=6\/k=7 then 16 else if k=8 then 32 else if k=9\/k=10 then 64 else 2 ^ (k - 2).toNat
theorem kind_cases {k:Int} (h1:1<=k) (h2:k<=12):k=1\/k=2\/k=3\/k=4\/k=5\/k=6\/k=7\/k=8\/k=9\/k=10\/k=11\/k=12:=by omega
def IntB (n:Int) (w:World) (e:Ending) (w':World):Prop:=e=.returned (.int .i64 n)/\Below w.heap.size w w'
def BoolB (b:Bool) (w:World) (e:Ending) (w':World):Prop:=e=.returned (.bool b)/\Below w.heap.size w w'
theorem kinds_any (q:Lt) (w:World) (h1:1<=q.v.k) (h2:q.v.k<=12):Calls Tryz.prog 78 #[q.val] w (IntB (kindsN q.v.k) w):=by
 have hb:=(Below.refl w.heap.size w).alloc (Nat.le_refl _) (.cells #[.int .i64 q.v.k,.int .i64 q.v.lo,.int .i64 q.v.hi,.slice q.xd q.v.x.length q.xc,.slice q.td q.v.t.length q.tc,.slice q.fd q.v.f.length q.fc,.string q.v.n] 27)
 have hc:=heap_alloc_new w (.cells #[.int .i64 q.v.k,.int .i64 q.v.lo,.int .i64 q.v.hi,.slice q.xd q.v.x.length q.xc,.slice q.td q.v.t.length q.tc,.slice q.fd q.v.f.length q.fc,.string q.v.n] 27)
 have HB:=hid hb
 unfold Lt.val
 clear hb
 generalize q.v.k=k at *
 go_enter Tryz.func78,Tryz.ntmps78
 go_upto_region 1 with fail
 generalize World.alloc w _=w1 at hc HB ⊢
 obtain ⟨c0,-⟩:=ty_cells hc
 clear hc
 rcases kind_cases h1 h2 with rfl|rfl|rfl|rfl|rfl|rfl|rfl|rfl|rfl|rfl|rfl|rfl
 all_goals
  clear h1 h2
  go_wp2
  try go_ret
  exact ⟨rfl,HB.out⟩
theorem tells_bits (k v:Int) (h1:1<=k) (h2:k<=10) (v0:0<=v) (v1:v<=6):(bits BinOp.and IntKind.i64 (((kindsN k:Nat):Int) / 2 ^ v.toNat) 1==1)=tells k v:=by
 have hk:k=1\/k=2\/k=3\/k=4\/k=5\/k=6\/k=7\/k=8\/k=9\/k=10:=by omega
 have hv:v=0\/v=1\/v=2\/v=3\/v=4\/v=5\/v=6:=by omega
 rcases hk with rfl|rfl|rfl|rfl|rfl|rfl|rfl|rfl|rfl|rfl<;>rcases hv with rfl|rfl|rfl|rfl|rfl|rfl|rfl<;>decide
theorem tells_any (q:Lt) (v:Int) (w:World) (h1:1<=q.v.k) (h2:q.v.k<=10) (v0:0<=v) (v1:v<=6):Calls Tryz.prog 52 #[q.val,.int .i64 v] w (BoolB (tells q.v.k v) w):=by
 have hb:=(Below.refl w.heap.size w).alloc (Nat.le_refl _) (.cells #[.int .i64 q.v.k,.int .i64 q.v.lo,.int .i64 q.v.hi,.slice q.xd q.v.x.length q.xc,.slice q.td q.v.t.length q.tc,.slice q.fd q.v.f.length q.fc,.string q.v.n] 27)
 have hc:=heap_alloc_new w (.cells #[.int .i64 q.v.k,.int .i64 q.v.lo,.int .i64 q.v.hi,.slice q.xd q.v.x.length q.xc,.slice q.td q.v.t.length q.tc,.slice q.fd q.v.f.length q.fc,.string q.v.n] 27)
 have hk:=fun W=>kinds_any q W h1 (by omega)
 unfold Lt.val at hk ⊢
 have HK:=hid hk
 have HB:=hid hb
 have HT:=hid (tells_bits q.v.k v h1 h2 v0 v1)
 clear hb hk
 go_enter Tryz.func52,Tryz.ntmps52
 go_upto_region 1 with fail
 generalize World.alloc w _=w1 at hc HB ⊢
 obtain ⟨c0,c1,c2,c3,c4,c5,c6,-⟩:=ty_cells hc
 clear hc
 go_wp2_with fail
 (with_reducible refine (HK.out w1).mono ?_)
 rintro e w2 ⟨rfl,hb2⟩
 have HB2:=hid (HB.out.trans (hb2.mono HB.out.size))
 clear hb2 HK HB c0 c1 c2 c3 c4 c5 c6
 have hn:kindsN q.v.k<128:=by
  have hkk:q.v.k=1\/q.v.k=2\/q.v.k=3\/q.v.k=4\/q.v.k=5\/q.v.k=6\/q.v.k=7\/q.v.k=8\/q.v.k=9\/q.v.k=10:=by omega
  rcases hkk with h|h|h|h|h|h|h|h|h|h<;>rw [h]<;>decide
 generalize kindsN q.v.k=n at *
 generalize tells q.v.k v=r at *
 clear h1 h2
 go_wp2
 try go_ret
 exact ⟨by rw [<-HT.out];rfl,HB2.out⟩
theorem between_any (n lo hi:Int) (w:World):Calls Tryz.prog 79 #[.int .i64 n,.int .i64 lo,.int .i64 hi] w (fun e w'=>e=.returned (.bool (decide (lo<=n) && decide (n<=hi)))/\w=w'):=by
 go_enter Tryz.func79,Tryz.ntmps79
 cases h1:decide (lo<=n) with
 | true =>
   cases h2:decide (n<=hi) with
   | true =>
     go_wp2
     try go_ret
     exact ⟨rfl,rfl⟩
   | false =>
     go_wp2
     try go_ret
     exact ⟨rfl,rfl⟩
 | false =>
   go_wp2
   try go_ret
   exact ⟨rfl,rfl⟩
def CloneS (l:List ByteArray) (w:World) (e:Ending) (w':World):Prop:=∃ ao c,e=.returned (.slice ao l.length c)/\SRow w' (fun b=>w.heap.size<=b) l (.slice ao l.length c)/\Below w.heap.size w w'
theorem cloneS_any {B:Nat->Prop} (ad:Option Addr) (cap:Nat) (l:List ByteArray) (w:World) (h:SRow w B l (.slice ad l.length cap)):Calls Tryz.prog 26 #[.slice ad l.length cap] w (CloneS l w):=by
 generalize hv:Value.slice ad l.length cap=v at h
 cases h with
 | nil ad2 cap2 =>
   cases ad2 with
   | none=>exact (Tryz.slices_Clone_string_nil 0 cap2 w).mono fun e w' ⟨h1,h2⟩=>⟨none,0,h1,.nil _ _,by rw [h2];exact Below.refl _ _⟩
   | some a =>
     refine (Tryz.slices_Clone_string_zero a cap2 w).mono ?_
     rintro e w' ⟨v',h1,h2,h3,h4⟩
     obtain ⟨ao,c,rfl⟩:=own_form h2
     exact ⟨ao,c,h1,.nil _ _,h4⟩
 | row xs blk off cap2 hne hn hB hlt hc =>
   refine (Tryz.slices_Clone_string blk off l.length cap2 l w (Nat.le_refl _) (by omega) (fun j hj=>?_)).mono (fun e w' h=>?_)
   ·rw [List.getD_eq_getElem?_getD,List.getElem?_eq_getElem hj]
    exact (hc j _ (List.getElem?_eq_getElem hj)).1
   ·obtain ⟨v',h1,h2,h3,h4⟩:=h
    rw [List.take_of_length_le (Nat.le_refl _)] at h2
    obtain ⟨g,c,rfl,g1,g2,g3,g4⟩:=own_cell h2 (List.length_pos_iff.2 hne)
    refine ⟨_,c,h1,.row l g 0 c hne hn g1 g3 (fun i x hi=>⟨?_,(hc i x hi).2⟩),h4⟩
    rw [Nat.zero_add]
    exact g4 i _ (by rw [List.getElem?_map,hi];rfl)
theorem grown_trans {a b c:World} {r:Option Nat} (h:a.grownBy b r) (g:b.grownBy c r):a.grownBy c r :=
 ⟨g.os.trans h.os,g.tape.trans h.tape,g.output.trans h.output,Nat.le_trans h.size g.size,fun k hk hn=>(g.block k (Nat.lt_of_lt_of_le hk h.size) hn).trans (h.block k hk hn)⟩
theorem cell_store {w:World} {b:Nat} {ty:TypeId} {cur:Array Value} (h:w.heap[b]?=some (.cells cur ty)) (j:Nat) (u:Value):(w.setCell ⟨b,j,none⟩ u).heap[b]?=some (.cells (cur.setIfInBounds j u) ty):=by
 simp [World.setCell,Array.getElem?_modify,h]
theorem seven_all {W:World} {b:Nat} {ty:TypeId} {a0 a1 a2 a3 a4 a5 a6:Value} (h:W.heap[b]?=some (.cells #[a0,a1,a2,a3,a4,a5,a6] ty)) (u0 u1 u2 u3 u4 u5 u6:Value) :
 ∃ W9,W9=((((((W.setCell ⟨b,0,none⟩ u0).setCell ⟨b,1,none⟩ u1).setCell ⟨b,2,none⟩ u2).setCell ⟨b,3,none⟩ u3).setCell ⟨b,4,none⟩ u4).setCell ⟨b,5,none⟩ u5).setCell ⟨b,6,none⟩ u6/\W9.heap[b]?=some (.cells #[u0,u1,u2,u3,u4,u5,u6] ty)/\W.grownBy W9 (some b):=by
 obtain ⟨W0',e0⟩:∃ X,X=W.setCell ⟨b,0,none⟩ u0:=⟨_,rfl⟩
 have h0:W0'.heap[b]?=some (.cells #[u0,a1,a2,a3,a4,a5,a6] ty):=by rw [e0];exact cell_store h 0 u0
 have g0:W.grownBy W0' (some b):=by rw [e0];exact grown_cell _ b 0 u0
 obtain ⟨W1',e1⟩:∃ X,X=W0'.setCell ⟨b,1,none⟩ u1:=⟨_,rfl⟩
 have h1:W1'.heap[b]?=some (.cells #[u0,u1,a2,a3,a4,a5,a6] ty):=by rw [e1];exact cell_store h0 1 u1
 have g1:W.grownBy W1' (some b):=by rw [e1];exact grown_trans g0 (grown_cell _ b 1 u1)
 obtain ⟨W2',e2⟩:∃ X,X=W1'.setCell ⟨b,2,none⟩ u2:=⟨_,rfl⟩
 have h2:W2'.heap[b]?=some (.cells #[u0,u1,u2,a3,a4,a5,a6] ty):=by rw [e2];exact cell_store h1 2 u2
 have g2:W.grownBy W2' (some b):=by rw [e2];exact grown_trans g1 (grown_cell _ b 2 u2)
 obtain ⟨W3',e3⟩:∃ X,X=W2'.setCell ⟨b,3,none⟩ u3:=⟨_,rfl⟩
 have h3:W3'.heap[b]?=some (.cells #[u0,u1,u2,u3,a4,a5,a6] ty):=by rw [e3];exact cell_store h2 3 u3
 have g3:W.grownBy W3' (some b):=by rw [e3];exact grown_trans g2 (grown_cell _ b 3 u3)
 obtain ⟨W4',e4⟩:∃ X,X=W3'.setCell ⟨b,4,none⟩ u4:=⟨_,rfl⟩
 have h4:W4'.heap[b]?=some (.cells #[u0,u1,u2,u3,u4,a5,a6] ty):=by rw [e4];exact cell_store h3 4 u4
 have g4:W.grownBy W4' (some b):=by rw [e4];exact grown_trans g3 (grown_cell _ b 4 u4)
 obtain ⟨W5',e5⟩:∃ X,X=W4'.setCell ⟨b,5,none⟩ u5:=⟨_,rfl⟩
 have h5:W5'.heap[b]?=some (.cells #[u0,u1,u2,u3,u4,u5,a6] ty):=by rw [e5];exact cell_store h4 5 u5
 have g5:W.grownBy W5' (some b):=by rw [e5];exact grown_trans g4 (grown_cell _ b 5 u5)
 obtain ⟨W6',e6⟩:∃ X,X=W5'.setCell ⟨b,6,none⟩ u6:=⟨_,rfl⟩
 have h6:W6'.heap[b]?=some (.cells #[u0,u1,u2,u3,u4,u5,u6] ty):=by rw [e6];exact cell_store h5 6 u6
 have g6:W.grownBy W6' (some b):=by rw [e6];exact grown_trans g5 (grown_cell _ b 6 u6)
 exact ⟨W6',by rw [e6,e5,e4,e3,e2,e1,e0],h6,g6⟩
theorem field_all {W:World} {b:Nat} {ty:TypeId} {c0 c1 c2 a0 a1 a2 a3 a4 a5 a6 d0 d1 d2 d3 d4 d5:Value} (h:W.heap[b]?=some (.cells #[c0,c1,c2,a0,a1,a2,a3,a4,a5,a6,d0,d1,d2,d3,d4,d5] ty)) (u0 u1 u2 u3 u4 u5 u6 v0 v1 v2 v3 v4 v5:Value) :
 ∃ W9,W9=((((((((((((W.setCell ⟨b,3,none⟩ u0).setCell ⟨b,4,none⟩ u1).setCell ⟨b,5,none⟩ u2).setCell ⟨b,6,none⟩ u3).setCell ⟨b,7,none⟩ u4).setCell ⟨b,8,none⟩ u5).setCell ⟨b,9,none⟩ u6).setCell ⟨b,10,none⟩ v0).setCell ⟨b,11,none⟩ v1).setCell ⟨b,12,none⟩ v2).setCell ⟨b,13,none⟩ v3).setCell ⟨b,14,none⟩ v4).setCell ⟨b,15,none⟩ v5/\W9.heap[b]?=some (.cells #[c0,c1,c2,u0,u1,u2,u3,u4,u5,u6,v0,v1,v2,v3,v4,v5] ty)/\W.grownBy W9 (some b):=by
 obtain ⟨W0',e0⟩:∃ X,X=W.setCell ⟨b,3,none⟩ u0:=⟨_,rfl⟩
 have h0:W0'.heap[b]?=some (.cells #[c0,c1,c2,u0,a1,a2,a3,a4,a5,a6,d0,d1,d2,d3,d4,d5] ty):=by rw [e0];exact cell_store h 3 u0
 have g0:W.grownBy W0' (some b):=by rw [e0];exact grown_cell _ b 3 u0
 obtain ⟨W1',e1⟩:∃ X,X=W0'.setCell ⟨b,4,none⟩ u1:=⟨_,rfl⟩
 have h1:W1'.heap[b]?=some (.cells #[c0,c1,c2,u0,u1,a2,a3,a4,a5,a6,d0,d1,d2,d3,d4,d5] ty):=by rw [e1];exact cell_store h0 4 u1
 have g1:W.grownBy W1' (some b):=by rw [e1];exact grown_trans g0 (grown_cell _ b 4 u1)
 obtain ⟨W2',e2⟩:∃ X,X=W1'.setCell ⟨b,5,none⟩ u2:=⟨_,rfl⟩
 have h2:W2'.heap[b]?=some (.cells #[c0,c1,c2,u0,u1,u2,a3,a4,a5,a6,d0,d1,d2,d3,d4,d5] ty):=by rw [e2];exact cell_store h1 5 u2
 have g2:W.grownBy W2' (some b):=by rw [e2];exact grown_trans g1 (grown_cell _ b 5 u2)
 obtain ⟨W3',e3⟩:∃ X,X=W2'.setCell ⟨b,6,none⟩ u3:=⟨_,rfl⟩
 have h3:W3'.heap[b]?=some (.cells #[c0,c1,c2,u0,u1,u2,u3,a4,a5,a6,d0,d1,d2,d3,d4,d5] ty):=by rw [e3];exact cell_store h2 6 u3
 have g3:W.grownBy W3' (some b):=by rw [e3];exact grown_trans g2 (grown_cell _ b 6 u3)
 obtain ⟨W4',e4⟩:∃ X,X=W3'.setCell ⟨b,7,none⟩ u4:=⟨_,rfl⟩
 have h4:W4'.heap[b]?=some (.cells #[c0,c1,c2,u0,u1,u2,u3,u4,a5,a6,d0,d1,d2,d3,d4,d5] ty):=by rw [e4];exact cell_store h3 7 u4
 have g4:W.grownBy W4' (some b):=by rw [e4];exact grown_trans g3 (grown_cell _ b 7 u4)
 obtain ⟨W5',e5⟩:∃ X,X=W4'.setCell ⟨b,8,none⟩ u5:=⟨_,rfl⟩
 have h5:W5'.heap[b]?=some (.cells #[c0,c1,c2,u0,u1,u2,u3,u4,u5,a6,d0,d1,d2,d3,d4,d5] ty):=by rw [e5];exact cell_store h4 8 u5
 have g5:W.grownBy W5' (some b):=by rw [e5];exact grown_trans g4 (grown_cell _ b 8 u5)
 obtain ⟨W6',e6⟩:∃ X,X=W5'.setCell ⟨b,9,none⟩ u6:=⟨_,rfl⟩
 have h6:W6'.heap[b]?=some (.cells #[c0,c1,c2,u0,u1,u2,u3,u4,u5,u6,d0,d1,d2,d3,d4,d5] ty):=by rw [e6];exact cell_store h5 9 u6
 have g6:W.grownBy W6' (some b):=by rw [e6];exact grown_trans g5 (grown_cell _ b 9 u6)
 obtain ⟨W7',e7⟩:∃ X,X=W6'.setCell ⟨b,10,none⟩ v0:=⟨_,rfl⟩
 have h7:W7'.heap[b]?=some (.cells #[c0,c1,c2,u0,u1,u2,u3,u4,u5,u6,v0,d1,d2,d3,d4,d5] ty):=by rw [e7];exact cell_store h6 10 v0
 have g7:W.grownBy W7' (some b):=by rw [e7];exact grown_trans g6 (grown_cell _ b 10 v0)
 obtain ⟨W8',e8⟩:∃ X,X=W7'.setCell ⟨b,11,none⟩ v1:=⟨_,rfl⟩
 have h8:W8'.heap[b]?=some (.cells #[c0,c1,c2,u0,u1,u2,u3,u4,u5,u6,v0,v1,d2,d3,d4,d5] ty):=by rw [e8];exact cell_store h7 11 v1
 have g8:W.grownBy W8' (some b):=by rw [e8];exact grown_trans g7 (grown_cell _ b 11 v1)
 obtain ⟨W9',e9⟩:∃ X,X=W8'.setCell ⟨b,12,none⟩ v2:=⟨_,rfl⟩
 have h9:W9'.heap[b]?=some (.cells #[c0,c1,c2,u0,u1,u2,u3,u4,u5,u6,v0,v1,v2,d3,d4,d5] ty):=by rw [e9];exact cell_store h8 12 v2
 have g9:W.grownBy W9' (some b):=by rw [e9];exact grown_trans g8 (grown_cell _ b 12 v2)
 obtain ⟨W10',e10⟩:∃ X,X=W9'.setCell ⟨b,13,none⟩ v3:=⟨_,rfl⟩
 have h10:W10'.heap[b]?=some (.cells #[c0,c1,c2,u0,u1,u2,u3,u4,u5,u6,v0,v1,v2,v3,d4,d5] ty):=by rw [e10];exact cell_store h9 13 v3
 have g10:W.grownBy W10' (some b):=by rw [e10];exact grown_trans g9 (grown_cell _ b 13 v3)
 obtain ⟨W11',e11⟩:∃ X,X=W10'.setCell ⟨b,14,none⟩ v4:=⟨_,rfl⟩
 have h11:W11'.heap[b]?=some (.cells #[c0,c1,c2,u0,u1,u2,u3,u4,u5,u6,v0,v1,v2,v3,v4,d5] ty):=by rw [e11];exact cell_store h10 14 v4
 have g11:W.grownBy W11' (some b):=by rw [e11];exact grown_trans g10 (grown_cell _ b 14 v4)
 obtain ⟨W12',e12⟩:∃ X,X=W11'.setCell ⟨b,15,none⟩ v5:=⟨_,rfl⟩
 have h12:W12'.heap[b]?=some (.cells #[c0,c1,c2,u0,u1,u2,u3,u4,u5,u6,v0,v1,v2,v3,v4,v5] ty):=by rw [e12];exact cell_store h11 15 v5
 have g12:W.grownBy W12' (some b):=by rw [e12];exact grown_trans g11 (grown_cell _ b 15 v5)
 exact ⟨W12',by rw [e12,e11,e10,e9,e8,e7,e6,e5,e4,e3,e2,e1,e0],h12,g12⟩
theorem fieldT_all {W:World} {b:Nat} {ty:TypeId} {c0 c1 c2 a0 a1 a2 a3 a4 a5 a6 d0 d1 d2 d3 d4 d5:Value} (h:W.heap[b]?=some (.cells #[c0,c1,c2,a0,a1,a2,a3,a4,a5,a6,d0,d1,d2,d3,d4,d5] ty)) (u0 u1 u2 u3 u4 u5 u6:Value) :
 ∃ W9,W9=((((((W.setCell ⟨b,3,none⟩ u0).setCell ⟨b,4,none⟩ u1).setCell ⟨b,5,none⟩ u2).setCell ⟨b,6,none⟩ u3).setCell ⟨b,7,none⟩ u4).setCell ⟨b,8,none⟩ u5).setCell ⟨b,9,none⟩ u6/\W9.heap[b]?=some (.cells #[c0,c1,c2,u0,u1,u2,u3,u4,u5,u6,d0,d1,d2,d3,d4,d5] ty)/\W.grownBy W9 (some b):=by
 obtain ⟨W0',e0⟩:∃ X,X=W.setCell ⟨b,3,none⟩ u0:=⟨_,rfl⟩
 have h0:W0'.heap[b]?=some (.cells #[c0,c1,c2,u0,a1,a2,a3,a4,a5,a6,d0,d1,d2,d3,d4,d5] ty):=by rw [e0];exact cell_store h 3 u0
 have g0:W.grownBy W0' (some b):=by rw [e0];exact grown_cell _ b 3 u0
 obtain ⟨W1',e1⟩:∃ X,X=W0'.setCell ⟨b,4,none⟩ u1:=⟨_,rfl⟩
 have h1:W1'.heap[b]?=some (.cells #[c0,c1,c2,u0,u1,a2,a3,a4,a5,a6,d0,d1,d2,d3,d4,d5] ty):=by rw [e1];exact cell_store h0 4 u1
 have g1:W.grownBy W1' (some b):=by rw [e1];exact grown_trans g0 (grown_cell _ b 4 u1)
 obtain ⟨W2',e2⟩:∃ X,X=W1'.setCell ⟨b,5,none⟩ u2:=⟨_,rfl⟩
 have h2:W2'.heap[b]?=some (.cells #[c0,c1,c2,u0,u1,u2,a3,a4,a5,a6,d0,d1,d2,d3,d4,d5] ty):=by rw [e2];exact cell_store h1 5 u2
 have g2:W.grownBy W2' (some b):=by rw [e2];exact grown_trans g1 (grown_cell _ b 5 u2)
 obtain ⟨W3',e3⟩:∃ X,X=W2'.setCell ⟨b,6,none⟩ u3:=⟨_,rfl⟩
 have h3:W3'.heap[b]?=some (.cells #[c0,c1,c2,u0,u1,u2,u3,a4,a5,a6,d0,d1,d2,d3,d4,d5] ty):=by rw [e3];exact cell_store h2 6 u3
 have g3:W.grownBy W3' (some b):=by rw [e3];exact grown_trans g2 (grown_cell _ b 6 u3)
 obtain ⟨W4',e4⟩:∃ X,X=W3'.setCell ⟨b,7,none⟩ u4:=⟨_,rfl⟩
 have h4:W4'.heap[b]?=some (.cells #[c0,c1,c2,u0,u1,u2,u3,u4,a5,a6,d0,d1,d2,d3,d4,d5] ty):=by rw [e4];exact cell_store h3 7 u4
 have g4:W.grownBy W4' (some b):=by rw [e4];exact grown_trans g3 (grown_cell _ b 7 u4)
 obtain ⟨W5',e5⟩:∃ X,X=W4'.setCell ⟨b,8,none⟩ u5:=⟨_,rfl⟩
 have h5:W5'.heap[b]?=some (.cells #[c0,c1,c2,u0,u1,u2,u3,u4,u5,a6,d0,d1,d2,d3,d4,d5] ty):=by rw [e5];exact cell_store h4 8 u5
 have g5:W.grownBy W5' (some b):=by rw [e5];exact grown_trans g4 (grown_cell _ b 8 u5)
 obtain ⟨W6',e6⟩:∃ X,X=W5'.setCell ⟨b,9,none⟩ u6:=⟨_,rfl⟩
 have h6:W6'.heap[b]?=some (.cells #[c0,c1,c2,u0,u1,u2,u3,u4,u5,u6,d0,d1,d2,d3,d4,d5] ty):=by rw [e6];exact cell_store h5 9 u6
 have g6:W.grownBy W6' (some b):=by rw [e6];exact grown_trans g5 (grown_cell _ b 9 u6)
 exact ⟨W6',by rw [e6,e5,e4,e3,e2,e1,e0],h6,g6⟩
end Go.Proofs.YtgnonbdkmmkdgaaGreatDoor
