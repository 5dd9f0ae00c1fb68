/-
  Lemmas for the statement: plain laws, and what functions answer; the conditions stand in each.
-/
import Derived.WalkKit
import Derived.WalkSpells
import Derived.Lib.Hide
import Derived.Deep.QuietTactic
import Derived.BigQuiet
import Derived.Below
import Derived.Test.YtgnonbdkmmkdgaaGreatDoorProg
import Derived.Deep.Slices
import Derived.ChangeSame
import Derived.SizedLaws
import Derived.WideShapes
import Derived.Shelf.Strings.BuilderRune
import Derived.WalkLawsBesides
import Derived.Deep.DeepFit
import Derived.Lib.MapLaws
import Derived.Lib.QuoteLoop
import Derived.Shelf.Small.Bits
import Derived.Shelf.Small.Strs
import Derived.Shelf.Small.Wraps
import Derived.Shelf.Strconv.Itoa0
import Derived.Shelf.Strconv.Itoa1
import Derived.Shelf.LaysM
import Derived.Shelf.Strconv.Itoa2
import Derived.Shelf.Strconv.Itoa3
import Derived.Shelf.Strconv.Itoa4
import Derived.Shelf.Strings.Prefix
import Derived.Shelf.Bits.Mul64
import Derived.Shelf.Unicode.DecodeSlow
import Derived.Shelf.Unicode.DecodeAny
import Derived.Shelf.Slices.Turned
import Derived.Shelf.Slices.Equal
import Derived.Ground.Names2Prog
import Derived.Shelf.Slices.Clone
import Derived.Shelf.Slices.SearchI
set_option linter.unusedVariables false
set_option linter.unusedSimpArgs false
set_option maxHeartbeats 16000000
set_option maxRecDepth 100000
theorem Go.alloc_old_gx (w : Go.World) (o : Go.Obj) {r : Nat} (h : r < w.heap.size) : (w.alloc o).heap[r]? = w.heap[r]? := by
  show (w.heap.push o)[r]? = w.heap[r]?
  rw [Array.getElem?_push, if_neg (Nat.ne_of_lt h)]
theorem Go.setq {α : Type} : (∀ (i : Nat) (a : α) (l : List α), l.toArray.setIfInBounds i a = (l.set i a).toArray) ∧ (∀ (x a : α) (l : List α), (x :: l).set 0 a = a :: l) ∧ ∀ (x a : α) (l : List α) (n : Nat), (x :: l).set (n + 1) a = x :: l.set n a := ⟨fun i a l => List.setIfInBounds_toArray .., fun _ _ _ => rfl, fun _ _ _ _ => rfl⟩
open Go.Lib (hid)
namespace Go.Proofs.YtgnonbdkmmkdgaaGreatDoor.Gx
open Go Go.RowKit
def Moved (v v':Value) (lo:Nat):Prop:=v'.ownBlock=v.ownBlock\/∃ g,v'.ownBlock=some g/\lo<=g
theorem Moved.ne {v v':Value} {lo k:Nat} (h:Moved v v' lo) (hk:k<lo) (hne:v.ownBlock≠some k):v'.ownBlock≠some k:=by
 rcases h with h|⟨g,h,hg⟩
 ·rw [h];exact hne
 ·rw [h];intro e;cases e;omega
section
variable {P:Program}
theorem run_append_moved (w:World) (base:Nat) (t ty e:TypeId) (i:TypeInfo) (z:Value) (size bytes:Nat) (ht:P.underlying t=some (.slice e)) (hi:P.info? e=some i) (hz:i.zero=some z)
 (hsize:i.size=size) (hby:i.bytes=bytes) (hzs:z.cells.size=size) (hsz:0<size)
 (v:Value) (n:Nat) (xs:List Value) (hown:w.ownsRow base e size v n xs)
 (a:Addr) (m c:Nat) (news:List Value) (hl:news.length=m * size) (hnews:∀ j u,news[j]?=some u->w.cell? (a.add j)=some u) (h1:∀ u∈news,u.oneCell'=true)
 (hbytes:(n+m) * bytes<=140737488355328) (h63:n+m<=maxLen) (hbase:base<=w.heap.size) :
 ∃ v' w',(Builtin.append_ #[t,t] ty #[v,.slice (some a) m c]).run P w=.ok v' w'/\w'.ownsRow base e size v' (n+m) (xs++news)/\w.grownBy w' v.ownBlock /\
  Moved v v' w.heap.size/\(v'=.slice none 0 0↔v=.slice none 0 0/\m=0):=by
 obtain ⟨v',w',hr,ho,hg,hn⟩:=run_append_own (P:=P) w base t ty e i z size bytes ht hi hz hsize hby hzs hsz v n xs hown a m c news hl hnews h1 h63 hbytes hbase
 refine ⟨v',w',hr,ho,hg,?_,hn⟩
 subst hsize;subst hby
 have hsmall:n+m<=9223372036854775807:=by simp only [maxLen] at h63;omega
 rcases hown.2 with ⟨rfl,rfl⟩|⟨g,cap,cur,rfl,hbg,hgg,hnc,hcm,hcs,htake⟩
 ·have hx:xs=[]:=List.eq_nil_of_length_eq_zero (by simpa using hown.1)
  subst hx
  by_cases hm:m=0
  ·exact .inl (by rw [hn.2 ⟨rfl,hm⟩])
  ·have hr2:=run_append_nil (P:=P) w t ty e i z ht hi hz a m c news hl hnews (by omega) (by omega) (by have hb:=hbytes;simp only [Nat.zero_add] at hb;omega)
   rw [hr] at hr2
   obtain ⟨rfl,rfl⟩:=hr2
   exact .inr ⟨_,rfl,Nat.le_refl _⟩
 ·by_cases hroom:n+m<=cap
  ·have hfit:n * i.size+news.length<=cur.size:=by rw [hl,hcs,<-Nat.add_mul];exact Nat.mul_le_mul_right _ hroom
   have hr2:=run_append_room (P:=P) w t ty e i ht hi g n cap cur hgg a m c news hl hnews h1 hroom hfit
   rw [hr] at hr2
   obtain ⟨rfl,rfl⟩:=hr2
   exact .inl rfl
  ·have holds:∀ j u,xs[j]?=some u->w.cell? ((⟨g,0,none⟩:Addr).add j)=some u:=hown.cells (g:=g) rfl
   have hr2:=run_append_grow (P:=P) w t ty e i z ht hi hz ⟨g,0,none⟩ n cap xs hown.1 holds a m c news hl hnews (by omega) (by omega) (growslice_fits (by omega) hbytes)
   rw [hr] at hr2
   obtain ⟨rfl,rfl⟩:=hr2
   exact .inr ⟨_,rfl,Nat.le_refl _⟩
theorem wpList_push (w:World) {ops:Array Oper} {rest:List Oper} {o:Oper} {ac:Act} {Q:Exit->Act->World->Prop} (hgd:o.guard=none) (s x:Operand) (t:TypeId)
 (ho:o.op=.call { callee:=.builtin .append,args:=#[s,x],argTypes:=#[t,t] })
 (base:Nat) (e:TypeId) (z:Value) (size bytes:Nat) (ht:P.underlying t=some (.slice e))
 (hinfo:(P.info? e).map (fun i=>(i.zero,i.size,i.bytes))=some (some z,size,bytes)) (hzs:z.cells.size=size) (hsz:0<size)
 (v:Value) (n:Nat) (xs:List Value) (news:List Value) (o':Obj) (ho':o'=.cells news.toArray e) (hs:ac.eval s=v) (hown:w.ownsRow base e size v n xs)
 (hx:ac.eval x=.slice (some ⟨w.heap.size,0,none⟩) 1 1) (hl:news.length=size) (h1:∀ u∈news,u.oneCell'=true)
 (hbytes:(n+1) * bytes<=140737488355328) (h63:n+1<=9223372036854775807) (hbase:base<=w.heap.size)
 (h:∀ v' w',w'.ownsRow base e size v' (n+1) (xs++news)->w.grownBy w' v.ownBlock->Moved v v' w.heap.size->v'≠.slice none 0 0->wpList P ops Q rest (ac.put o.dst v') w') :
 wpList P ops Q (o::rest) ac (w.alloc o'):=by
 subst ho'
 obtain ⟨i,hi,hz0,hz1,hz2⟩:=info_parts hinfo
 refine wpList_plain hgd fun K hK=>?_
 obtain ⟨v',w',hr,ho2,hg,hm,hn⟩:=run_append_moved (P:=P) (w.alloc (.cells news.toArray e)) base t o.type e i z size bytes ht hi hz0 hz1 hz2 hzs hsz v n xs (hown.alloc _)
  ⟨w.heap.size,0,none⟩ 1 1 news (by simpa using hl) (fun j u hj=>by
    rw [Addr.add_lit]
    have:=World.cell?_alloc_mark w news.toArray e (0,0) (0+j)
    rw [this];simpa using hj) h1 hbytes (by unfold maxLen;omega) (by simp;omega)
 unfold Oper.wp execOp
 simp only [ho,resolve,invoke,builtin,Sem.run_bind,Sem.run_pure,Result.andThen_ok,List.map_toArray,List.map_cons,List.map_nil,hs,hx,hr]
 refine hK _ _ (h v' w' ho2 ?_ ?_ ?_)
 ·refine ⟨hg.os,hg.tape,hg.output,Nat.le_trans (by simp) hg.size,fun k hk hne=>?_⟩
  rw [hg.block k (by simp;omega) hne]
  exact alloc_old_gx w _ hk
 ·rcases hm with hm|⟨g,hm,hgl⟩
  ·exact .inl hm
  ·exact .inr ⟨g,hm,by simp at hgl;omega⟩
 ·intro hh
  have:=hn.1 hh
  omega
theorem wpList_append_all (w:World) {ops:Array Oper} {rest:List Oper} {o:Oper} {ac:Act} {Q:Exit->Act->World->Prop} (hgd:o.guard=none) (s x:Operand) (t:TypeId)
 (ho:o.op=.call { callee:=.builtin .append,args:=#[s,x],argTypes:=#[t,t] })
 (base:Nat) (e:TypeId) (z:Value) (size bytes:Nat) (ht:P.underlying t=some (.slice e))
 (hinfo:(P.info? e).map (fun i=>(i.zero,i.size,i.bytes))=some (some z,size,bytes)) (hzs:z.cells.size=size) (hsz:0<size)
 (v:Value) (n:Nat) (xs:List Value) (ad:Option Addr) (m c:Nat) (news:List Value) (hs:ac.eval s=v) (hx:ac.eval x=.slice ad m c) (hown:w.ownsRow base e size v n xs)
 (hl:news.length=m * size) (hn:ad=none->m=0/\c=0) (hnews:∀ a,ad=some a->∀ j u,news[j]?=some u->w.cell? (a.add j)=some u) (h1:∀ u∈news,u.oneCell'=true)
 (hbytes:(n+m) * bytes<=140737488355328) (h63:n+m<=9223372036854775807) (hbase:base<=w.heap.size)
 (h:∀ v' w',w'.ownsRow base e size v' (n+m) (xs++news)->w.grownBy w' v.ownBlock->Moved v v' w.heap.size->wpList P ops Q rest (ac.put o.dst v') w') :
 wpList P ops Q (o::rest) ac w:=by
 obtain ⟨i,hi,hz0,hz1,hz2⟩:=info_parts hinfo
 refine wpList_plain hgd fun K hK=>?_
 cases ad with
 | some a =>
   obtain ⟨v',w',hr,ho2,hg,hm,-⟩:=run_append_moved (P:=P) w base t o.type e i z size bytes ht hi hz0 hz1 hz2 hzs hsz v n xs hown a m c news hl (hnews a rfl) h1 hbytes (by unfold maxLen;omega) hbase
   unfold Oper.wp execOp
   simp only [ho,resolve,invoke,builtin,Sem.run_bind,Sem.run_pure,Result.andThen_ok,List.map_toArray,List.map_cons,List.map_nil,hs,hx,hr]
   exact hK _ _ (h v' w' ho2 hg hm)
 | none =>
   obtain ⟨rfl,rfl⟩:=hn rfl
   have hnews0:news=[]:=List.eq_nil_of_length_eq_zero (by simpa using hl)
   subst hnews0
   have hr:=run_append_owned_none (P:=P) w base t o.type e i size ht hi v n xs hown
   unfold Oper.wp execOp
   simp only [ho,resolve,invoke,builtin,Sem.run_bind,Sem.run_pure,Result.andThen_ok,List.map_toArray,List.map_cons,List.map_nil,hs,hx,hr]
   exact hK _ _ (h v w (by simpa using hown) (World.grownBy.refl _ _) (.inl rfl))
theorem conv_bytes_run (w:World) (src dst e:TypeId) (s:ByteArray) (hs:P.underlying src=some .string) (hd:P.underlying dst=some (.slice e)) (he:P.underlying e=some (.int .u8)) :
 ∃ cap w',(convert src dst (.string s)).run P w=.ok (.slice (some ⟨w.heap.size,0,none⟩) s.size cap) w'/\s.size<=cap/\w.heap.size<w'.heap.size/\w.grownBy w' none /\
  ∀ j (h:j<s.data.size),w'.cell? ⟨w.heap.size,j,none⟩=some (.int .u8 (s.data[j].toNat:Int)):=by
 refine ⟨_,_,run_bytes_of_string w src dst e s hs hd he,grownCap_ge _ _ _ _,by simp,⟨rfl,rfl,rfl,by simp,fun k hk _=>alloc_old_gx w.drew _ hk⟩,fun j h=>?_⟩
 rw [<-bytesRow_at s (grownCap w s.size 0 e) j h]
 exact World.cell?_alloc_mark w.drew _ _ _ j
end
theorem own_cell {w:World} {base:Nat} {e:TypeId} {v:Value} {n:Nat} {xs:List Value} (h:w.ownsRow base e 1 v n xs) (hn:0<n) :
 ∃ g cap,v=.slice (some ⟨g,0,none⟩) n cap/\base<=g/\n<=cap/\g<w.heap.size/\∀ j u,xs[j]?=some u->w.cell? ⟨g,j,none⟩=some u:=by
 have hc:=fun g=>h.cells (g:=g)
 have hlt:=h.lt
 rcases h.2 with ⟨rfl,h0⟩|⟨g,cap,cur,rfl,hb,hg,hnc,_⟩
 ·omega
 ·refine ⟨g,cap,rfl,hb,hnc,(hlt g rfl).2,fun j u hj=>?_⟩
  have:=hc g rfl j u hj
  rwa [Addr.add_lit,Nat.zero_add] at this
theorem own_form {w:World} {base:Nat} {e:TypeId} {size:Nat} {v:Value} {n:Nat} {xs:List Value} (h:w.ownsRow base e size v n xs):∃ vo vc,v=.slice vo n vc:=by
 rcases h.2 with ⟨rfl,rfl⟩|⟨g,cap,cur,rfl,_⟩
 ·exact ⟨none,0,rfl⟩
 ·exact ⟨_,cap,rfl⟩
theorem own_keep {w w':World} {base:Nat} {e:TypeId} {size:Nat} {v:Value} {n:Nat} {xs:List Value} (h:w.ownsRow base e size v n xs) (hb:Below w.heap.size w w'):w'.ownsRow base e size v n xs:=by
 refine ⟨h.1,?_⟩
 rcases h.2 with h2|⟨g,cap,cur,hv,hg,hh,r⟩
 ·exact .inl h2
 ·exact .inr ⟨g,cap,cur,hv,hg,by rw [hb.block g (Array.getElem?_eq_some_iff.1 hh).1];exact hh,r⟩
theorem drewN_below (w:World) (n B:Nat):Below B w (w.drewN n):=⟨rfl,rfl,rfl,Nat.le_refl _,fun _ _=>rfl⟩
end Go.Proofs.YtgnonbdkmmkdgaaGreatDoor.Gx
namespace Go.Proofs.YtgnonbdkmmkdgaaGreatDoor
open Go.RowKit Gx
inductive V where
 | mk (k n f:Int) (s:ByteArray) (l:List V) (e:List (ByteArray×V))
namespace V
def k:V->Int|.mk k _ _ _ _ _=>k
def n:V->Int|.mk _ n _ _ _ _=>n
def f:V->Int|.mk _ _ f _ _ _=>f
def s:V->ByteArray|.mk _ _ _ s _ _=>s
def l:V->List V|.mk _ _ _ _ l _=>l
def e:V->List (ByteArray×V)|.mk _ _ _ _ _ e=>e
def zero:V:=.mk 0 0 0 ⟨#[]⟩ [] []
instance:Inhabited V:=⟨zero⟩
theorem lt_l {v x:V} (h:x∈v.l):SizeOf.sizeOf x<SizeOf.sizeOf v:=by
 cases v with|mk k n f s l e =>
 have:=List.sizeOf_lt_of_mem (show x∈l from h)
 simp;omega
theorem lt_e {v:V} {x:ByteArray×V} (h:x∈v.e):SizeOf.sizeOf x.2<SizeOf.sizeOf v:=by
 cases v with|mk k n f s l e =>
 have:=List.sizeOf_lt_of_mem (show x∈e from h)
 obtain ⟨a,b⟩:=x
 simp at this ⊢;omega
structure wf (v:V):Prop where
 k0:-9223372036854775808<=v.k
 k1:v.k<=9223372036854775807
 n0:-9223372036854775808<=v.n
 n1:v.n<=9223372036854775807
 f0:0<=v.f
 f1:v.f<=18446744073709551615
 s1:v.s.size<=140737488351232
theorem wf_zero:zero.wf:=⟨by decide,by decide,by decide,by decide,by decide,by decide,by decide⟩
end V
structure Loc where
 v:V
 ad:Option Addr
 cap:Nat
 bd:Option Addr
 dap:Nat
instance:Inhabited Loc:=⟨⟨.zero,none,0,none,0⟩⟩
def Loc.sl (q:Loc):Value:=.slice q.ad q.v.l.length q.cap
def Loc.se (q:Loc):Value:=.slice q.bd q.v.e.length q.dap
def Loc.cs (q:Loc):List Value:=[.int .i64 q.v.k,.int .i64 q.v.n,.int .u64 q.v.f,.string q.v.s,.slice q.ad q.v.l.length q.cap,.slice q.bd q.v.e.length q.dap]
def Loc.val (q:Loc):Value:=.agg #[.int .i64 q.v.k,.int .i64 q.v.n,.int .u64 q.v.f,.string q.v.s,.slice q.ad q.v.l.length q.cap,.slice q.bd q.v.e.length q.dap]
structure CellsAt (w:World) (b o:Nat) (q:Loc):Prop where
 c0:w.cell? ⟨b,o,none⟩=some (.int .i64 q.v.k)
 c1:w.cell? ⟨b,o+1,none⟩=some (.int .i64 q.v.n)
 c2:w.cell? ⟨b,o+2,none⟩=some (.int .u64 q.v.f)
 c3:w.cell? ⟨b,o+3,none⟩=some (.string q.v.s)
 c4:w.cell? ⟨b,o+4,none⟩=some (.slice q.ad q.v.l.length q.cap)
 c5:w.cell? ⟨b,o+5,none⟩=some (.slice q.bd q.v.e.length q.dap)
theorem CellsAt.through {w w':World} {b o:Nat} {q:Loc} (h:CellsAt w b o q) (hb:w'.heap[b]?=w.heap[b]?):CellsAt w' b o q:=by
 have hq:∀ o,w'.cell? ⟨b,o,none⟩=w.cell? ⟨b,o,none⟩:=fun o=>World.cell?_of_block hb
 exact ⟨(hq _).trans h.c0,(hq _).trans h.c1,(hq _).trans h.c2,(hq _).trans h.c3,(hq _).trans h.c4,(hq _).trans h.c5⟩
theorem CellsAt.box {w:World} {b:Nat} {q:Loc} {ty:TypeId} (h:w.heap[b]?=some (.cells q.cs.toArray ty)):CellsAt w b 0 q:=by
 constructor<;>simp [World.cell?,h,Loc.cs]
def lp (l:List V):List (ByteArray×V):=l.map fun x=>(⟨#[]⟩,x)
theorem lp_len (l:List V):(lp l).length=l.length:=by simp [lp]
theorem lp_get {l:List V} {i:Nat} {x:V} (h:l[i]?=some x):(lp l)[i]?=some (⟨#[]⟩,x):=by simp [lp,h]
def st (t:Bool):Nat:=if t then 7 else 6
def fd (t:Bool):Nat:=if t then 1 else 0
inductive RowAt (w:World) (B:Nat->Prop):Bool->List (ByteArray×V)->Value->Prop
 | nil (t:Bool) (ad:Option Addr) (cap:Nat):RowAt w B t [] (.slice ad 0 cap)
 | row (t:Bool) (xs:List (ByteArray×V)) (blk off cap:Nat) (sl se:Nat->Value) (hne:xs≠[]) (hn:xs.length * (st t * 16 - 8)<=140737488351232) (hB:B blk) (hlt:blk<w.heap.size)
   (hk:t=true->∀ i x,xs[i]?=some x->w.cell? ⟨blk,off+i * 7,none⟩=some (.string x.1)/\x.1.size<=140737488351232)
   (hc:∀ i x,xs[i]?=some x->x.2.wf/\w.cell? ⟨blk,off+i * st t+fd t,none⟩=some (.int .i64 x.2.k)/\w.cell? ⟨blk,off+i * st t+fd t+1,none⟩=some (.int .i64 x.2.n) /\
     w.cell? ⟨blk,off+i * st t+fd t+2,none⟩=some (.int .u64 x.2.f)/\w.cell? ⟨blk,off+i * st t+fd t+3,none⟩=some (.string x.2.s) /\
     w.cell? ⟨blk,off+i * st t+fd t+4,none⟩=some (sl i)/\w.cell? ⟨blk,off+i * st t+fd t+5,none⟩=some (se i))
   (hl:∀ i x,xs[i]?=some x->RowAt w B false (lp x.2.l) (sl i)) (he:∀ i x,xs[i]?=some x->RowAt w B true x.2.e (se i)) :
   RowAt w B t xs (.slice (some ⟨blk,off,none⟩) xs.length cap)
structure VAt (w:World) (B:Nat->Prop) (q:Loc):Prop where
 wf:q.v.wf
 l:RowAt w B false (lp q.v.l) (.slice q.ad q.v.l.length q.cap)
 e:RowAt w B true q.v.e (.slice q.bd q.v.e.length q.dap)
theorem RowAt.through {w w':World} {B C:Nat->Prop} {t:Bool} {xs:List (ByteArray×V)} {v:Value} (h:RowAt w B t xs v) (hs:w.heap.size<=w'.heap.size)
 (hb:∀ b,B b->b<w.heap.size->w'.heap[b]?=w.heap[b]?) (hC:∀ b,B b->b<w.heap.size->C b):RowAt w' C t xs v:=by
 induction h with
 | nil t ad cap=>exact .nil t ad cap
 | row t xs blk off cap sl se hne hn hB hlt hk hc hl he ihl ihe =>
   have hq:∀ o,w'.cell? ⟨blk,o,none⟩=w.cell? ⟨blk,o,none⟩:=fun o=>World.cell?_of_block (hb blk hB hlt)
   refine .row t xs blk off cap sl se hne hn (hC _ hB hlt) (Nat.lt_of_lt_of_le hlt hs) (fun ht i x hi=>?_) (fun i x hi=>?_) ihl ihe
   ·rw [hq];exact hk ht i x hi
   ·rw [hq,hq,hq,hq,hq,hq];exact hc i x hi
theorem RowAt.weak {w:World} {B C:Nat->Prop} {t:Bool} {xs:List (ByteArray×V)} {v:Value} (h:RowAt w B t xs v) (hC:∀ b,B b->b<w.heap.size->C b):RowAt w C t xs v :=
 h.through (Nat.le_refl _) (fun _ _ _=>rfl) hC
theorem RowAt.keep {w w':World} {B:Nat->Prop} {t:Bool} {xs:List (ByteArray×V)} {v:Value} (h:RowAt w B t xs v) (hb:Below w.heap.size w w'):RowAt w' B t xs v :=
 h.through hb.size (fun b _ hl=>hb.block b hl) (fun _ h _=>h)
theorem RowAt.grow {w w':World} {B:Nat->Prop} {t:Bool} {xs:List (ByteArray×V)} {v:Value} {row:Option Nat} (h:RowAt w B t xs v) (hg:w.grownBy w' row) (hr:∀ b,row=some b->¬ B b):RowAt w' B t xs v :=
 h.through hg.size (fun b hB hl=>hg.block b hl (fun e=>hr b e.symm hB)) (fun _ h _=>h)
theorem RowAt.len {w:World} {B:Nat->Prop} {t:Bool} {xs:List (ByteArray×V)} {v:Value} (h:RowAt w B t xs v):∃ ad cap,v=.slice ad xs.length cap:=by
 cases h with
 | nil t ad cap=>exact ⟨ad,cap,rfl⟩
 | row t xs blk off cap=>exact ⟨_,cap,rfl⟩
theorem RowAt.bound {w:World} {B:Nat->Prop} {t:Bool} {xs:List (ByteArray×V)} {v:Value} (h:RowAt w B t xs v):xs.length * (st t * 16 - 8)<=140737488351232:=by
 cases h with
 | nil t ad cap=>simp
 | row t xs blk off cap sl se hne hn=>exact hn
theorem RowAt.llen {w:World} {B:Nat->Prop} {l:List V} {v:Value} (h:RowAt w B false (lp l) v):∃ ad cap,v=.slice ad l.length cap:=by
 have:=h.len;rw [lp_len] at this;exact this
theorem RowAt.elem {w:World} {B:Nat->Prop} {l:List V} {ad:Option Addr} {n cap:Nat} (h:RowAt w B false (lp l) (.slice ad n cap)) (hl:0<l.length):∃ b off,ad=some ⟨b,off,none⟩/\B b/\b<w.heap.size /\
 ∀ i x,l[i]?=some x->∃ q:Loc,q.v=x/\VAt w B q/\CellsAt w b (off+i * 6) q:=by
 generalize hx:lp l=xs at h
 generalize hv:Value.slice ad n cap=v at h
 generalize ht:false=t at h
 cases h with
 | nil t ad cap=>have:=congrArg List.length hx;rw [lp_len,List.length_nil] at this;omega
 | row t xs blk off cap sl se hne hn hB hlt hk hc hl he =>
   subst hx
   subst ht
   simp only [Value.slice.injEq] at hv
   obtain ⟨rfl,rfl,rfl⟩:=hv
   refine ⟨blk,off,rfl,hB,hlt,fun i x hi=>?_⟩
   obtain ⟨h0,h1,h2,h3,h4,h5,h6⟩:=hc i _ (lp_get hi)
   have hl':=hl i _ (lp_get hi)
   have he':=he i _ (lp_get hi)
   obtain ⟨a1,c1,e1⟩:=hl'.llen
   obtain ⟨a2,c2,e2⟩:=he'.len
   rw [e1] at h5 hl'
   rw [e2] at h6 he'
   exact ⟨⟨x,a1,c1,a2,c2⟩,rfl,⟨h0,hl',he'⟩,h1,h2,h3,h4,h5,h6⟩
theorem RowAt.entry {w:World} {B:Nat->Prop} {l:List (ByteArray×V)} {ad:Option Addr} {n cap:Nat} (h:RowAt w B true l (.slice ad n cap)) (hl:0<l.length):∃ b off,ad=some ⟨b,off,none⟩/\B b/\b<w.heap.size /\
 ∀ i x,l[i]?=some x->x.1.size<=140737488351232/\w.cell? ⟨b,off+i * 7,none⟩=some (.string x.1)/\∃ q:Loc,q.v=x.2/\VAt w B q/\CellsAt w b (off+i * 7+1) q:=by
 generalize hv:Value.slice ad n cap=v at h
 generalize ht:true=t at h
 cases h with
 | nil t ad cap=>simp at hl
 | row t xs blk off cap sl se hne hn hB hlt hk hc hl he =>
   subst ht
   simp only [Value.slice.injEq] at hv
   obtain ⟨rfl,rfl,rfl⟩:=hv
   refine ⟨blk,off,rfl,hB,hlt,fun i x hi=>?_⟩
   obtain ⟨h0,h1,h2,h3,h4,h5,h6⟩:=hc i _ hi
   obtain ⟨k1,k2⟩:=hk rfl i x hi
   have hl':=hl i _ hi
   have he':=he i _ hi
   obtain ⟨a1,c1,e1⟩:=hl'.llen
   obtain ⟨a2,c2,e2⟩:=he'.len
   rw [e1] at h5 hl'
   rw [e2] at h6 he'
   exact ⟨k2,k1,⟨x.2,a1,c1,a2,c2⟩,rfl,⟨h0,hl',he'⟩,h1,h2,h3,h4,h5,h6⟩
theorem CellsAt.seven {w:World} {b o:Nat} {q:Loc} (h:CellsAt w b (o+1) q):w.cell? ⟨b,o+1,none⟩=some (.int .i64 q.v.k)/\w.cell? ⟨b,o+2,none⟩=some (.int .i64 q.v.n)/\w.cell? ⟨b,o+3,none⟩=some (.int .u64 q.v.f) /\
 w.cell? ⟨b,o+4,none⟩=some (.string q.v.s)/\w.cell? ⟨b,o+5,none⟩=some (.slice q.ad q.v.l.length q.cap)/\w.cell? ⟨b,o+6,none⟩=some (.slice q.bd q.v.e.length q.dap):=h.casesOn fun a b c d e f=>⟨a,b,c,d,e,f⟩
theorem RowAt.lbound {w:World} {B:Nat->Prop} {l:List V} {v:Value} (h:RowAt w B false (lp l) v):l.length * 88<=140737488351232:=by
 have:=h.bound;rw [lp_len] at this;simpa [st] using this
theorem RowAt.ebound {w:World} {B:Nat->Prop} {l:List (ByteArray×V)} {v:Value} (h:RowAt w B true l v):l.length * 104<=140737488351232:=by
 have:=h.bound;simpa [st] using this
variable {w w':World} {B C:Nat->Prop} {q:Loc}
theorem VAt.through (h:VAt w B q) (hs:w.heap.size<=w'.heap.size) (hb:∀ b,B b->b<w.heap.size->w'.heap[b]?=w.heap[b]?) (hC:∀ b,B b->b<w.heap.size->C b):VAt w' C q :=
 ⟨h.wf,h.l.through hs hb hC,h.e.through hs hb hC⟩
theorem VAt.weak (h:VAt w B q) (hC:∀ b,B b->b<w.heap.size->C b):VAt w C q:=⟨h.wf,h.l.weak hC,h.e.weak hC⟩
theorem VAt.keep (h:VAt w B q) (hb:Below w.heap.size w w'):VAt w' B q:=⟨h.wf,h.l.keep hb,h.e.keep hb⟩
theorem VAt.grow {row:Option Nat} (h:VAt w B q) (hg:w.grownBy w' row) (hr:∀ b,row=some b->¬ B b):VAt w' B q:=⟨h.wf,h.l.grow hg hr,h.e.grow hg hr⟩
theorem VAt.zero (w:World) (B:Nat->Prop) (a b:Option Addr) (c d:Nat):VAt w B ⟨.zero,a,c,b,d⟩:=⟨V.wf_zero,.nil _ _ _,.nil _ _ _⟩
end Go.Proofs.YtgnonbdkmmkdgaaGreatDoor
namespace Go.Proofs.YtgnonbdkmmkdgaaGreatDoor
open Go.RowKit Go.Deep Go.WideShapes
section
variable {H:Type} {enc:TypeId×Value->H} {w:World} {base:Nat} {spare:Nat->Bool} {held:Bool}
def wOk (t:TypeId) (d:DataW H):Prop:=∀ k∈d.weights Tryz.prog t,k<=reachBytes
theorem weightsAll_in {e:TypeId}:∀ {l:List (DataW H)} {d:DataW H},d∈l->∀ n∈d.weights Tryz.prog e,n∈DataW.weightsAll Tryz.prog e l
 | [],_,h,_,_=>by cases h
 | x::l,d,h,n,hn=>by
   unfold DataW.weightsAll
   rcases List.mem_cons.1 h with rfl|h
   ·exact List.mem_append_left _ hn
   ·exact List.mem_append_right _ (weightsAll_in h n hn)
theorem int_form {k:IntKind} {t:TypeId} (ht:Tryz.prog.underlying t=some (.int k)) {n:Nat} {c:Value} {x:DataW H×List MemPlace} (h:DataW.trod enc Tryz.prog w base spare held n t [c]=some x):∃ z,c=.int k z/\(Lit.int k z).wf=true:=by
 obtain ⟨z,h1,-,h2⟩:=DataW.trod_int ht h
 exact ⟨z,by simpa using h1,h2⟩
theorem str_form {t:TypeId} (ht:Tryz.prog.underlying t=some .string) {n:Nat} {c:Value} {x:DataW H×List MemPlace} (h:DataW.trod enc Tryz.prog w base spare held n t [c]=some x) (hw:wOk t x.1):∃ s,c=.string s/\s.size<=140737488351232:=by
 obtain ⟨s,h1,h2,-⟩:=DataW.trod_string ht h
 refine ⟨s,by simpa using h1,?_⟩
 rw [h2] at hw
 unfold wOk DataW.weights at hw
 exact hw s.data.toList.length (by simp)
theorem rows_open {t e:TypeId} {wd:Nat} (ht:Tryz.prog.underlying t=some (.slice e)) (hce:Tryz.prog.cellsOf e=wd) {n:Nat} {c:Value} {x:DataW H×List MemPlace} (h:DataW.trod enc Tryz.prog w base spare held n t [c]=some x) (hw:wOk t x.1)
 {α:Type} [Inhabited α] {R:List Value->α->Prop} (ih:∀ m cs y,m<n->DataW.trod enc Tryz.prog w base spare held m e cs=some y->wOk e y.1->∃ a,R cs a) :
 ∃ (ad:Option Addr) (cap:Nat) (xs:List α),c=.slice ad xs.length cap/\xs.length * Tryz.prog.bytesOf e<=140737488351232/\(xs.length<=cap/\cap<=9223372036854775807/\(ad=none->cap=0)) /\
  (xs≠[]->∃ a:Addr,ad=some a/\∀ i y,xs[i]?=some y->∃ cs,R cs y/\cs.length=wd/\∀ j u,cs[j]?=some u->w.cell? (a.add (i * wd+j))=some u):=by
 rcases DataW.trod_slice ht h with ⟨h1,-⟩|⟨a,len,cap,elems,rest,m,rfl,h1,h2,-,hl,hm,hel,hi,-,-⟩
 ·exact ⟨none,0,[],by simpa using h1,by simp,by simp,fun h=>absurd rfl h⟩
 ·obtain rfl:c=.slice (some a) len cap:=by simpa using h1
  have hw1:∀ k∈(elems.length+rest.length) * Tryz.prog.bytesOf e::(DataW.weightsAll Tryz.prog e (elems.map (·.1))++DataW.weightsAll Tryz.prog e (rest.map (·.1))),k<=reachBytes:=by
   intro k hk
   refine hw k ?_
   rw [h2]
   unfold DataW.weights
   rw [ht]
   simpa using hk
  have hall:∀ i,i<len->∃ y:α,∃ cs,R cs y/\cs.length=wd/\∀ j u,cs[j]?=some u->w.cell? (a.add (i * wd+j))=some u:=by
   intro i hil
   have hb:=hi i hil
   have hlt:i<elems.length:=by omega
   rw [List.getElem?_eq_getElem hlt] at hb
   obtain ⟨cs,hcs,htr⟩:=Option.bind_eq_some_iff.1 hb
   obtain ⟨y,hy⟩:=ih m cs _ (by omega) htr (fun k hk=>hw1 k (List.mem_cons_of_mem _ (List.mem_append_left _ (weightsAll_in (List.mem_map_of_mem (List.getElem_mem hlt)) k hk))))
   rw [hce] at hcs
   obtain ⟨_,hlen,hcell⟩:=World.cells?_some hcs
   refine ⟨y,cs,hy,hlen,fun j u hj=>?_⟩
   have hjl:j<cs.length:=(List.getElem?_eq_some_iff.1 hj).1
   have:=hcell j (by omega)
   rw [add_add] at this
   rw [this,hj]
  obtain ⟨F,hF⟩:=choose_lt hall
  have hg:∀ j p,((List.range len).map F)[j]?=some p->j<len/\p=F j:=by
   intro j p hj
   rw [List.getElem?_map] at hj
   by_cases hjl:j<len
   ·rw [List.getElem?_range hjl] at hj
    simp at hj
    exact ⟨hjl,hj.symm⟩
   ·rw [List.getElem?_eq_none (by simp;omega)] at hj
    cases hj
  refine ⟨some a,cap,(List.range len).map F,by simp,?_,⟨by simpa using hl,Nat.le_trans hm (by decide),fun h=>(by cases h)⟩,fun _=>⟨a,rfl,fun i y hy=>?_⟩⟩
  ·have:=hw1 _ (List.mem_cons_self)
   rw [List.length_map,List.length_range]
   have h3:len * Tryz.prog.bytesOf e<=(elems.length+rest.length) * Tryz.prog.bytesOf e:=Nat.mul_le_mul_right _ (by omega)
   have h4:reachBytes=140737488351232:=rfl
   omega
  ·obtain ⟨h5,rfl⟩:=hg i y hy
   exact hF i h5
theorem Tryz.bytes_value:Tryz.prog.bytesOf 32=88:=by kernel_rfl
theorem Tryz.bytes_entry:Tryz.prog.bytesOf 96=104:=by kernel_rfl
theorem val_struct {n:Nat} {cs:List Value} {x:DataW H×List MemPlace} (h:DataW.trod enc Tryz.prog w base spare held n 32 cs=some x) (hw:wOk 32 x.1) :
 ∃ (m:Nat) (k nn f:Int) (s:ByteArray) (cl ce:Value) (yl ye:DataW H×List MemPlace),n=m+1/\cs=[.int .i64 k,.int .i64 nn,.int .u64 f,.string s,cl,ce]/\(Lit.int .i64 k).wf=true/\(Lit.int .i64 nn).wf=true/\(Lit.int .u64 f).wf=true/\s.size<=140737488351232 /\
  DataW.trod enc Tryz.prog w base spare held m 29 [cl]=some yl/\wOk 29 yl.1/\DataW.trod enc Tryz.prog w base spare held m 30 [ce]=some ye/\wOk 30 ye.1:=by
 obtain ⟨xs,m,rfl,hxy,hlen,hxl,hf⟩:=DataW.trod_struct Tryz.underlying32 h
 have c6:Tryz.prog.cellsOf 32=6:=by kernel_rfl
 rw [c6] at hlen
 have k0:Tryz.prog.cellsOf 3=1:=by kernel_rfl
 have k1:Tryz.prog.cellsOf 2=1:=by kernel_rfl
 have k2:Tryz.prog.cellsOf 28=1:=by kernel_rfl
 have k3:Tryz.prog.cellsOf 9=1:=by kernel_rfl
 have k4:Tryz.prog.cellsOf 29=1:=by kernel_rfl
 have k5:Tryz.prog.cellsOf 30=1:=by kernel_rfl
 match xs,hxl,cs,hlen with
 | [y0,y1,y2,y3,y4,y5],_,[v0,v1,v2,v3,v4,v5],_ =>
   have g0:=hf 0 _ rfl
   have g1:=hf 1 _ rfl
   have g2:=hf 2 _ rfl
   have g3:=hf 3 _ rfl
   have g4:=hf 4 _ rfl
   have g5:=hf 5 _ rfl
   simp only [k0,k1,k2,k3,k4,k5,List.drop,List.take,List.getElem?_cons_zero,List.getElem?_cons_succ] at g0 g1 g2 g3 g4 g5
   have hx1:x.1=.agg [y0.1,y1.1,y2.1,y3.1,y4.1,y5.1]:=by rw [hxy];rfl
   have hww:∀ k∈y0.1.weights Tryz.prog 3++(y1.1.weights Tryz.prog 2++(y2.1.weights Tryz.prog 28++(y3.1.weights Tryz.prog 9++(y4.1.weights Tryz.prog 29++(y5.1.weights Tryz.prog 30++[]))))),k<=reachBytes:=by
    intro k hk
    refine hw k ?_
    rw [hx1]
    unfold DataW.weights
    rw [Tryz.underlying32]
    exact hk
   obtain ⟨z0,rfl,w0⟩:=int_form Tryz.underlying3 g0
   obtain ⟨z1,rfl,w1⟩:=int_form Tryz.underlying2 g1
   obtain ⟨z2,rfl,w2⟩:=int_form Tryz.underlying28 g2
   obtain ⟨z3,rfl,w3⟩:=str_form Tryz.underlying9 g3 (fun k hk=>hww k (by simp [hk]))
   exact ⟨m,z0,z1,z2,z3,v4,v5,y4,y5,rfl,rfl,w0,w1,w2,w3,g4,fun k hk=>hww k (by simp [hk]),g5,fun k hk=>hww k (by simp [hk])⟩
theorem ent_struct {n:Nat} {cs:List Value} {x:DataW H×List MemPlace} (h:DataW.trod enc Tryz.prog w base spare held n 96 cs=some x) (hw:wOk 96 x.1) :
 ∃ (m:Nat) (s:ByteArray) (cs':List Value) (y:DataW H×List MemPlace),n=m+1/\cs=.string s::cs'/\s.size<=140737488351232/\DataW.trod enc Tryz.prog w base spare held m 32 cs'=some y/\wOk 32 y.1:=by
 obtain ⟨xs,m,rfl,hxy,hlen,hxl,hf⟩:=DataW.trod_struct Tryz.underlying96 h
 have c7:Tryz.prog.cellsOf 96=7:=by kernel_rfl
 rw [c7] at hlen
 have k3:Tryz.prog.cellsOf 9=1:=by kernel_rfl
 have k6:Tryz.prog.cellsOf 32=6:=by kernel_rfl
 match xs,hxl,cs,hlen with
 | [y0,y1],_,[v0,v1,v2,v3,v4,v5,v6],_ =>
   have g0:=hf 0 _ rfl
   have g1:=hf 1 _ rfl
   simp only [k3,k6,List.drop,List.take,List.getElem?_cons_zero,List.getElem?_cons_succ] at g0 g1
   have hx1:x.1=.agg [y0.1,y1.1]:=by rw [hxy];rfl
   have hww:∀ k∈y0.1.weights Tryz.prog 9++(y1.1.weights Tryz.prog 32++[]),k<=reachBytes:=by
    intro k hk
    refine hw k ?_
    rw [hx1]
    unfold DataW.weights
    rw [Tryz.underlying96]
    exact hk
   obtain ⟨z3,rfl,w3⟩:=str_form Tryz.underlying9 g0 (fun k hk=>hww k (by simp [hk]))
   exact ⟨m,z3,_,y1,rfl,rfl,w3,g1,fun k hk=>hww k (by simp [hk])⟩
theorem row_of {t:Bool} {ad:Option Addr} {cap:Nat} (xs:List (ByteArray×Loc)) (hb:xs.length * (st t * 16 - 8)<=140737488351232)
 (h:xs≠[]->∃ a:Addr,ad=some a/\∀ i y,xs[i]?=some y->VAt w (fun _=>True) y.2/\(t=true->y.1.size<=140737488351232)/\∀ j u,((if t then [Value.string y.1] else [])++y.2.cs)[j]?=some u->w.cell? (a.add (i * st t+j))=some u) :
 RowAt w (fun _=>True) t (xs.map fun y=>(y.1,y.2.v)) (.slice ad xs.length cap):=by
 by_cases h0:xs=[]
 ·subst h0;exact .nil _ _ _
 ·obtain ⟨a,rfl,hall⟩:=h h0
  have hpos:0<xs.length:=List.length_pos_iff.2 h0
  obtain ⟨y0,hy0⟩:∃ y0,xs[0]?=some y0:=⟨_,List.getElem?_eq_getElem hpos⟩
  have hc0:∃ u,w.cell? (a.add (0 * st t+0))=some u:=by
   cases t with
   | true=>exact ⟨_,(hall 0 y0 hy0).2.2 0 (.string y0.1) rfl⟩
   | false=>exact ⟨_,(hall 0 y0 hy0).2.2 0 (.int .i64 y0.2.v.k) rfl⟩
  obtain ⟨u0,hu0⟩:=hc0
  have hspot:a.spot=none:=by
   have:=World.cell?_spot hu0
   simpa [Addr.add] using this
  obtain ⟨b,off,spot⟩:=a
  simp only at hspot
  subst hspot
  have hlt:b<w.heap.size:=World.block_lt_of_cell? w ⟨b,off+(0 * st t+0),none⟩ (by rw [Addr.add_lit] at hu0;exact hu0)
  have hl:(xs.map fun y=>(y.1,y.2.v)).length=xs.length:=by simp
  rw [<-hl]
  have hget:∀ i x,(xs.map fun y=>(y.1,y.2.v))[i]?=some x->∃ y,xs[i]?=some y/\x=(y.1,y.2.v)/\(xs.getD i default)=y:=fun i x hi=>by
   rw [List.getElem?_map] at hi
   obtain ⟨y,h1,rfl⟩:=Option.map_eq_some_iff.1 hi
   exact ⟨y,h1,rfl,by simp [List.getD,h1]⟩
  refine .row t _ b off cap (fun i=>(xs.getD i default).2.sl) (fun i=>(xs.getD i default).2.se) (by simpa using h0) (by rw [hl];exact hb) trivial hlt (fun ht i x hi=>?_) (fun i x hi=>?_) (fun i x hi=>?_) (fun i x hi=>?_)
  ·obtain ⟨y,h1,rfl,-⟩:=hget i x hi
   subst ht
   obtain ⟨-,h2,h3⟩:=hall i y h1
   have:=h3 0 (.string y.1) rfl
   rw [Addr.add_lit] at this
   exact ⟨this,h2 rfl⟩
  ·obtain ⟨y,h1,rfl,h4⟩:=hget i x hi
   obtain ⟨hv,-,h3⟩:=hall i y h1
   have hcell:∀ j u,y.2.cs[j]?=some u->w.cell? ⟨b,off+i * st t+fd t+j,none⟩=some u:=fun j u hj=>by
    cases t with
    | true =>
      have:=h3 (j+1) u (by simpa using hj)
      rw [Addr.add_lit] at this
      rw [show off+i * st true+fd true+j=off+(i * st true+(j+1)) by simp [fd];omega]
      exact this
    | false =>
      have:=h3 j u (by simpa using hj)
      rw [Addr.add_lit] at this
      rw [show off+i * st false+fd false+j=off+(i * st false+j) by simp [fd];omega]
      exact this
   simp only [h4]
   exact ⟨hv.wf,hcell 0 _ rfl,hcell 1 _ rfl,hcell 2 _ rfl,hcell 3 _ rfl,hcell 4 _ rfl,hcell 5 _ rfl⟩
  ·obtain ⟨y,h1,rfl,h4⟩:=hget i x hi
   simp only [h4]
   exact (hall i y h1).1.l
  ·obtain ⟨y,h1,rfl,h4⟩:=hget i x hi
   simp only [h4]
   exact (hall i y h1).1.e
theorem wf_of {k nn f:Int} {s:ByteArray} {l:List V} {e:List (ByteArray×V)} (h1:(Lit.int .i64 k).wf=true) (h2:(Lit.int .i64 nn).wf=true) (h3:(Lit.int .u64 f).wf=true) (h4:s.size<=140737488351232):(V.mk k nn f s l e).wf:=by
 simp [Lit.wf,IntKind.min,IntKind.max,IntKind.signed,IntKind.bits] at h1 h2 h3
 exact ⟨h1.1,h1.2,h2.1,h2.2,h3.1,h3.2,h4⟩
theorem val_open:∀ (n:Nat) (cs:List Value) (x:DataW H×List MemPlace),DataW.trod enc Tryz.prog w base spare held n 32 cs=some x->wOk 32 x.1->∃ q:Loc,cs=q.cs/\VAt w (fun _=>True) q:=by
 intro n
 induction n using Nat.strongRecOn with
 | ind n ih =>
   intro cs x h hw
   obtain ⟨m,k,nn,f,s,cl,ce,yl,ye,rfl,rfl,w1,w2,w3,hs,hl,hwl,he,hwe⟩:=val_struct h hw
   obtain ⟨ad,cap,ls,rfl,hlb,-,hlc⟩:=rows_open (wd:=6) (R:=fun cs (q:Loc)=>cs=q.cs/\VAt w (fun _=>True) q) Tryz.underlying29 (by kernel_rfl) hl hwl (fun m' cs y hm h1 h2=>ih m' (by omega) cs y h1 h2)
   obtain ⟨bd,dap,es,rfl,heb,-,hec⟩:=rows_open (wd:=7) (R:=fun cs (q:ByteArray×Loc)=>cs=.string q.1::q.2.cs/\q.1.size<=140737488351232/\VAt w (fun _=>True) q.2) Tryz.underlying30 (by kernel_rfl) he hwe (fun m' cs y hm h1 h2=>by
    obtain ⟨m2,s2,cs2,y2,rfl,rfl,hs2,h3,h4⟩:=ent_struct h1 h2
    obtain ⟨q,rfl,hv⟩:=ih m2 (by omega) _ _ h3 h4
    exact ⟨(s2,q),rfl,hs2,hv⟩)
   rw [Tryz.bytes_value] at hlb
   rw [Tryz.bytes_entry] at heb
   have r1:=row_of (w:=w) (t:=false) (ad:=ad) (cap:=cap) (ls.map fun q=>((⟨#[]⟩:ByteArray),q)) (by simpa [st] using hlb) (fun hne=>by
    obtain ⟨a,rfl,hall⟩:=hlc (by intro e;rw [e] at hne;exact hne rfl)
    refine ⟨a,rfl,fun i y hi=>?_⟩
    rw [List.getElem?_map] at hi
    obtain ⟨q,hq,rfl⟩:=Option.map_eq_some_iff.1 hi
    obtain ⟨cs,⟨rfl,hv⟩,-,hc⟩:=hall i q hq
    exact ⟨hv,(fun h=>(by cases h)),fun j u hj=>hc j u (by simpa using hj)⟩)
   have r2:=row_of (w:=w) (t:=true) (ad:=bd) (cap:=dap) es (by simp only [st,if_true];omega) (fun hne=>by
    obtain ⟨a,rfl,hall⟩:=hec hne
    refine ⟨a,rfl,fun i y hi=>?_⟩
    obtain ⟨cs,⟨rfl,hk,hv⟩,-,hc⟩:=hall i y hi
    exact ⟨hv,fun _=>hk,fun j u hj=>hc j u (by simpa using hj)⟩)
   rw [List.length_map,List.map_map] at r1
   refine ⟨⟨.mk k nn f s (ls.map (·.v)) (es.map fun y=>(y.1,y.2.v)),ad,cap,bd,dap⟩,by simp [Loc.cs,V.k,V.n,V.f,V.s,V.l,V.e],wf_of w1 w2 w3 hs,?_,?_⟩
   ·show RowAt w _ false (lp (ls.map (·.v))) (.slice ad (ls.map (·.v)).length cap)
    rw [List.length_map,lp,List.map_map]
    exact r1
   ·show RowAt w _ true (es.map fun y=>(y.1,y.2.v)) (.slice bd (es.map fun y=>(y.1,y.2.v)).length dap)
    rw [List.length_map]
    exact r2
theorem val_arg {r:Reach} {b0:Nat} {v:Value} {d:DataW H} {p:List MemPlace} (hv:Value.okWide Tryz.prog w r b0 32 v) (h:DataW.Trod enc Tryz.prog w base spare held 32 v d p) (hw:wOk 32 d) :
 ∃ q:Loc,v=q.val/\VAt w (fun _=>True) q:=by
 obtain ⟨cs,rfl,-⟩:=okWide_struct Tryz.underlying32 hv
 obtain ⟨n,hn⟩:=h
 obtain ⟨q,hq,hvq⟩:=val_open n _ _ hn hw
 refine ⟨q,?_,hvq⟩
 have:cs.toList=q.cs:=hq
 have e:cs=q.cs.toArray:=by rw [<-this]
 rw [e];rfl
end
end Go.Proofs.YtgnonbdkmmkdgaaGreatDoor
namespace Go.Proofs.YtgnonbdkmmkdgaaGreatDoor.Gx
open Go Go.RowKit
structure Rd (k:IntKind) (w:World) (ad:Option Addr) (cap:Nat) (xs:List Int):Prop where
 ncap:xs.length<=cap
 cap63:cap<=9223372036854775807
 wf:∀ x∈xs,(Lit.int k x).wf=true
 none_:ad=none->cap=0
 at_:∀ a,ad=some a->0<xs.length->a.spot=none/\a.block<w.heap.size/\∀ j,j<xs.length->w.cell? ⟨a.block,a.off+j,none⟩=some (.int k (xs.getD j 0))
variable {k:IntKind} {w w':World} {ad:Option Addr} {cap:Nat} {xs:List Int}
theorem Rd.keep (h:Rd k w ad cap xs) (hb:Below w.heap.size w w'):Rd k w' ad cap xs:=by
 refine ⟨h.ncap,h.cap63,h.wf,h.none_,fun a ha hp=>?_⟩
 obtain ⟨h1,h2,h3⟩:=h.at_ a ha hp
 exact ⟨h1,Nat.lt_of_lt_of_le h2 hb.size,fun j hj=>(hb.cell (p:=⟨a.block,a.off+j,none⟩) h2).trans (h3 j hj)⟩
theorem Rd.addr (h:Rd k w ad cap xs) (hp:0<xs.length):∃ b off,ad=some ⟨b,off,none⟩/\b<w.heap.size/\∀ j,j<xs.length->w.cell? ⟨b,off+j,none⟩=some (.int k (xs.getD j 0)):=by
 cases ad with
 | none=>have:=h.none_ rfl;have:=h.ncap;omega
 | some a =>
   obtain ⟨h1,h2,h3⟩:=h.at_ a rfl hp
   obtain ⟨b,off,spot⟩:=a
   simp only at h1
   subst h1
   exact ⟨b,off,rfl,h2,h3⟩
theorem Rd.nil (k:IntKind) (w:World) (ad:Option Addr) (cap:Nat) (h1:cap<=9223372036854775807) (h2:ad=none->cap=0):Rd k w ad cap [] :=
 ⟨by simp,h1,fun x hx=>by simp at hx,h2,fun a _ hp=>by simp at hp⟩
theorem Rd.own {base:Nat} {e:TypeId} {v:Value} {n:Nat} (h:w.ownsRow base e 1 v n (xs.map (Value.int k))) (hw:∀ x∈xs,(Lit.int k x).wf=true) :
 ∃ ad cap,v=.slice ad xs.length cap/\Rd k w ad cap xs:=by
 have hn:xs.length=n:=by have:=h.1;simpa using this
 have hc:=fun g=>h.cells (g:=g)
 rcases h.2 with ⟨rfl,rfl⟩|⟨g,cap,cur,rfl,hb,hg,hnc,hcm,_⟩
 ·have:xs=[]:=List.eq_nil_of_length_eq_zero hn
  subst this
  exact ⟨none,0,rfl,Rd.nil _ _ _ _ (by omega) (fun _=>rfl)⟩
 ·subst hn
  refine ⟨some ⟨g,0,none⟩,cap,rfl,hnc,by unfold maxLen at hcm;omega,hw,fun h=>by simp at h,fun a ha hp=>?_⟩
  obtain rfl:=Option.some.inj ha
  refine ⟨rfl,(Array.getElem?_eq_some_iff.1 hg).1,fun j hj=>?_⟩
  have:=hc g rfl j (.int k (xs.getD j 0)) (by simp [List.getD,List.getElem?_eq_getElem hj])
  rwa [Addr.add_lit] at this
theorem Rd.own' {base:Nat} {e:TypeId} {v:Value} {n:Nat} (h:w.ownsRow base e 1 v n (xs.map (Value.int k))) (hw:∀ x∈xs,(Lit.int k x).wf=true) :
 ∃ ad cap,v=.slice ad xs.length cap/\Rd k w ad cap xs/\∀ a,ad=some a->base<=a.block:=by
 obtain ⟨ad,cap,rfl,hr⟩:=Rd.own h hw
 refine ⟨ad,cap,rfl,hr,fun a ha=>?_⟩
 subst ha
 exact (h.lt a.block rfl).1
theorem Rd.grown {row:Option Nat} (h:Rd k w ad cap xs) (hg:w.grownBy w' row) (hne:∀ a,ad=some a->0<xs.length->some a.block≠row):Rd k w' ad cap xs:=by
 refine ⟨h.ncap,h.cap63,h.wf,h.none_,fun a ha hp=>?_⟩
 obtain ⟨h1,h2,h3⟩:=h.at_ a ha hp
 exact ⟨h1,Nat.lt_of_lt_of_le h2 hg.size,fun j hj=>hg.cell (h3 j hj) (hne a ha hp)⟩
end Go.Proofs.YtgnonbdkmmkdgaaGreatDoor.Gx
namespace Go.Proofs.YtgnonbdkmmkdgaaGreatDoor
open Go.RowKit Gx
def good (r:Int):Bool:=decide (0<=r) && decide (r<=1114111) && !(decide (55296<=r) && decide (r<=57343))
theorem good_iff (r:Int):good r=true↔0<=r/\r<=1114111/\(r<55296\/57343<r):=by
 unfold good
 simp only [Bool.and_eq_true,Bool.not_eq_true',Bool.and_eq_false_iff,decide_eq_true_eq,decide_eq_false_iff_not]
 omega
def TruePost (w:World) (e:Ending) (w':World):Prop:=e=.returned (.bool true)/\Below w.heap.size w w'
def encs (l:List Int):List UInt8:=l.flatMap Lib.encodeRune
theorem byteNat (z:Int) (h0:0<=z) (h1:z<256):(z.toNat.toUInt8).toNat=z.toNat:=by
 show z.toNat % 256=z.toNat
 omega
theorem dN2 (n b2 b3 r:Nat) (h0:128<=r) (h1:r<=2047) (hn:1<n):Lib.decodeN n (192+r / 64) (128+r % 64) b2 b3=(r,2):=by
 unfold Lib.decodeN
 rw [if_neg (by omega),if_pos (by omega),if_pos (by omega)]
 congr 1;omega
theorem dN3 (n b3 r:Nat) (h0:2048<=r) (h1:r<=65535) (h2:r<55296\/57343<r) (hn:2<n):Lib.decodeN n (224+r / 4096) (128+r / 64 % 64) (128+r % 64) b3=(r,3):=by
 have e:(224+r / 4096) % 16 * 4096+(128+r / 64 % 64) % 64 * 64+(128+r % 64) % 64=r:=by omega
 unfold Lib.decodeN
 rw [if_neg (by omega),if_neg (by omega),if_pos (by omega),e,if_pos (by omega)]
theorem dN4 (n r:Nat) (h0:65536<=r) (h1:r<=1114111) (hn:3<n):Lib.decodeN n (240+r / 262144) (128+r / 4096 % 64) (128+r / 64 % 64) (128+r % 64)=(r,4):=by
 have e:(240+r / 262144) % 8 * 262144+(128+r / 4096 % 64) % 64 * 4096+(128+r / 64 % 64) % 64 * 64+(128+r % 64) % 64=r:=by omega
 unfold Lib.decodeN
 rw [if_neg (by omega),if_neg (by omega),if_neg (by omega),if_pos (by omega),e,if_pos (by omega)]
theorem decode_enc (r:Int) (hg:good r=true) (x:List UInt8):Lib.decodeL (Lib.encodeRune r++x)=(r.toNat,(Lib.encodeRune r).length):=by
 rw [good_iff] at hg
 obtain ⟨r,rfl⟩:=Int.eq_ofNat_of_zero_le hg.1
 rw [Lib.decodeL_N,Int.toNat_natCast]
 unfold Lib.encodeRune
 by_cases r1:(r:Int)<=127
 ·rw [Lib.encodeRuneZ_one hg.1 r1]
  simp only [List.map_cons,List.map_nil,List.cons_append,List.nil_append,List.getD_cons_zero,List.length_cons,List.length_nil]
  rw [byteNat _ (by omega) (by omega),Lib.decodeN_ascii _ _ _ _ _ (by omega)]
  simp
 by_cases r2:(r:Int)<=2047
 ·rw [Lib.encodeRuneZ_two (by omega) r2]
  simp only [List.map_cons,List.map_nil,List.cons_append,List.nil_append,List.getD_cons_zero,List.getD_cons_succ,List.length_cons,List.length_nil]
  rw [byteNat _ (by omega) (by omega),byteNat _ (by omega) (by omega),show (192+(r:Int) / 64).toNat=192+r / 64 by omega,show (128+(r:Int) % 64).toNat=128+r % 64 by omega]
  exact dN2 _ _ _ r (by omega) (by omega) (by omega)
 by_cases r3:(r:Int)<=65535
 ·rw [Lib.encodeRuneZ_three (by omega)]
  simp only [List.map_cons,List.map_nil,List.cons_append,List.nil_append,List.getD_cons_zero,List.getD_cons_succ,List.length_cons,List.length_nil]
  rw [byteNat _ (by omega) (by omega),byteNat _ (by omega) (by omega),byteNat _ (by omega) (by omega),show (224+(r:Int) / 4096).toNat=224+r / 4096 by omega,
   show (128+(r:Int) / 64 % 64).toNat=128+r / 64 % 64 by omega,show (128+(r:Int) % 64).toNat=128+r % 64 by omega]
  exact dN3 _ _ r (by omega) (by omega) (by omega) (by omega)
 ·rw [Lib.encodeRuneZ_four (by omega) (by omega)]
  simp only [List.map_cons,List.map_nil,List.cons_append,List.nil_append,List.getD_cons_zero,List.getD_cons_succ,List.length_cons,List.length_nil]
  rw [byteNat _ (by omega) (by omega),byteNat _ (by omega) (by omega),byteNat _ (by omega) (by omega),byteNat _ (by omega) (by omega),show (240+(r:Int) / 262144).toNat=240+r / 262144 by omega,
   show (128+(r:Int) / 4096 % 64).toNat=128+r / 4096 % 64 by omega,show (128+(r:Int) / 64 % 64).toNat=128+r / 64 % 64 by omega,show (128+(r:Int) % 64).toNat=128+r % 64 by omega]
  exact dN4 _ r (by omega) (by omega) (by omega)
theorem enc_len (r:Int):1<=(Lib.encodeRune r).length/\(Lib.encodeRune r).length<=4:=by
 unfold Lib.encodeRune
 rw [List.length_map]
 exact Lib.encodeRuneZ_length r
theorem not_bad (r:Int) (hg:good r=true) (x:List UInt8):Lib.decodeL (Lib.encodeRune r++x)≠(65533,1):=by
 rw [decode_enc r hg]
 intro h
 obtain ⟨h1,h2⟩:=Prod.mk.inj h
 rw [good_iff] at hg
 have:r=65533:=by omega
 subst this
 rw [show (Lib.encodeRune 65533).length=3 from by decide] at h2
 omega
def okText (l:List UInt8):Prop:=∃ rs:List Int,rs.all good=true/\l=encs rs
theorem encs_cons (r:Int) (rs:List Int):encs (r::rs)=Lib.encodeRune r++encs rs:=rfl
theorem okText_nil:okText []:=⟨[],rfl,rfl⟩
theorem encs_nil {rs:List Int} (h:encs rs=[]):rs=[]:=by
 cases rs with
 | nil=>rfl
 | cons r rs =>
   rw [encs_cons] at h
   have:=(enc_len r).1
   rw [(List.append_eq_nil_iff.1 h).1] at this
   simp at this
theorem okText_code (r:Int) (hg:good r=true) (x:List UInt8):okText (Lib.encodeRune r++x)↔okText x:=by
 constructor
 ·rintro ⟨rs,h1,h2⟩
  cases rs with
  | nil =>
    have:=(enc_len r).1
    rw [(List.append_eq_nil_iff.1 h2).1] at this
    simp at this
  | cons r2 rs =>
    rw [List.all_cons,Bool.and_eq_true] at h1
    rw [encs_cons] at h2
    have d1:=decode_enc r hg x
    have d2:=decode_enc r2 h1.1 (encs rs)
    rw [h2,d2] at d1
    obtain ⟨e1,e2⟩:=Prod.mk.inj d1
    have:=(List.append_inj h2 e2.symm).2
    exact ⟨rs,h1.2,this⟩
 ·rintro ⟨rs,h1,h2⟩
  exact ⟨r::rs,by rw [List.all_cons,hg,h1];rfl,by rw [encs_cons,h2]⟩
theorem decodeL_pos (l:List UInt8):1<=(Lib.decodeL l).2:=by rw [Lib.decodeL_N];exact Lib.decodeN_ge1 _ _ _ _ _
theorem okText_step (l:List UInt8) (hne:l≠[]):okText l↔Lib.decodeL l≠(65533,1)/\okText (l.drop (Lib.decodeL l).2):=by
 constructor
 ·rintro ⟨rs,h1,rfl⟩
  cases rs with
  | nil=>exact absurd rfl hne
  | cons r rs =>
    rw [List.all_cons,Bool.and_eq_true] at h1
    rw [encs_cons]
    refine ⟨not_bad r h1.1 _,?_⟩
    rw [decode_enc r h1.1,List.drop_left]
    exact ⟨rs,h1.2,rfl⟩
 ·rintro ⟨h1,h2⟩
  have he:=Lib.encode_decode l hne (fun h=>h1 (Prod.ext h.1 h.2))
  have hv:=Lib.decodeN_valid l.length (l.getD 0 0).toNat (l.getD 1 0).toNat (l.getD 2 0).toNat (l.getD 3 0).toNat (UInt8.toNat_lt _)
  rw [<-Lib.decodeL_N] at hv
  have hg:good ((Lib.decodeL l).1:Int)=true:=by rw [good_iff];omega
  have e:l=Lib.encodeRune ((Lib.decodeL l).1:Int)++l.drop (Lib.decodeL l).2:=by rw [he,List.take_append_drop]
  rw [e]
  exact (okText_code _ hg _).2 h2
structure Fd (τ:Type) where
 n:ByteArray
 o:Bool
 h:Bool
 t:τ
 d:V
inductive Ty where
 | mk (k lo hi:Int) (x:List ByteArray) (t:List Ty) (f:List (Fd Ty)) (n:ByteArray)
namespace Ty
def k:Ty->Int|.mk k _ _ _ _ _ _=>k
def lo:Ty->Int|.mk _ lo _ _ _ _ _=>lo
def hi:Ty->Int|.mk _ _ hi _ _ _ _=>hi
def x:Ty->List ByteArray|.mk _ _ _ x _ _ _=>x
def t:Ty->List Ty|.mk _ _ _ _ t _ _=>t
def f:Ty->List (Fd Ty)|.mk _ _ _ _ _ f _=>f
def n:Ty->ByteArray|.mk _ _ _ _ _ _ n=>n
def zero:Ty:=.mk 0 0 0 [] [] [] ⟨#[]⟩
instance:Inhabited Ty:=⟨zero⟩
theorem lt_t {a b:Ty} (h:b∈a.t):SizeOf.sizeOf b<SizeOf.sizeOf a:=by
 cases a with|mk k lo hi x t f n =>
 have:=List.sizeOf_lt_of_mem (show b∈t from h)
 simp;omega
theorem lt_f {a:Ty} {b:Fd Ty} (h:b∈a.f):SizeOf.sizeOf b.t<SizeOf.sizeOf a:=by
 cases a with|mk k lo hi x t f n =>
 have:=List.sizeOf_lt_of_mem (show b∈f from h)
 obtain ⟨bn,bo,bh,bt,bd⟩:=b
 simp at this ⊢;omega
def flat (a:Ty):List Ty:=if a.k=11 then a.t.attach.flatMap (fun b=>flat b.1) else [a]
termination_by SizeOf.sizeOf a
decreasing_by exact lt_t b.2
theorem flat_eq (a:Ty):a.flat=if a.k=11 then a.t.flatMap flat else [a]:=by
 rw [flat]
 by_cases h:a.k=11
 ·rw [if_pos h,if_pos h]
  have e:a.t.flatMap flat=(a.t.attach.map Subtype.val).flatMap flat:=by rw [List.attach_map_subtype_val]
  rw [e,List.flatMap_map]
 ·rw [if_neg h,if_neg h]
theorem flat_one {a:Ty} (h:a.k≠11):a.flat=[a]:=by rw [flat_eq,if_neg h]
theorem flat_union {a:Ty} (h:a.k=11):a.flat=a.t.flatMap flat:=by rw [flat_eq,if_pos h]
end Ty
def tells (k v:Int):Bool :=
 if k=1 then decide (0<=v) && decide (v<=6) else if k=6\/k=7 then decide (v=4) else if k=8 then decide (v=5) else if k=9\/k=10 then decide (v=6) else decide (v=k - 2)
def Ty.pick (a:Ty) (v:Int):Option Ty:=a.flat.find? fun b=>tells b.k v
def fdOf {τ:Type} (l:List (Fd τ)) (s:ByteArray):Option (Fd τ):=l.find? fun f=>decide (f.n=s)
def askF {τ:Type} (full:Bool) (f:Fd τ):Bool:=(!f.o && !f.h) || (full && f.h)
open Classical in
noncomputable def runeN (l:List UInt8):Nat:=if h:okText l then h.choose.length else 0
inductive Fit (full:Bool):Ty->V->Prop
 | mk (a:Ty) (v:V) (b:Ty) (hb:a.pick v.k=some b) (hi:b.k=4->b.lo<=v.n/\v.n<=b.hi) (hs:b.k=6->b.lo<=runeN v.s.data.toList/\(runeN v.s.data.toList:Int)<=b.hi)
    (ho:b.k=7->v.s∈b.x) (hn:b.k=8->b.lo<=v.l.length/\(v.l.length:Int)<=b.hi) (hl:b.k=8->∀ c∈v.l,Fit full (b.t.getD 0 default) c) (hm:b.k=9->∀ c∈v.e,Fit full (b.t.getD 0 default) c.2)
    (hr:b.k=10->∀ c∈v.e,(fdOf b.f c.1).isSome=true) (hf:b.k=10->∀ c∈v.e,∀ f,fdOf b.f c.1=some f->Fit full f.t c.2) (ha:b.k=10->∀ f∈b.f,askF full f=true->f.n∈v.e.map Prod.fst):Fit full a v
end Go.Proofs.YtgnonbdkmmkdgaaGreatDoor
namespace Go.Proofs.YtgnonbdkmmkdgaaGreatDoor
open Go.RowKit Gx
def isK (s:ByteArray) (x:ByteArray×V):Bool:=x.1.toList==s.toList
def fidx (s:ByteArray) (l:List (ByteArray×V)):Nat:=l.findIdx (isK s)
def gtK (s:ByteArray) (x:ByteArray×V):Bool:=!Op.bytesLess x.1.toList s.toList && !(x.1.toList==s.toList)
def gidx (s:ByteArray) (l:List (ByteArray×V)):Nat:=l.findIdx (gtK s)
def dropL (l:List (ByteArray×V)) (s:ByteArray):List (ByteArray×V):=l.filter fun x=>!isK s x
def insL (l:List (ByteArray×V)) (s:ByteArray) (v:V):List (ByteArray×V):=l.take (gidx s l)++(s,v)::l.drop (gidx s l)
def putL (l:List (ByteArray×V)) (s:ByteArray) (v:V):List (ByteArray×V):=insL (dropL l s) s v
theorem isK_iff {s:ByteArray} {x:ByteArray×V}:isK s x=true↔x.1=s:=by
 unfold isK
 rw [beq_iff_eq,ByteArray.toList_eq,ByteArray.toList_eq]
 exact ⟨fun h=>ByteArray.ext (Array.toList_inj.1 h),fun h=>by rw [h]⟩
theorem fidx_lt {s:ByteArray} {l:List (ByteArray×V)}:fidx s l<l.length↔s∈l.map Prod.fst:=by
 unfold fidx
 rw [List.findIdx_lt_length,List.mem_map]
 exact ⟨fun ⟨x,h1,h2⟩=>⟨x,h1,isK_iff.1 h2⟩,fun ⟨x,h1,h2⟩=>⟨x,h1,isK_iff.2 h2⟩⟩
theorem put_mem {l:List (ByteArray×V)} {s:ByteArray} {v:V} {x:ByteArray×V}:x∈putL l s v↔x=(s,v)\/(x∈l/\x.1≠s):=by
 unfold putL insL
 rw [List.mem_append,List.mem_cons]
 have h:x∈dropL l s↔x∈l/\x.1≠s:=by
  unfold dropL
  rw [List.mem_filter]
  refine and_congr_right fun _=>?_
  rw [Bool.not_eq_true',<-Bool.not_eq_true,isK_iff]
 rw [<-h]
 have h2:=List.take_append_drop (gidx s (dropL l s)) (dropL l s)
 constructor
 ·rintro (g|g|g)
  ·exact .inr (List.mem_of_mem_take g)
  ·exact .inl g
  ·exact .inr (List.mem_of_mem_drop g)
 ·rintro (g|g)
  ·exact .inr (.inl g)
  ·rw [<-h2,List.mem_append] at g
   exact g.imp id .inr
theorem put_keys {l:List (ByteArray×V)} {s k:ByteArray} {v:V}:k∈(putL l s v).map Prod.fst↔k=s\/k∈l.map Prod.fst:=by
 rw [List.mem_map,List.mem_map]
 constructor
 ·rintro ⟨x,h,rfl⟩
  rcases put_mem.1 h with rfl|h
  ·exact .inl rfl
  ·exact .inr ⟨x,h.1,rfl⟩
 ·rintro (rfl|⟨x,h,rfl⟩)
  ·exact ⟨_,put_mem.2 (.inl rfl),rfl⟩
  ·by_cases hx:x.1=s
   ·exact ⟨_,put_mem.2 (.inl rfl),hx.symm⟩
   ·exact ⟨x,put_mem.2 (.inr ⟨h,hx⟩),rfl⟩
end Go.Proofs.YtgnonbdkmmkdgaaGreatDoor
namespace Go.Proofs
open Go.Shelf
def Tryz.lays106_ren:Go.Shelf.Ren:=⟨fun|106=>99|213=>117|265=>142|n=>n,fun|9=>9|3=>3|n=>n,fun|n=>n⟩
theorem Tryz.lays106:Go.Proofs.Lays.n106 Tryz.prog Tryz.lays106_ren:={
 mixed:=by kernel_rfl
 f106:=Tryz.func99.trans (congrArg some (by kernel_rfl))
 f213:=Tryz.func117.trans (congrArg some (by kernel_rfl))
 f265:=Tryz.func142.trans (congrArg some (by kernel_rfl))
 t3:=Tryz.underlying3
 a3:=Tryz.isAgg3
 z3:=Tryz.sizeOf3
 v3:=Tryz.zeroValue3
 t9:=Tryz.underlying9
 a9:=Tryz.isAgg9
 z9:=Tryz.sizeOf9
 v9:=Tryz.zeroValue9 }
open Go.RowKit in
theorem Tryz.strings_Compare (a b:ByteArray) (w:World) :
 Calls Tryz.prog 99 #[.string a,.string b] w fun e w'=>e=.returned (.int .i64 (Lib.compareBytes a.data.toList b.data.toList))/\w'=w:=Any.strings_Compare Tryz.lays106 a b w
def Tryz.lays103_ren:Go.Shelf.Ren:=⟨fun|103=>118|210=>143|206=>158|n=>n,fun|9=>9|4=>4|24=>176|3=>3|n=>n,fun|n=>n⟩
theorem Tryz.lays103:Go.Proofs.Lays.n103 Tryz.prog Tryz.lays103_ren:={
 mixed:=by kernel_rfl
 f103:=Tryz.func118.trans (congrArg some (by kernel_rfl))
 f206:=Tryz.func158.trans (congrArg some (by kernel_rfl))
 f210:=Tryz.func143.trans (congrArg some (by kernel_rfl))
 t3:=Tryz.underlying3
 a3:=Tryz.isAgg3
 z3:=Tryz.sizeOf3
 v3:=Tryz.zeroValue3
 t4:=Tryz.underlying4
 a4:=Tryz.isAgg4
 z4:=Tryz.sizeOf4
 v4:=Tryz.zeroValue4
 t9:=Tryz.underlying9
 a9:=Tryz.isAgg9
 z9:=Tryz.sizeOf9
 v9:=Tryz.zeroValue9
 t24:=Tryz.underlying176
 a24:=Tryz.isAgg176
 z24:=Tryz.sizeOf176
 v24:=Tryz.zeroValue176 }
open Go.RowKit in
theorem Tryz.strings_CutPrefix (s p:ByteArray) (w:World) :
 Calls Tryz.prog 118 #[.string s,.string p] w fun e w'=>e=.returned (.tuple #[.string ⟨(Lib.trimPrefix s.data.toList p.data.toList).toArray⟩,.bool (Lib.hasPrefix s.data.toList p.data.toList)])/\w'=w:=Any.strings_CutPrefix Tryz.lays103 s p w
def Tryz.laysM173_ren:Go.Shelf.Ren:=⟨fun|173=>125|246=>145|283=>160|284=>161|285=>162|286=>163|129=>141|317=>172|318=>173|319=>174|320=>175|337=>193|338=>194|n=>n,fun|2=>2|3=>3|9=>9|4=>4|171=>216|0=>0|53=>28|37=>180|5=>5|173=>218|212=>228|51=>202|20=>20|213=>229|46=>117|232=>244|233=>245|n=>n,fun|17=>3|18=>4|19=>5|n=>n⟩
theorem Tryz.laysM173:Go.Proofs.LaysM.n173 Tryz.prog Tryz.laysM173_ren:={
 mixed:=by kernel_rfl
 f129:=Tryz.func141.trans (congrArg some (by kernel_rfl))
 f173:=Tryz.func125.trans (congrArg some (by kernel_rfl))
 f246:=Tryz.func145.trans (congrArg some (by kernel_rfl))
 f283:=Tryz.func160.trans (congrArg some (by kernel_rfl))
 f284:=Tryz.func161.trans (congrArg some (by kernel_rfl))
 f285:=Tryz.func162.trans (congrArg some (by kernel_rfl))
 f286:=Tryz.func163.trans (congrArg some (by kernel_rfl))
 f317:=Tryz.func172.trans (congrArg some (by kernel_rfl))
 f318:=Tryz.func173.trans (congrArg some (by kernel_rfl))
 f319:=Tryz.func174.trans (congrArg some (by kernel_rfl))
 f320:=Tryz.func175.trans (congrArg some (by kernel_rfl))
 f337:=Tryz.func193.trans (congrArg some (by kernel_rfl))
 f338:=Tryz.func194.trans (congrArg some (by kernel_rfl))
 t0:=Tryz.underlying0
 a0:=Tryz.isAgg0
 z0:=Tryz.sizeOf0
 v0:=Tryz.zeroValue0
 t2:=Tryz.underlying2
 a2:=Tryz.isAgg2
 z2:=Tryz.sizeOf2
 v2:=Tryz.zeroValue2
 t3:=Tryz.underlying3
 a3:=Tryz.isAgg3
 z3:=Tryz.sizeOf3
 v3:=Tryz.zeroValue3
 t4:=Tryz.underlying4
 a4:=Tryz.isAgg4
 z4:=Tryz.sizeOf4
 v4:=Tryz.zeroValue4
 t5:=Tryz.underlying5
 a5:=Tryz.isAgg5
 z5:=Tryz.sizeOf5
 v5:=Tryz.zeroValue5
 t9:=Tryz.underlying9
 a9:=Tryz.isAgg9
 z9:=Tryz.sizeOf9
 v9:=Tryz.zeroValue9
 t20:=Tryz.underlying20
 a20:=Tryz.isAgg20
 z20:=Tryz.sizeOf20
 v20:=Tryz.zeroValue20
 t37:=Tryz.underlying180
 a37:=Tryz.isAgg180
 z37:=Tryz.sizeOf180
 v37:=Tryz.zeroValue180
 t46:=Tryz.underlying117
 a46:=Tryz.isAgg117
 z46:=Tryz.sizeOf117
 v46:=Tryz.zeroValue117
 t51:=Tryz.underlying202
 a51:=Tryz.isAgg202
 z51:=Tryz.sizeOf202
 v51:=Tryz.zeroValue202
 t53:=Tryz.underlying28
 a53:=Tryz.isAgg28
 z53:=Tryz.sizeOf28
 v53:=Tryz.zeroValue28
 t171:=Tryz.underlying216
 a171:=Tryz.isAgg216
 z171:=Tryz.sizeOf216
 v171:=Tryz.zeroValue216
 t173:=Tryz.underlying218
 a173:=Tryz.isAgg218
 z173:=Tryz.sizeOf218
 v173:=Tryz.zeroValue218
 t212:=Tryz.underlying228
 a212:=Tryz.isAgg228
 z212:=Tryz.sizeOf228
 v212:=Tryz.zeroValue228
 t213:=Tryz.underlying229
 a213:=Tryz.isAgg229
 z213:=Tryz.sizeOf229
 t232:=Tryz.underlying244
 a232:=Tryz.isAgg244
 z232:=Tryz.sizeOf244
 v232:=Tryz.zeroValue244
 t233:=Tryz.underlying245
 a233:=Tryz.isAgg245
 z233:=Tryz.sizeOf245
 v233:=Tryz.zeroValue245
 g17:=by kernel_rfl
 g18:=by kernel_rfl
 g19:=by kernel_rfl
 i0:=by kernel_rfl
 i2:=by kernel_rfl
 i3:=by kernel_rfl
 i4:=by kernel_rfl
 i5:=by kernel_rfl
 i9:=by kernel_rfl
 i20:=by kernel_rfl
 i37:=by kernel_rfl
 i46:=by kernel_rfl
 i51:=by kernel_rfl
 i53:=by kernel_rfl
 i171:=by kernel_rfl
 i173:=by kernel_rfl
 i212:=by kernel_rfl
 i232:=by kernel_rfl
 i233:=by kernel_rfl
 m17:=by kernel_rfl
 m18:=by kernel_rfl
 m19:=by kernel_rfl }
open Go.RowKit Go.Sort Go.Lib in
theorem Tryz.strconv_FormatInt_10 (n:Int) (h0:-9223372036854775808<=n) (h1:n<=9223372036854775807) (w:World) (htab:Lib.TabIs Tryz.prog w "internal/strconv.uint64pow10" .u64 Lib.pow10Tab) :
 Calls Tryz.prog 125 #[.int .i64 n,.int .i64 10] w fun e w'=>e=.returned (.string ⟨(Lib.itoa n).toArray⟩)/\∃ k os,w'=grow (w.drewN k) os:=Any.strconv_FormatInt_10 Tryz.laysM173 n h0 h1 w htab
def Tryz.lays197_ren:Go.Shelf.Ren:=⟨fun|197=>94|260=>112|n=>n,fun|9=>9|21=>21|3=>3|4=>4|5=>5|105=>131|119=>188|0=>0|46=>117|139=>191|138=>190|n=>n,fun|3=>0|4=>1|n=>n⟩
theorem Tryz.lays197:Go.Proofs.Lays.n197 Tryz.prog Tryz.lays197_ren:={
 mixed:=by kernel_rfl
 f197:=Tryz.func94.trans (congrArg some (by kernel_rfl))
 f260:=Tryz.func112.trans (congrArg some (by kernel_rfl))
 t0:=Tryz.underlying0
 a0:=Tryz.isAgg0
 z0:=Tryz.sizeOf0
 v0:=Tryz.zeroValue0
 t3:=Tryz.underlying3
 a3:=Tryz.isAgg3
 z3:=Tryz.sizeOf3
 v3:=Tryz.zeroValue3
 t4:=Tryz.underlying4
 a4:=Tryz.isAgg4
 z4:=Tryz.sizeOf4
 v4:=Tryz.zeroValue4
 t5:=Tryz.underlying5
 a5:=Tryz.isAgg5
 z5:=Tryz.sizeOf5
 v5:=Tryz.zeroValue5
 t9:=Tryz.underlying9
 a9:=Tryz.isAgg9
 z9:=Tryz.sizeOf9
 v9:=Tryz.zeroValue9
 t21:=Tryz.underlying21
 a21:=Tryz.isAgg21
 z21:=Tryz.sizeOf21
 v21:=Tryz.zeroValue21
 t46:=Tryz.underlying117
 a46:=Tryz.isAgg117
 z46:=Tryz.sizeOf117
 v46:=Tryz.zeroValue117
 t105:=Tryz.underlying131
 a105:=Tryz.isAgg131
 z105:=Tryz.sizeOf131
 v105:=Tryz.zeroValue131
 t119:=Tryz.underlying188
 a119:=Tryz.isAgg188
 z119:=Tryz.sizeOf188
 t138:=Tryz.underlying190
 a138:=Tryz.isAgg190
 z138:=Tryz.sizeOf190
 v138:=Tryz.zeroValue190
 t139:=Tryz.underlying191
 a139:=Tryz.isAgg191
 z139:=Tryz.sizeOf191
 v139:=Tryz.zeroValue191
 g3:=by kernel_rfl
 g4:=by kernel_rfl }
def Tryz.lays264_ren:Go.Shelf.Ren:=⟨fun|264=>121|n=>n,fun|53=>28|46=>117|n=>n,fun|n=>n⟩
theorem Tryz.lays264:Go.Proofs.Lays.n264 Tryz.prog Tryz.lays264_ren:={
 mixed:=by kernel_rfl
 f264:=Tryz.func121.trans (congrArg some (by kernel_rfl))
 t46:=Tryz.underlying117
 a46:=Tryz.isAgg117
 z46:=Tryz.sizeOf117
 v46:=Tryz.zeroValue117
 t53:=Tryz.underlying28
 a53:=Tryz.isAgg28
 z53:=Tryz.sizeOf28
 v53:=Tryz.zeroValue28 }
open Go.RowKit Go.Lib in
theorem Tryz.bits_Mul64 (x y:Nat) (hx:x<18446744073709551616) (hy:y<18446744073709551616) (w:World) :
 Calls Tryz.prog 121 #[.int .u64 x,.int .u64 y] w fun e w'=>e=.returned (.tuple #[.int .u64 ((x * y / 18446744073709551616:Nat):Int),.int .u64 ((x * y % 18446744073709551616:Nat):Int)])/\w'=w:=Any.bits_Mul64 Tryz.lays264 x y hx hy w
open Go.RowKit Go.Lib in
theorem Tryz.utf8_DecodeRuneInString (s:ByteArray) (w:World) (hT:Lib.Utf8Tabs 0 1 w) :
 Calls Tryz.prog 94 #[.string s] w fun e w'=>e=.returned (.tuple #[.int .i32 (Lib.decodeGo s).1,.int .i64 (Lib.decodeGo s).2])/\Below w.heap.size w w':=Any.utf8_DecodeRuneInString Tryz.lays197 s w hT
def Tryz.lays110_ren:Go.Shelf.Ren:=⟨fun|110=>81|109=>104|n=>n,fun|31=>23|9=>9|4=>4|3=>3|0=>0|n=>n,fun|n=>n⟩
theorem Tryz.lays110:Go.Proofs.Lays.n110 Tryz.prog Tryz.lays110_ren:={
 mixed:=by kernel_rfl
 f109:=Tryz.func104.trans (congrArg some (by kernel_rfl))
 f110:=Tryz.func81.trans (congrArg some (by kernel_rfl))
 t0:=Tryz.underlying0
 a0:=Tryz.isAgg0
 z0:=Tryz.sizeOf0
 v0:=Tryz.zeroValue0
 t3:=Tryz.underlying3
 a3:=Tryz.isAgg3
 z3:=Tryz.sizeOf3
 v3:=Tryz.zeroValue3
 t4:=Tryz.underlying4
 a4:=Tryz.isAgg4
 z4:=Tryz.sizeOf4
 v4:=Tryz.zeroValue4
 t9:=Tryz.underlying9
 a9:=Tryz.isAgg9
 z9:=Tryz.sizeOf9
 v9:=Tryz.zeroValue9
 t31:=Tryz.underlying23
 a31:=Tryz.isAgg23
 z31:=Tryz.sizeOf23
 v31:=Tryz.zeroValue23 }
open Go.Lib in
theorem Tryz.slices_Contains_string (b off n c:Nat) (zs:List ByteArray) (x:ByteArray) (w:World) (hz:n<=zs.length) (hbig:n<=9223372036854775807) (hc:∀ j,j<zs.length->w.cell? ⟨b,off+j,none⟩=some (.string (zs.getD j ByteArray.empty))) :
 Calls Tryz.prog 81 #[.slice (some ⟨b,off,none⟩) n c,.string x] w fun e w'=>e=.returned (.bool (Lib.containsS (zs.take n) x))/\w'=w:=Any.slices_Contains_string Tryz.lays110 b off n c zs x w hz hbig hc
def Tryz.lays193_ren:Go.Shelf.Ren:=⟨fun|193=>14|n=>n,fun|31=>23|9=>9|4=>4|3=>3|0=>0|n=>n,fun|n=>n⟩
theorem Tryz.lays193:Go.Proofs.Lays.n193 Tryz.prog Tryz.lays193_ren:={
 mixed:=by kernel_rfl
 f193:=Tryz.func14.trans (congrArg some (by kernel_rfl))
 t0:=Tryz.underlying0
 a0:=Tryz.isAgg0
 z0:=Tryz.sizeOf0
 v0:=Tryz.zeroValue0
 t3:=Tryz.underlying3
 a3:=Tryz.isAgg3
 z3:=Tryz.sizeOf3
 v3:=Tryz.zeroValue3
 t4:=Tryz.underlying4
 a4:=Tryz.isAgg4
 z4:=Tryz.sizeOf4
 v4:=Tryz.zeroValue4
 t9:=Tryz.underlying9
 a9:=Tryz.isAgg9
 z9:=Tryz.sizeOf9
 v9:=Tryz.zeroValue9
 t31:=Tryz.underlying23
 a31:=Tryz.isAgg23
 z31:=Tryz.sizeOf23
 v31:=Tryz.zeroValue23 }
open Go.RowKit Go.Lib in
theorem Tryz.slices_Equal_string_empty (a1 a2:Option Addr) (c m d:Nat) (w:World) (hbig2:m<=9223372036854775807) :
 Calls Tryz.prog 14 #[.slice a1 0 c,.slice a2 m d] w fun e w'=>e=.returned (.bool (decide (m=0)))/\w'=w:=Any.slices_Equal_string_empty Tryz.lays193 a1 a2 c m d w hbig2
def Tryz.laysNm216_ren:Go.Shelf.Ren:=⟨fun|16=>26|n=>n,fun|24=>23|9=>9|4=>4|n=>n,fun|n=>n⟩
theorem Tryz.laysNm216:Go.Proofs.Lays2.n16 Tryz.prog Tryz.laysNm216_ren:={
 mixed:=by kernel_rfl
 f16:=Tryz.func26.trans (congrArg some (by kernel_rfl))
 t4:=Tryz.underlying4
 a4:=Tryz.isAgg4
 z4:=Tryz.sizeOf4
 v4:=Tryz.zeroValue4
 t9:=Tryz.underlying9
 a9:=Tryz.isAgg9
 z9:=Tryz.sizeOf9
 v9:=Tryz.zeroValue9
 t24:=Tryz.underlying23
 a24:=Tryz.isAgg23
 z24:=Tryz.sizeOf23
 v24:=Tryz.zeroValue23
 i9:=by kernel_rfl }
open Go.RowKit Go.Lib in
theorem Tryz.slices_Clone_string (b off n c:Nat) (zs:List ByteArray) (w:World) (hz:n<=zs.length) (hbig:n * 16<=140737488355328) (hc:∀ j,j<zs.length->w.cell? ⟨b,off+j,none⟩=some (.string (zs.getD j ByteArray.empty))) :
 Calls Tryz.prog 26 #[.slice (some ⟨b,off,none⟩) n c] w fun e w'=>∃ v',e=.returned v'/\w'.ownsRow w.heap.size 9 1 v' n ((zs.take n).map (Value.string))/\v'≠.slice none 0 0/\Below w.heap.size w w':=Any.slices_Clone_string Tryz.laysNm216 b off n c zs w hz hbig hc
open Go.RowKit Go.Lib in
theorem Tryz.slices_Clone_string_nil (n c:Nat) (w:World) :
 Calls Tryz.prog 26 #[.slice none n c] w fun e w'=>e=.returned (.slice none 0 0)/\w'=w:=Any.slices_Clone_string_nil Tryz.laysNm216 n c w
open Go.RowKit Go.Lib in
theorem Tryz.slices_Clone_string_zero (a:Addr) (c:Nat) (w:World) :
 Calls Tryz.prog 26 #[.slice (some a) 0 c] w fun e w'=>∃ v',e=.returned v'/\w'.ownsRow w.heap.size 9 1 v' 0 []/\v'≠.slice none 0 0/\Below w.heap.size w w':=Any.slices_Clone_string_zero Tryz.laysNm216 a c w
end Go.Proofs
namespace Go.Proofs.YtgnonbdkmmkdgaaGreatDoor
open Go.RowKit Gx
def digitOf (c:Int):Int:=if 48<=c/\c<=57 then c - 48 else if 97<=c/\c<=102 then c - 97+10 else if 65<=c/\c<=70 then c - 65+10 else 99
theorem digitOf_le (c:Int):0<=digitOf c/\digitOf c<=99:=by unfold digitOf;split<;>(try split)<;>(try split)<;>omega
def DigitPost (c:Int) (w:World) (e:Ending) (w':World):Prop:=e=.returned (.int .u64 (digitOf c))/\w=w'
theorem digit_any (c:Int) (w:World) (h0:0<=c) (h1:c<256):Calls Tryz.prog 120 #[.int .u8 c] w (DigitPost c w):=by
 by_cases a:48<=c/\c<=57
 ·have e:digitOf c=c - 48:=by unfold digitOf;rw [if_pos a]
  obtain ⟨a1,a2⟩:=a
  have E:=hid e
  clear e
  go_enter Tryz.func120,Tryz.ntmps120
  go_wp2
  go_ret
  exact ⟨by rw [E.out];rfl,rfl⟩
 by_cases b:97<=c/\c<=102
 ·have e:digitOf c=c - 97+10:=by unfold digitOf;rw [if_neg a,if_pos b]
  obtain ⟨b1,b2⟩:=b
  have E:=hid e
  clear e a
  have a1:¬ c<=57:=by omega
  go_enter Tryz.func120,Tryz.ntmps120
  go_wp2
  go_ret
  exact ⟨by rw [E.out];rfl,rfl⟩
 by_cases d:65<=c/\c<=70
 ·have e:digitOf c=c - 65+10:=by unfold digitOf;rw [if_neg a,if_neg b,if_pos d]
  obtain ⟨d1,d2⟩:=d
  have E:=hid e
  clear e a b
  have a1:¬ c<=57:=by omega
  have a2:¬ 97<=c:=by omega
  go_enter Tryz.func120,Tryz.ntmps120
  go_wp2
  go_ret
  exact ⟨by rw [E.out];rfl,rfl⟩
 ·have e:digitOf c=99:=by unfold digitOf;rw [if_neg a,if_neg b,if_neg d]
  have E:=hid e
  clear e
  have c1:c<48\/(57<c/\c<65)\/(70<c/\c<97)\/102<c:=by omega
  clear a b d
  rcases c1 with c1|⟨c1,c2⟩|⟨c1,c2⟩|c1
  all_goals
   go_enter Tryz.func120,Tryz.ntmps120
   go_wp2
   go_ret
   exact ⟨by rw [E.out];rfl,rfl⟩
def baseOf (l:List UInt8):Nat×List UInt8 :=
 if Lib.hasPrefix l [48,120] then (16,Lib.trimPrefix l [48,120]) else if Lib.hasPrefix l [48,111] then (8,Lib.trimPrefix l [48,111]) else if Lib.hasPrefix l [48,98] then (2,Lib.trimPrefix l [48,98]) else (10,l)
def BasePost (l:List UInt8) (w:World) (e:Ending) (w':World):Prop :=
 e=.returned (.tuple #[.int .u64 ((baseOf l).1:Nat),.string ⟨(baseOf l).2.toArray⟩])/\Below w.heap.size w w'
theorem bytes_ext (s:ByteArray) (x:List UInt8) (h:s.data.toList=x):s=⟨x.toArray⟩:=by
 apply ByteArray.ext
 apply Array.toList_inj.1
 simpa using h
theorem base_any (s:ByteArray) (w:World):Calls Tryz.prog 119 #[.string s] w (BasePost s.data.toList w):=by
 have h1:=fun w=>Tryz.strings_CutPrefix s ⟨#[48,120]⟩ w
 have h2:=fun w=>Tryz.strings_CutPrefix s ⟨#[48,111]⟩ w
 have h3:=fun w=>Tryz.strings_CutPrefix s ⟨#[48,98]⟩ w
 have hx:=bytes_ext s _ rfl
 obtain ⟨l,hl⟩:∃ l,l=s.data.toList:=⟨_,rfl⟩
 rw [<-hl] at hx ⊢
 simp only [<-hl] at h1 h2 h3
 have HX:=hid hx
 have H1:=hid h1
 have H2:=hid h2
 have H3:=hid h3
 clear h1 h2 h3 hx hl
 go_enter Tryz.func119,Tryz.ntmps119
 go_wp2_with fail
 refine wp_loop_rounds 4 ?_
 rw [rounds_succ]
 go_wp2_with fail
 refine (H1.out _).mono ?_
 rintro e w' ⟨rfl,rfl⟩
 cases p1:Lib.hasPrefix l [48,120] with
 | true =>
   have e:baseOf l=(16,Lib.trimPrefix l [48,120]):=by unfold baseOf;rw [p1];rfl
   have E:=hid e
   clear e
   go_wp2
   go_ret2
   exact ⟨by rw [E.out];rfl,(((Below.refl _ w).alloc (Nat.le_refl _) _).alloc (by simp) _)⟩
 | false =>
   go_wp2_with fail
   rw [rounds_succ]
   go_wp2_with fail
   refine (H2.out _).mono ?_
   rintro e w' ⟨rfl,rfl⟩
   cases p2:Lib.hasPrefix l [48,111] with
   | true =>
     have e:baseOf l=(8,Lib.trimPrefix l [48,111]):=by unfold baseOf;rw [p1,p2];rfl
     have E:=hid e
     clear e
     go_wp2
     go_ret2
     exact ⟨by rw [E.out];rfl,((((Below.refl _ w).alloc (Nat.le_refl _) _).alloc (by simp) _).alloc (by simp;omega) _)⟩
   | false =>
     go_wp2_with fail
     rw [rounds_succ]
     go_wp2_with fail
     refine (H3.out _).mono ?_
     rintro e w' ⟨rfl,rfl⟩
     cases p3:Lib.hasPrefix l [48,98] with
     | true =>
       have e:baseOf l=(2,Lib.trimPrefix l [48,98]):=by unfold baseOf;rw [p1,p2,p3];rfl
       have E:=hid e
       clear e
       go_wp2
       go_ret2
       exact ⟨by rw [E.out];rfl,(((((Below.refl _ w).alloc (Nat.le_refl _) _).alloc (by simp) _).alloc (by simp;omega) _).alloc (by simp;omega) _)⟩
     | false =>
       have e:baseOf l=(10,l):=by unfold baseOf;rw [p1,p2,p3];rfl
       have E:=hid e
       clear e
       go_wp2_with fail
       rw [rounds_succ]
       go_wp2
       go_ret2
       exact ⟨by rw [E.out,HX.out];rfl,(((((Below.refl _ w).alloc (Nat.le_refl _) _).alloc (by simp) _).alloc (by simp;omega) _).alloc (by simp;omega) _)⟩
def numStep (b:Nat) (n:Nat) (o:Int) (d:Int):Nat×Int :=
 ((((n * b % 18446744073709551616:Nat):Int)+d+0) % 18446744073709551616 |>.toNat,
  bits .or .u64 o (bits .or .u64 ((n * b / 18446744073709551616:Nat):Int) ((((n * b % 18446744073709551616:Nat):Int)+d+0) / 18446744073709551616)))
def numLoop (b:Nat):List Int->Int->Nat->Int->Option (Int×Nat×Int)
 | [],y,n,o=>some (y,n,o)
 | c::t,y,n,o =>
   if c=95 then (if y=95 then none else numLoop b t 95 n o)
   else if (b:Int)<=digitOf c then none else numLoop b t c (numStep b n o (digitOf c)).1 (numStep b n o (digitOf c)).2
def limitOf (minus:Bool):Nat:=if minus then 9223372036854775808 else 9223372036854775807
def readEnd (minus:Bool):Option (Int×Nat×Int)->Int×Int
 | none=>(0,4)
 | some (y,n,o)=>if y=95 then (0,4) else if 0<o\/limitOf minus<n then (0,7) else (if minus then -(n:Int) else n,0)
def intsNm (l:List UInt8):List Int:=l.map fun b=>(b.toNat:Int)
def readBy (minus:Bool) (b:Nat) (r:List UInt8):Int×Int :=
 if b=10/\1<r.length/\r.getD 0 0=48 then (0,4) else readEnd minus (numLoop b (intsNm r) 95 0 0)
def readOf (l:List UInt8):Int×Int :=
 if 80<l.length then (0,2) else readBy (Lib.hasPrefix l [45]) (baseOf (Lib.trimPrefix l [45])).1 (baseOf (Lib.trimPrefix l [45])).2
theorem numStep_lt (b n:Nat) (o d:Int):(numStep b n o d).1<18446744073709551616:=by
 unfold numStep
 simp only
 omega
end Go.Proofs.YtgnonbdkmmkdgaaGreatDoor
