/-
  Lemmas for the statement: plain laws, and what functions answer; the conditions stand in each.
-/
import Derived.WalkKit
import Derived.WalkSpells
import Derived.Lib.Hide
import Derived.Deep.QuietTactic
import Derived.BigQuiet
import Derived.Shelf.Strings.Builder1
import Derived.Shelf.Strings.Builder2
import Derived.Shelf.Strings.Trim
import Derived.Shelf.Small.Utf8
import Derived.Shelf.Small.Bits
import Derived.Shelf.Small.Strs
import Derived.Shelf.Small.Wraps
import Derived.Shelf.Strings.BuilderF
import Derived.Shelf.Strings.BuilderK
import Derived.Shelf.Strings.BuilderRune
import Derived.Shelf.Utf8.AppendRune
import Derived.Shelf.Utf8.AppendRunePlain
import Derived.Shelf.Strings.Builder2Cap
import Derived.Shelf.Strconv.Itoa0
import Derived.Shelf.Strconv.Itoa1
import Derived.Shelf.LaysM
import Derived.Shelf.Strconv.Itoa2
import Derived.Shelf.Strconv.Itoa3
import Derived.Shelf.Strconv.Itoa4
import Derived.Shelf.Strconv.Clone
import Derived.Shelf.Strconv.SyntaxError
import Derived.Shelf.LaysC
import Derived.Shelf.Strconv.ToError
import Derived.Shelf.Strconv.Lower
import Derived.Shelf.Strconv.ParseUint10
import Derived.Shelf.Strconv.ParseUint10Empty
import Derived.Shelf.Strconv.ParseUint10Any
import Derived.Shelf.Strconv.RangeError
import Derived.Shelf.Strconv.ToErrorRange
import Derived.Shelf.Strconv.ParseUintEmpty
import Derived.Shelf.Strconv.ParseUint10b64
import Derived.Shelf.Strconv.ParseUint10b32
import Derived.Shelf.Strconv.ParseUint10b16
import Derived.Shelf.Strconv.ParseUint10b8
import Derived.Shelf.Strconv.ParseUint10At
import Derived.Ground.MpProg
import Derived.Shelf.Pu.ParseUintPublic10
import Derived.Shelf.Pu.ErrVarParseUint
import Derived.Shelf.Strings.Search1
import Derived.Shelf.Strings.Search2
import Derived.Shelf.Strings.Search3
import Derived.Shelf.Strings.Cut
import Derived.Shelf.Strings.Shaped
import Derived.Shelf.Strings.Prefix
import Derived.Shelf.Unicode.Decode
import Derived.Shelf.Strings.Runes
import Derived.Shelf.Strings.AsciiSet
import Derived.Shelf.Bits.Mul64
import Derived.Shelf.Strings.Repeat
import Derived.Shelf.Unicode.DecodeSlow
import Derived.Shelf.Unicode.DecodeAny
import Derived.Shelf.Unicode.DecodeLast
import Derived.Shelf.Strings.BuilderCap
import Derived.Ground.Names2Prog
import Derived.Shelf.Slices.SearchI
import Derived.Test.YtldhmfkojaekfaaGreatDoorProg
import Derived.WalkLawsBesides
import Derived.Lib.Strings
import Derived.Lib.IndexBytes
set_option linter.unusedVariables false
set_option linter.unusedSimpArgs false
theorem Go.alloc_old_gx (w : Go.World) (o : Go.Obj) {r : Nat} (h : r < w.heap.size) : (w.alloc o).heap[r]? = w.heap[r]? := by
  show (w.heap.push o)[r]? = w.heap[r]?
  rw [Array.getElem?_push, if_neg (Nat.ne_of_lt h)]
namespace Go.Proofs.YtldhmfkojaekfaaGreatDoor.Gx
open Go Go.RowKit
def Moved (v v':Value) (lo:Nat):Prop:=v'.ownBlock=v.ownBlock\/∃ g,v'.ownBlock=some g/\lo<=g
theorem Moved.ne {v v':Value} {lo k:Nat} (h:Moved v v' lo) (hk:k<lo) (hne:v.ownBlock≠some k):v'.ownBlock≠some k:=by
 rcases h with h|⟨g,h,hg⟩
 ·rw [h];exact hne
 ·rw [h];intro e;cases e;omega
section
variable {P:Program}
theorem run_append_moved (w:World) (base:Nat) (t ty e:TypeId) (i:TypeInfo) (z:Value) (size bytes:Nat) (ht:P.underlying t=some (.slice e)) (hi:P.info? e=some i) (hz:i.zero=some z)
 (hsize:i.size=size) (hby:i.bytes=bytes) (hzs:z.cells.size=size) (hsz:0<size)
 (v:Value) (n:Nat) (xs:List Value) (hown:w.ownsRow base e size v n xs)
 (a:Addr) (m c:Nat) (news:List Value) (hl:news.length=m * size) (hnews:∀ j u,news[j]?=some u->w.cell? (a.add j)=some u) (h1:∀ u∈news,u.oneCell'=true)
 (hbytes:(n+m) * bytes<=140737488355328) (h63:n+m<=maxLen) (hbase:base<=w.heap.size) :
 ∃ v' w',(Builtin.append_ #[t,t] ty #[v,.slice (some a) m c]).run P w=.ok v' w'/\w'.ownsRow base e size v' (n+m) (xs++news)/\w.grownBy w' v.ownBlock /\
  Moved v v' w.heap.size/\(v'=.slice none 0 0↔v=.slice none 0 0/\m=0):=by
 obtain ⟨v',w',hr,ho,hg,hn⟩:=run_append_own (P:=P) w base t ty e i z size bytes ht hi hz hsize hby hzs hsz v n xs hown a m c news hl hnews h1 h63 hbytes hbase
 refine ⟨v',w',hr,ho,hg,?_,hn⟩
 subst hsize;subst hby
 have hsmall:n+m<=9223372036854775807:=by simp only [maxLen] at h63;omega
 rcases hown.2 with ⟨rfl,rfl⟩|⟨g,cap,cur,rfl,hbg,hgg,hnc,hcm,hcs,htake⟩
 ·have hx:xs=[]:=List.eq_nil_of_length_eq_zero (by simpa using hown.1)
  subst hx
  by_cases hm:m=0
  ·exact .inl (by rw [hn.2 ⟨rfl,hm⟩])
  ·have hr2:=run_append_nil (P:=P) w t ty e i z ht hi hz a m c news hl hnews (by omega) (by omega) (by have hb:=hbytes;simp only [Nat.zero_add] at hb;omega)
   rw [hr] at hr2
   obtain ⟨rfl,rfl⟩:=hr2
   exact .inr ⟨_,rfl,Nat.le_refl _⟩
 ·by_cases hroom:n+m<=cap
  ·have hfit:n * i.size+news.length<=cur.size:=by rw [hl,hcs,<-Nat.add_mul];exact Nat.mul_le_mul_right _ hroom
   have hr2:=run_append_room (P:=P) w t ty e i ht hi g n cap cur hgg a m c news hl hnews h1 hroom hfit
   rw [hr] at hr2
   obtain ⟨rfl,rfl⟩:=hr2
   exact .inl rfl
  ·have holds:∀ j u,xs[j]?=some u->w.cell? ((⟨g,0,none⟩:Addr).add j)=some u:=hown.cells (g:=g) rfl
   have hr2:=run_append_grow (P:=P) w t ty e i z ht hi hz ⟨g,0,none⟩ n cap xs hown.1 holds a m c news hl hnews (by omega) (by omega) (growslice_fits (by omega) hbytes)
   rw [hr] at hr2
   obtain ⟨rfl,rfl⟩:=hr2
   exact .inr ⟨_,rfl,Nat.le_refl _⟩
theorem wpList_push (w:World) {ops:Array Oper} {rest:List Oper} {o:Oper} {ac:Act} {Q:Exit->Act->World->Prop} (hgd:o.guard=none) (s x:Operand) (t:TypeId)
 (ho:o.op=.call { callee:=.builtin .append,args:=#[s,x],argTypes:=#[t,t] })
 (base:Nat) (e:TypeId) (z:Value) (size bytes:Nat) (ht:P.underlying t=some (.slice e))
 (hinfo:(P.info? e).map (fun i=>(i.zero,i.size,i.bytes))=some (some z,size,bytes)) (hzs:z.cells.size=size) (hsz:0<size)
 (v:Value) (n:Nat) (xs:List Value) (news:List Value) (o':Obj) (ho':o'=.cells news.toArray e) (hs:ac.eval s=v) (hown:w.ownsRow base e size v n xs)
 (hx:ac.eval x=.slice (some ⟨w.heap.size,0,none⟩) 1 1) (hl:news.length=size) (h1:∀ u∈news,u.oneCell'=true)
 (hbytes:(n+1) * bytes<=140737488355328) (h63:n+1<=9223372036854775807) (hbase:base<=w.heap.size)
 (h:∀ v' w',w'.ownsRow base e size v' (n+1) (xs++news)->w.grownBy w' v.ownBlock->Moved v v' w.heap.size->v'≠.slice none 0 0->wpList P ops Q rest (ac.put o.dst v') w') :
 wpList P ops Q (o::rest) ac (w.alloc o'):=by
 subst ho'
 obtain ⟨i,hi,hz0,hz1,hz2⟩:=info_parts hinfo
 refine wpList_plain hgd fun K hK=>?_
 obtain ⟨v',w',hr,ho2,hg,hm,hn⟩:=run_append_moved (P:=P) (w.alloc (.cells news.toArray e)) base t o.type e i z size bytes ht hi hz0 hz1 hz2 hzs hsz v n xs (hown.alloc _)
  ⟨w.heap.size,0,none⟩ 1 1 news (by simpa using hl) (fun j u hj=>by
    rw [Addr.add_lit]
    have:=World.cell?_alloc_mark w news.toArray e (0,0) (0+j)
    rw [this];simpa using hj) h1 hbytes (by unfold maxLen;omega) (by simp;omega)
 unfold Oper.wp execOp
 simp only [ho,resolve,invoke,builtin,Sem.run_bind,Sem.run_pure,Result.andThen_ok,List.map_toArray,List.map_cons,List.map_nil,hs,hx,hr]
 refine hK _ _ (h v' w' ho2 ?_ ?_ ?_)
 ·refine ⟨hg.os,hg.tape,hg.output,Nat.le_trans (by simp) hg.size,fun k hk hne=>?_⟩
  rw [hg.block k (by simp;omega) hne]
  exact alloc_old_gx w _ hk
 ·rcases hm with hm|⟨g,hm,hgl⟩
  ·exact .inl hm
  ·exact .inr ⟨g,hm,by simp at hgl;omega⟩
 ·intro hh
  have:=hn.1 hh
  omega
theorem wpList_append_all (w:World) {ops:Array Oper} {rest:List Oper} {o:Oper} {ac:Act} {Q:Exit->Act->World->Prop} (hgd:o.guard=none) (s x:Operand) (t:TypeId)
 (ho:o.op=.call { callee:=.builtin .append,args:=#[s,x],argTypes:=#[t,t] })
 (base:Nat) (e:TypeId) (z:Value) (size bytes:Nat) (ht:P.underlying t=some (.slice e))
 (hinfo:(P.info? e).map (fun i=>(i.zero,i.size,i.bytes))=some (some z,size,bytes)) (hzs:z.cells.size=size) (hsz:0<size)
 (v:Value) (n:Nat) (xs:List Value) (ad:Option Addr) (m c:Nat) (news:List Value) (hs:ac.eval s=v) (hx:ac.eval x=.slice ad m c) (hown:w.ownsRow base e size v n xs)
 (hl:news.length=m * size) (hn:ad=none->m=0/\c=0) (hnews:∀ a,ad=some a->∀ j u,news[j]?=some u->w.cell? (a.add j)=some u) (h1:∀ u∈news,u.oneCell'=true)
 (hbytes:(n+m) * bytes<=140737488355328) (h63:n+m<=9223372036854775807) (hbase:base<=w.heap.size)
 (h:∀ v' w',w'.ownsRow base e size v' (n+m) (xs++news)->w.grownBy w' v.ownBlock->Moved v v' w.heap.size->wpList P ops Q rest (ac.put o.dst v') w') :
 wpList P ops Q (o::rest) ac w:=by
 obtain ⟨i,hi,hz0,hz1,hz2⟩:=info_parts hinfo
 refine wpList_plain hgd fun K hK=>?_
 cases ad with
 | some a =>
   obtain ⟨v',w',hr,ho2,hg,hm,-⟩:=run_append_moved (P:=P) w base t o.type e i z size bytes ht hi hz0 hz1 hz2 hzs hsz v n xs hown a m c news hl (hnews a rfl) h1 hbytes (by unfold maxLen;omega) hbase
   unfold Oper.wp execOp
   simp only [ho,resolve,invoke,builtin,Sem.run_bind,Sem.run_pure,Result.andThen_ok,List.map_toArray,List.map_cons,List.map_nil,hs,hx,hr]
   exact hK _ _ (h v' w' ho2 hg hm)
 | none =>
   obtain ⟨rfl,rfl⟩:=hn rfl
   have hnews0:news=[]:=List.eq_nil_of_length_eq_zero (by simpa using hl)
   subst hnews0
   have hr:=run_append_owned_none (P:=P) w base t o.type e i size ht hi v n xs hown
   unfold Oper.wp execOp
   simp only [ho,resolve,invoke,builtin,Sem.run_bind,Sem.run_pure,Result.andThen_ok,List.map_toArray,List.map_cons,List.map_nil,hs,hx,hr]
   exact hK _ _ (h v w (by simpa using hown) (World.grownBy.refl _ _) (.inl rfl))
theorem conv_bytes_run (w:World) (src dst e:TypeId) (s:ByteArray) (hs:P.underlying src=some .string) (hd:P.underlying dst=some (.slice e)) (he:P.underlying e=some (.int .u8)) :
 ∃ cap w',(convert src dst (.string s)).run P w=.ok (.slice (some ⟨w.heap.size,0,none⟩) s.size cap) w'/\s.size<=cap/\w.heap.size<w'.heap.size/\w.grownBy w' none /\
  ∀ j (h:j<s.data.size),w'.cell? ⟨w.heap.size,j,none⟩=some (.int .u8 (s.data[j].toNat:Int)):=by
 refine ⟨_,_,run_bytes_of_string w src dst e s hs hd he,grownCap_ge _ _ _ _,by simp,⟨rfl,rfl,rfl,by simp,fun k hk _=>alloc_old_gx w.drew _ hk⟩,fun j h=>?_⟩
 rw [<-bytesRow_at s (grownCap w s.size 0 e) j h]
 exact World.cell?_alloc_mark w.drew _ _ _ j
end
theorem own_cell {w:World} {base:Nat} {e:TypeId} {v:Value} {n:Nat} {xs:List Value} (h:w.ownsRow base e 1 v n xs) (hn:0<n) :
 ∃ g cap,v=.slice (some ⟨g,0,none⟩) n cap/\base<=g/\n<=cap/\g<w.heap.size/\∀ j u,xs[j]?=some u->w.cell? ⟨g,j,none⟩=some u:=by
 have hc:=fun g=>h.cells (g:=g)
 have hlt:=h.lt
 rcases h.2 with ⟨rfl,h0⟩|⟨g,cap,cur,rfl,hb,hg,hnc,_⟩
 ·omega
 ·refine ⟨g,cap,rfl,hb,hnc,(hlt g rfl).2,fun j u hj=>?_⟩
  have:=hc g rfl j u hj
  rwa [Addr.add_lit,Nat.zero_add] at this
def lenOf:Value->Nat|.slice _ n _=>n|_=>0
theorem own_form {w:World} {base:Nat} {e:TypeId} {size:Nat} {v:Value} {n:Nat} {xs:List Value} (h:w.ownsRow base e size v n xs):∃ vo vc,v=.slice vo n vc:=by
 rcases h.2 with ⟨rfl,rfl⟩|⟨g,cap,cur,rfl,_⟩
 ·exact ⟨none,0,rfl⟩
 ·exact ⟨_,cap,rfl⟩
theorem own_keep {w w':World} {base:Nat} {e:TypeId} {size:Nat} {v:Value} {n:Nat} {xs:List Value} (h:w.ownsRow base e size v n xs) (hb:Below w.heap.size w w'):w'.ownsRow base e size v n xs:=by
 refine ⟨h.1,?_⟩
 rcases h.2 with h2|⟨g,cap,cur,hv,hg,hh,r⟩
 ·exact .inl h2
 ·exact .inr ⟨g,cap,cur,hv,hg,by rw [hb.block g (Array.getElem?_eq_some_iff.1 hh).1];exact hh,r⟩
theorem grown_below {w w':World} {row:Option Nat} {B:Nat} (hg:w.grownBy w' row) (hB:B<=w.heap.size) (hr:∀ k,row=some k->B<=k):Below B w w' :=
 (Below.refl B w).grown hg hB hr
def IsRow (k:IntKind) (w:World) (a:Option Addr) (len cap:Nat) (zs:List Int):Prop :=
 (a=none/\len=0/\cap=0/\zs=[]) \/
 ∃ x,a=some x/\len<=cap/\cap<=maxLen/\zs.length=cap/\(∀ i,i<zs.length->w.cell? (x.add i)=some (.int k (zs.getD i 0)))/\∀ n∈zs,(Lit.int k n).wf=true
theorem drewN_below (w:World) (n B:Nat):Below B w (w.drewN n):=⟨rfl,rfl,rfl,Nat.le_refl _,fun _ _=>rfl⟩
end Go.Proofs.YtldhmfkojaekfaaGreatDoor.Gx
namespace Go.Proofs
open Go.Shelf
def Tryz.lays161_ren:Go.Shelf.Ren:=⟨fun|161=>125|231=>143|227=>144|233=>145|235=>146|228=>171|197=>104|151=>172|260=>128|152=>192|137=>86|119=>202|224=>91|225=>90|217=>89|266=>107|n=>n,fun|9=>9|4=>4|3=>3|5=>5|117=>191|116=>190|0=>0|124=>194|105=>126|21=>21|119=>200|46=>111|139=>203|138=>202|n=>n,fun|3=>1|4=>2|n=>n⟩
theorem Tryz.lays161:Go.Proofs.Lays.n161 Tryz.prog Tryz.lays161_ren:={
 mixed:=by kernel_rfl
 f119:=Tryz.func202.trans (congrArg some (by kernel_rfl))
 f137:=Tryz.func86.trans (congrArg some (by kernel_rfl))
 f151:=Tryz.func172.trans (congrArg some (by kernel_rfl))
 f152:=Tryz.func192.trans (congrArg some (by kernel_rfl))
 f161:=Tryz.func125.trans (congrArg some (by kernel_rfl))
 f197:=Tryz.func104.trans (congrArg some (by kernel_rfl))
 f217:=Tryz.func89.trans (congrArg some (by kernel_rfl))
 f224:=Tryz.func91.trans (congrArg some (by kernel_rfl))
 f225:=Tryz.func90.trans (congrArg some (by kernel_rfl))
 f227:=Tryz.func144.trans (congrArg some (by kernel_rfl))
 f228:=Tryz.func171.trans (congrArg some (by kernel_rfl))
 f231:=Tryz.func143.trans (congrArg some (by kernel_rfl))
 f233:=Tryz.func145.trans (congrArg some (by kernel_rfl))
 f235:=Tryz.func146.trans (congrArg some (by kernel_rfl))
 f260:=Tryz.func128.trans (congrArg some (by kernel_rfl))
 f266:=Tryz.func107.trans (congrArg some (by kernel_rfl))
 t0:=Tryz.underlying0
 a0:=Tryz.isAgg0
 z0:=Tryz.sizeOf0
 v0:=Tryz.zeroValue0
 t3:=Tryz.underlying3
 a3:=Tryz.isAgg3
 z3:=Tryz.sizeOf3
 v3:=Tryz.zeroValue3
 t4:=Tryz.underlying4
 a4:=Tryz.isAgg4
 z4:=Tryz.sizeOf4
 v4:=Tryz.zeroValue4
 t5:=Tryz.underlying5
 a5:=Tryz.isAgg5
 z5:=Tryz.sizeOf5
 v5:=Tryz.zeroValue5
 t9:=Tryz.underlying9
 a9:=Tryz.isAgg9
 z9:=Tryz.sizeOf9
 v9:=Tryz.zeroValue9
 t21:=Tryz.underlying21
 a21:=Tryz.isAgg21
 z21:=Tryz.sizeOf21
 v21:=Tryz.zeroValue21
 t46:=Tryz.underlying111
 a46:=Tryz.isAgg111
 z46:=Tryz.sizeOf111
 v46:=Tryz.zeroValue111
 t105:=Tryz.underlying126
 a105:=Tryz.isAgg126
 z105:=Tryz.sizeOf126
 v105:=Tryz.zeroValue126
 t116:=Tryz.underlying190
 a116:=Tryz.isAgg190
 z116:=Tryz.sizeOf190
 t117:=Tryz.underlying191
 a117:=Tryz.isAgg191
 z117:=Tryz.sizeOf191
 v117:=Tryz.zeroValue191
 t119:=Tryz.underlying200
 a119:=Tryz.isAgg200
 z119:=Tryz.sizeOf200
 t124:=Tryz.underlying194
 a124:=Tryz.isAgg194
 z124:=Tryz.sizeOf194
 v124:=Tryz.zeroValue194
 t138:=Tryz.underlying202
 a138:=Tryz.isAgg202
 z138:=Tryz.sizeOf202
 v138:=Tryz.zeroValue202
 t139:=Tryz.underlying203
 a139:=Tryz.isAgg203
 z139:=Tryz.sizeOf203
 v139:=Tryz.zeroValue203
 g3:=by kernel_rfl
 g4:=by kernel_rfl }
open Go.RowKit in
theorem Tryz.strings_TrimLeft_one (s:ByteArray) (c:UInt8) (hc:c.toNat<128) (w:World) :
 Calls Tryz.prog 125 #[.string s,.string ⟨#[c]⟩] w fun e w'=>e=.returned (.string ⟨(Lib.trimLeftB s.data.toList c).toArray⟩)/\w'=w:=Any.strings_TrimLeft_one Tryz.lays161 s c hc w
def Tryz.lays162_ren:Go.Shelf.Ren:=⟨fun|162=>167|232=>183|227=>144|234=>184|236=>185|228=>171|271=>199|151=>172|120=>204|197=>104|152=>192|260=>128|137=>86|119=>202|224=>91|225=>90|217=>89|266=>107|n=>n,fun|9=>9|4=>4|3=>3|5=>5|117=>191|116=>190|0=>0|124=>194|21=>21|105=>126|46=>111|119=>200|139=>203|138=>202|n=>n,fun|3=>1|4=>2|n=>n⟩
theorem Tryz.lays162:Go.Proofs.Lays.n162 Tryz.prog Tryz.lays162_ren:={
 mixed:=by kernel_rfl
 f119:=Tryz.func202.trans (congrArg some (by kernel_rfl))
 f120:=Tryz.func204.trans (congrArg some (by kernel_rfl))
 f137:=Tryz.func86.trans (congrArg some (by kernel_rfl))
 f151:=Tryz.func172.trans (congrArg some (by kernel_rfl))
 f152:=Tryz.func192.trans (congrArg some (by kernel_rfl))
 f162:=Tryz.func167.trans (congrArg some (by kernel_rfl))
 f197:=Tryz.func104.trans (congrArg some (by kernel_rfl))
 f217:=Tryz.func89.trans (congrArg some (by kernel_rfl))
 f224:=Tryz.func91.trans (congrArg some (by kernel_rfl))
 f225:=Tryz.func90.trans (congrArg some (by kernel_rfl))
 f227:=Tryz.func144.trans (congrArg some (by kernel_rfl))
 f228:=Tryz.func171.trans (congrArg some (by kernel_rfl))
 f232:=Tryz.func183.trans (congrArg some (by kernel_rfl))
 f234:=Tryz.func184.trans (congrArg some (by kernel_rfl))
 f236:=Tryz.func185.trans (congrArg some (by kernel_rfl))
 f260:=Tryz.func128.trans (congrArg some (by kernel_rfl))
 f266:=Tryz.func107.trans (congrArg some (by kernel_rfl))
 f271:=Tryz.func199.trans (congrArg some (by kernel_rfl))
 t0:=Tryz.underlying0
 a0:=Tryz.isAgg0
 z0:=Tryz.sizeOf0
 v0:=Tryz.zeroValue0
 t3:=Tryz.underlying3
 a3:=Tryz.isAgg3
 z3:=Tryz.sizeOf3
 v3:=Tryz.zeroValue3
 t4:=Tryz.underlying4
 a4:=Tryz.isAgg4
 z4:=Tryz.sizeOf4
 v4:=Tryz.zeroValue4
 t5:=Tryz.underlying5
 a5:=Tryz.isAgg5
 z5:=Tryz.sizeOf5
 v5:=Tryz.zeroValue5
 t9:=Tryz.underlying9
 a9:=Tryz.isAgg9
 z9:=Tryz.sizeOf9
 v9:=Tryz.zeroValue9
 t21:=Tryz.underlying21
 a21:=Tryz.isAgg21
 z21:=Tryz.sizeOf21
 v21:=Tryz.zeroValue21
 t46:=Tryz.underlying111
 a46:=Tryz.isAgg111
 z46:=Tryz.sizeOf111
 v46:=Tryz.zeroValue111
 t105:=Tryz.underlying126
 a105:=Tryz.isAgg126
 z105:=Tryz.sizeOf126
 v105:=Tryz.zeroValue126
 t116:=Tryz.underlying190
 a116:=Tryz.isAgg190
 z116:=Tryz.sizeOf190
 t117:=Tryz.underlying191
 a117:=Tryz.isAgg191
 z117:=Tryz.sizeOf191
 v117:=Tryz.zeroValue191
 t119:=Tryz.underlying200
 a119:=Tryz.isAgg200
 z119:=Tryz.sizeOf200
 t124:=Tryz.underlying194
 a124:=Tryz.isAgg194
 z124:=Tryz.sizeOf194
 v124:=Tryz.zeroValue194
 t138:=Tryz.underlying202
 a138:=Tryz.isAgg202
 z138:=Tryz.sizeOf202
 v138:=Tryz.zeroValue202
 t139:=Tryz.underlying203
 a139:=Tryz.isAgg203
 z139:=Tryz.sizeOf203
 v139:=Tryz.zeroValue203
 g3:=by kernel_rfl
 g4:=by kernel_rfl }
open Go.RowKit in
theorem Tryz.strings_TrimRight_one (s:ByteArray) (c:UInt8) (hc:c.toNat<128) (w:World) (hs:s.size<=9223372036854775807) :
 Calls Tryz.prog 167 #[.string s,.string ⟨#[c]⟩] w fun e w'=>e=.returned (.string ⟨(Lib.trimRightB s.data.toList c).toArray⟩)/\w'=w:=Any.strings_TrimRight_one Tryz.lays162 s c hc w hs
def Tryz.lays119_ren:Go.Shelf.Ren:=⟨fun|119=>202|n=>n,fun|21=>21|4=>4|n=>n,fun|n=>n⟩
def Tryz.lays128_ren:Go.Shelf.Ren:=⟨fun|128=>173|n=>n,fun|51=>145|3=>3|4=>4|46=>111|5=>5|9=>9|n=>n,fun|n=>n⟩
theorem Tryz.lays128:Go.Proofs.Lays.n128 Tryz.prog Tryz.lays128_ren:={
 mixed:=by kernel_rfl
 f128:=Tryz.func173.trans (congrArg some (by kernel_rfl))
 t3:=Tryz.underlying3
 a3:=Tryz.isAgg3
 z3:=Tryz.sizeOf3
 v3:=Tryz.zeroValue3
 t4:=Tryz.underlying4
 a4:=Tryz.isAgg4
 z4:=Tryz.sizeOf4
 v4:=Tryz.zeroValue4
 t5:=Tryz.underlying5
 a5:=Tryz.isAgg5
 z5:=Tryz.sizeOf5
 v5:=Tryz.zeroValue5
 t9:=Tryz.underlying9
 a9:=Tryz.isAgg9
 z9:=Tryz.sizeOf9
 v9:=Tryz.zeroValue9
 t46:=Tryz.underlying111
 a46:=Tryz.isAgg111
 z46:=Tryz.sizeOf111
 v46:=Tryz.zeroValue111
 t51:=Tryz.underlying145
 a51:=Tryz.isAgg145
 z51:=Tryz.sizeOf145
 v51:=Tryz.zeroValue145 }
theorem Tryz.bits_Len32 (x:Int) (w:World) (h0:0<=x) (h1:x<=4294967295) :
 Calls Tryz.prog 173 #[.int .u32 x] w fun e w'=>e=.returned (.int .i64 (Lib.bitLen x.toNat))/\w'=w:=Any.bits_Len32 Tryz.lays128 x w h0 h1
def Tryz.lays133_ren:Go.Shelf.Ren:=⟨fun|133=>196|128=>173|n=>n,fun|51=>145|3=>3|4=>4|46=>111|5=>5|9=>9|n=>n,fun|n=>n⟩
theorem Tryz.lays133:Go.Proofs.Lays.n133 Tryz.prog Tryz.lays133_ren:={
 mixed:=by kernel_rfl
 f128:=Tryz.func173.trans (congrArg some (by kernel_rfl))
 f133:=Tryz.func196.trans (congrArg some (by kernel_rfl))
 t3:=Tryz.underlying3
 a3:=Tryz.isAgg3
 z3:=Tryz.sizeOf3
 v3:=Tryz.zeroValue3
 t4:=Tryz.underlying4
 a4:=Tryz.isAgg4
 z4:=Tryz.sizeOf4
 v4:=Tryz.zeroValue4
 t5:=Tryz.underlying5
 a5:=Tryz.isAgg5
 z5:=Tryz.sizeOf5
 v5:=Tryz.zeroValue5
 t9:=Tryz.underlying9
 a9:=Tryz.isAgg9
 z9:=Tryz.sizeOf9
 v9:=Tryz.zeroValue9
 t46:=Tryz.underlying111
 a46:=Tryz.isAgg111
 z46:=Tryz.sizeOf111
 v46:=Tryz.zeroValue111
 t51:=Tryz.underlying145
 a51:=Tryz.isAgg145
 z51:=Tryz.sizeOf145
 v51:=Tryz.zeroValue145 }
theorem Tryz.bits_LeadingZeros32 (x:Int) (w:World) (h0:0<=x) (h1:x<=4294967295) :
 Calls Tryz.prog 196 #[.int .u32 x] w fun e w'=>e=.returned (.int .i64 (32 - (Lib.bitLen x.toNat:Int)))/\w'=w:=Any.bits_LeadingZeros32 Tryz.lays133 x w h0 h1
def Tryz.lays137_ren:Go.Shelf.Ren:=⟨fun|137=>86|217=>89|266=>107|n=>n,fun|9=>9|5=>5|3=>3|n=>n,fun|n=>n⟩
theorem Tryz.lays137:Go.Proofs.Lays.n137 Tryz.prog Tryz.lays137_ren:={
 mixed:=by kernel_rfl
 f137:=Tryz.func86.trans (congrArg some (by kernel_rfl))
 f217:=Tryz.func89.trans (congrArg some (by kernel_rfl))
 f266:=Tryz.func107.trans (congrArg some (by kernel_rfl))
 t3:=Tryz.underlying3
 a3:=Tryz.isAgg3
 z3:=Tryz.sizeOf3
 v3:=Tryz.zeroValue3
 t5:=Tryz.underlying5
 a5:=Tryz.isAgg5
 z5:=Tryz.sizeOf5
 v5:=Tryz.zeroValue5
 t9:=Tryz.underlying9
 a9:=Tryz.isAgg9
 z9:=Tryz.sizeOf9
 v9:=Tryz.zeroValue9 }
open Go.RowKit in
theorem Tryz.strings_IndexByte (s:ByteArray) (c:Int) (w:World) :
 Calls Tryz.prog 86 #[.string s,.int .u8 c] w fun e w'=>e=.returned (.int .i64 (Lib.indexByte s.data.toList c.toNat.toUInt8))/\w'=w:=Any.strings_IndexByte Tryz.lays137 s c w
def Tryz.lays103_ren:Go.Shelf.Ren:=⟨fun|103=>119|210=>141|206=>106|n=>n,fun|9=>9|4=>4|24=>158|3=>3|n=>n,fun|n=>n⟩
theorem Tryz.lays103:Go.Proofs.Lays.n103 Tryz.prog Tryz.lays103_ren:={
 mixed:=by kernel_rfl
 f103:=Tryz.func119.trans (congrArg some (by kernel_rfl))
 f206:=Tryz.func106.trans (congrArg some (by kernel_rfl))
 f210:=Tryz.func141.trans (congrArg some (by kernel_rfl))
 t3:=Tryz.underlying3
 a3:=Tryz.isAgg3
 z3:=Tryz.sizeOf3
 v3:=Tryz.zeroValue3
 t4:=Tryz.underlying4
 a4:=Tryz.isAgg4
 z4:=Tryz.sizeOf4
 v4:=Tryz.zeroValue4
 t9:=Tryz.underlying9
 a9:=Tryz.isAgg9
 z9:=Tryz.sizeOf9
 v9:=Tryz.zeroValue9
 t24:=Tryz.underlying158
 a24:=Tryz.isAgg158
 z24:=Tryz.sizeOf158
 v24:=Tryz.zeroValue158 }
open Go.RowKit in
theorem Tryz.strings_CutPrefix (s p:ByteArray) (w:World) :
 Calls Tryz.prog 119 #[.string s,.string p] w fun e w'=>e=.returned (.tuple #[.string ⟨(Lib.trimPrefix s.data.toList p.data.toList).toArray⟩,.bool (Lib.hasPrefix s.data.toList p.data.toList)])/\w'=w:=Any.strings_CutPrefix Tryz.lays103 s p w
def Tryz.laysM171_ren:Go.Shelf.Ren:=⟨fun|171=>137|243=>168|246=>132|283=>153|284=>154|285=>155|286=>156|129=>176|317=>175|318=>177|319=>178|320=>179|337=>193|338=>194|n=>n,fun|3=>3|9=>9|2=>2|4=>4|171=>205|0=>0|53=>22|37=>72|5=>5|173=>208|212=>223|51=>145|20=>20|213=>224|46=>111|232=>243|233=>244|n=>n,fun|17=>3|18=>6|19=>7|n=>n⟩
theorem Tryz.laysM171:Go.Proofs.LaysM.n171 Tryz.prog Tryz.laysM171_ren:={
 mixed:=by kernel_rfl
 f129:=Tryz.func176.trans (congrArg some (by kernel_rfl))
 f171:=Tryz.func137.trans (congrArg some (by kernel_rfl))
 f243:=Tryz.func168.trans (congrArg some (by kernel_rfl))
 f246:=Tryz.func132.trans (congrArg some (by kernel_rfl))
 f283:=Tryz.func153.trans (congrArg some (by kernel_rfl))
 f284:=Tryz.func154.trans (congrArg some (by kernel_rfl))
 f285:=Tryz.func155.trans (congrArg some (by kernel_rfl))
 f286:=Tryz.func156.trans (congrArg some (by kernel_rfl))
 f317:=Tryz.func175.trans (congrArg some (by kernel_rfl))
 f318:=Tryz.func177.trans (congrArg some (by kernel_rfl))
 f319:=Tryz.func178.trans (congrArg some (by kernel_rfl))
 f320:=Tryz.func179.trans (congrArg some (by kernel_rfl))
 f337:=Tryz.func193.trans (congrArg some (by kernel_rfl))
 f338:=Tryz.func194.trans (congrArg some (by kernel_rfl))
 t0:=Tryz.underlying0
 a0:=Tryz.isAgg0
 z0:=Tryz.sizeOf0
 v0:=Tryz.zeroValue0
 t2:=Tryz.underlying2
 a2:=Tryz.isAgg2
 z2:=Tryz.sizeOf2
 v2:=Tryz.zeroValue2
 t3:=Tryz.underlying3
 a3:=Tryz.isAgg3
 z3:=Tryz.sizeOf3
 v3:=Tryz.zeroValue3
 t4:=Tryz.underlying4
 a4:=Tryz.isAgg4
 z4:=Tryz.sizeOf4
 v4:=Tryz.zeroValue4
 t5:=Tryz.underlying5
 a5:=Tryz.isAgg5
 z5:=Tryz.sizeOf5
 v5:=Tryz.zeroValue5
 t9:=Tryz.underlying9
 a9:=Tryz.isAgg9
 z9:=Tryz.sizeOf9
 v9:=Tryz.zeroValue9
 t20:=Tryz.underlying20
 a20:=Tryz.isAgg20
 z20:=Tryz.sizeOf20
 v20:=Tryz.zeroValue20
 t37:=Tryz.underlying72
 a37:=Tryz.isAgg72
 z37:=Tryz.sizeOf72
 v37:=Tryz.zeroValue72
 t46:=Tryz.underlying111
 a46:=Tryz.isAgg111
 z46:=Tryz.sizeOf111
 v46:=Tryz.zeroValue111
 t51:=Tryz.underlying145
 a51:=Tryz.isAgg145
 z51:=Tryz.sizeOf145
 v51:=Tryz.zeroValue145
 t53:=Tryz.underlying22
 a53:=Tryz.isAgg22
 z53:=Tryz.sizeOf22
 v53:=Tryz.zeroValue22
 t171:=Tryz.underlying205
 a171:=Tryz.isAgg205
 z171:=Tryz.sizeOf205
 v171:=Tryz.zeroValue205
 t173:=Tryz.underlying208
 a173:=Tryz.isAgg208
 z173:=Tryz.sizeOf208
 v173:=Tryz.zeroValue208
 t212:=Tryz.underlying223
 a212:=Tryz.isAgg223
 z212:=Tryz.sizeOf223
 v212:=Tryz.zeroValue223
 t213:=Tryz.underlying224
 a213:=Tryz.isAgg224
 z213:=Tryz.sizeOf224
 t232:=Tryz.underlying243
 a232:=Tryz.isAgg243
 z232:=Tryz.sizeOf243
 v232:=Tryz.zeroValue243
 t233:=Tryz.underlying244
 a233:=Tryz.isAgg244
 z233:=Tryz.sizeOf244
 v233:=Tryz.zeroValue244
 g17:=by kernel_rfl
 g18:=by kernel_rfl
 g19:=by kernel_rfl
 i0:=by kernel_rfl
 i2:=by kernel_rfl
 i3:=by kernel_rfl
 i4:=by kernel_rfl
 i5:=by kernel_rfl
 i9:=by kernel_rfl
 i20:=by kernel_rfl
 i37:=by kernel_rfl
 i46:=by kernel_rfl
 i51:=by kernel_rfl
 i53:=by kernel_rfl
 i171:=by kernel_rfl
 i173:=by kernel_rfl
 i212:=by kernel_rfl
 i232:=by kernel_rfl
 i233:=by kernel_rfl
 m17:=by kernel_rfl
 m18:=by kernel_rfl
 m19:=by kernel_rfl }
open Go.RowKit Go.Sort Go.Lib in
theorem Tryz.strconv_Itoa (n:Int) (h0:-9223372036854775808<=n) (h1:n<=9223372036854775807) (w:World) (htab:Lib.TabIs Tryz.prog w "internal/strconv.uint64pow10" .u64 Lib.pow10Tab) :
 Calls Tryz.prog 137 #[.int .i64 n] w fun e w'=>e=.returned (.string ⟨(Lib.itoa n).toArray⟩)/\∃ k os,w'=grow (w.drewN k) os:=Any.strconv_Itoa Tryz.laysM171 n h0 h1 w htab
def Tryz.laysM173_ren:Go.Shelf.Ren:=⟨fun|173=>113|246=>132|283=>153|284=>154|285=>155|286=>156|129=>176|317=>175|318=>177|319=>178|320=>179|337=>193|338=>194|n=>n,fun|2=>2|3=>3|9=>9|4=>4|171=>205|0=>0|53=>22|37=>72|5=>5|173=>208|212=>223|51=>145|20=>20|213=>224|46=>111|232=>243|233=>244|n=>n,fun|17=>3|18=>6|19=>7|n=>n⟩
theorem Tryz.laysM173:Go.Proofs.LaysM.n173 Tryz.prog Tryz.laysM173_ren:={
 mixed:=by kernel_rfl
 f129:=Tryz.func176.trans (congrArg some (by kernel_rfl))
 f173:=Tryz.func113.trans (congrArg some (by kernel_rfl))
 f246:=Tryz.func132.trans (congrArg some (by kernel_rfl))
 f283:=Tryz.func153.trans (congrArg some (by kernel_rfl))
 f284:=Tryz.func154.trans (congrArg some (by kernel_rfl))
 f285:=Tryz.func155.trans (congrArg some (by kernel_rfl))
 f286:=Tryz.func156.trans (congrArg some (by kernel_rfl))
 f317:=Tryz.func175.trans (congrArg some (by kernel_rfl))
 f318:=Tryz.func177.trans (congrArg some (by kernel_rfl))
 f319:=Tryz.func178.trans (congrArg some (by kernel_rfl))
 f320:=Tryz.func179.trans (congrArg some (by kernel_rfl))
 f337:=Tryz.func193.trans (congrArg some (by kernel_rfl))
 f338:=Tryz.func194.trans (congrArg some (by kernel_rfl))
 t0:=Tryz.underlying0
 a0:=Tryz.isAgg0
 z0:=Tryz.sizeOf0
 v0:=Tryz.zeroValue0
 t2:=Tryz.underlying2
 a2:=Tryz.isAgg2
 z2:=Tryz.sizeOf2
 v2:=Tryz.zeroValue2
 t3:=Tryz.underlying3
 a3:=Tryz.isAgg3
 z3:=Tryz.sizeOf3
 v3:=Tryz.zeroValue3
 t4:=Tryz.underlying4
 a4:=Tryz.isAgg4
 z4:=Tryz.sizeOf4
 v4:=Tryz.zeroValue4
 t5:=Tryz.underlying5
 a5:=Tryz.isAgg5
 z5:=Tryz.sizeOf5
 v5:=Tryz.zeroValue5
 t9:=Tryz.underlying9
 a9:=Tryz.isAgg9
 z9:=Tryz.sizeOf9
 v9:=Tryz.zeroValue9
 t20:=Tryz.underlying20
 a20:=Tryz.isAgg20
 z20:=Tryz.sizeOf20
 v20:=Tryz.zeroValue20
 t37:=Tryz.underlying72
 a37:=Tryz.isAgg72
 z37:=Tryz.sizeOf72
 v37:=Tryz.zeroValue72
 t46:=Tryz.underlying111
 a46:=Tryz.isAgg111
 z46:=Tryz.sizeOf111
 v46:=Tryz.zeroValue111
 t51:=Tryz.underlying145
 a51:=Tryz.isAgg145
 z51:=Tryz.sizeOf145
 v51:=Tryz.zeroValue145
 t53:=Tryz.underlying22
 a53:=Tryz.isAgg22
 z53:=Tryz.sizeOf22
 v53:=Tryz.zeroValue22
 t171:=Tryz.underlying205
 a171:=Tryz.isAgg205
 z171:=Tryz.sizeOf205
 v171:=Tryz.zeroValue205
 t173:=Tryz.underlying208
 a173:=Tryz.isAgg208
 z173:=Tryz.sizeOf208
 v173:=Tryz.zeroValue208
 t212:=Tryz.underlying223
 a212:=Tryz.isAgg223
 z212:=Tryz.sizeOf223
 v212:=Tryz.zeroValue223
 t213:=Tryz.underlying224
 a213:=Tryz.isAgg224
 z213:=Tryz.sizeOf224
 t232:=Tryz.underlying243
 a232:=Tryz.isAgg243
 z232:=Tryz.sizeOf243
 v232:=Tryz.zeroValue243
 t233:=Tryz.underlying244
 a233:=Tryz.isAgg244
 z233:=Tryz.sizeOf244
 v233:=Tryz.zeroValue244
 g17:=by kernel_rfl
 g18:=by kernel_rfl
 g19:=by kernel_rfl
 i0:=by kernel_rfl
 i2:=by kernel_rfl
 i3:=by kernel_rfl
 i4:=by kernel_rfl
 i5:=by kernel_rfl
 i9:=by kernel_rfl
 i20:=by kernel_rfl
 i37:=by kernel_rfl
 i46:=by kernel_rfl
 i51:=by kernel_rfl
 i53:=by kernel_rfl
 i171:=by kernel_rfl
 i173:=by kernel_rfl
 i212:=by kernel_rfl
 i232:=by kernel_rfl
 i233:=by kernel_rfl
 m17:=by kernel_rfl
 m18:=by kernel_rfl
 m19:=by kernel_rfl }
open Go.RowKit Go.Sort Go.Lib in
theorem Tryz.strconv_FormatInt_10 (n:Int) (h0:-9223372036854775808<=n) (h1:n<=9223372036854775807) (w:World) (htab:Lib.TabIs Tryz.prog w "internal/strconv.uint64pow10" .u64 Lib.pow10Tab) :
 Calls Tryz.prog 113 #[.int .i64 n,.int .i64 10] w fun e w'=>e=.returned (.string ⟨(Lib.itoa n).toArray⟩)/\∃ k os,w'=grow (w.drewN k) os:=Any.strconv_FormatInt_10 Tryz.laysM173 n h0 h1 w htab
def Tryz.laysC245_ren:Go.Shelf.Ren:=⟨fun|245=>170|279=>188|280=>189|281=>190|282=>191|316=>200|171=>137|205=>201|243=>168|246=>132|283=>153|284=>154|285=>155|286=>156|129=>176|317=>175|318=>177|319=>178|320=>179|337=>193|338=>194|n=>n,fun|9=>9|3=>3|75=>79|167=>230|4=>4|168=>232|210=>240|37=>72|0=>0|127=>106|145=>247|143=>245|2=>2|171=>205|53=>22|5=>5|173=>208|212=>223|51=>145|20=>20|213=>224|46=>111|232=>243|233=>244|80=>81|n=>n,fun|15=>4|16=>5|17=>3|18=>6|19=>7|n=>n⟩
theorem Tryz.laysC245:Go.Proofs.LaysC.n245 Tryz.prog Tryz.laysC245_ren:={
 mixed:=by kernel_rfl
 f129:=Tryz.func176.trans (congrArg some (by kernel_rfl))
 f171:=Tryz.func137.trans (congrArg some (by kernel_rfl))
 f205:=Tryz.func201.trans (congrArg some (by kernel_rfl))
 f243:=Tryz.func168.trans (congrArg some (by kernel_rfl))
 f245:=Tryz.func170.trans (congrArg some (by kernel_rfl))
 f246:=Tryz.func132.trans (congrArg some (by kernel_rfl))
 f279:=Tryz.func188.trans (congrArg some (by kernel_rfl))
 f280:=Tryz.func189.trans (congrArg some (by kernel_rfl))
 f281:=Tryz.func190.trans (congrArg some (by kernel_rfl))
 f282:=Tryz.func191.trans (congrArg some (by kernel_rfl))
 f283:=Tryz.func153.trans (congrArg some (by kernel_rfl))
 f284:=Tryz.func154.trans (congrArg some (by kernel_rfl))
 f285:=Tryz.func155.trans (congrArg some (by kernel_rfl))
 f286:=Tryz.func156.trans (congrArg some (by kernel_rfl))
 f316:=Tryz.func200.trans (congrArg some (by kernel_rfl))
 f317:=Tryz.func175.trans (congrArg some (by kernel_rfl))
 f318:=Tryz.func177.trans (congrArg some (by kernel_rfl))
 f319:=Tryz.func178.trans (congrArg some (by kernel_rfl))
 f320:=Tryz.func179.trans (congrArg some (by kernel_rfl))
 f337:=Tryz.func193.trans (congrArg some (by kernel_rfl))
 f338:=Tryz.func194.trans (congrArg some (by kernel_rfl))
 t0:=Tryz.underlying0
 a0:=Tryz.isAgg0
 z0:=Tryz.sizeOf0
 v0:=Tryz.zeroValue0
 t2:=Tryz.underlying2
 a2:=Tryz.isAgg2
 z2:=Tryz.sizeOf2
 v2:=Tryz.zeroValue2
 t3:=Tryz.underlying3
 a3:=Tryz.isAgg3
 z3:=Tryz.sizeOf3
 v3:=Tryz.zeroValue3
 t4:=Tryz.underlying4
 a4:=Tryz.isAgg4
 z4:=Tryz.sizeOf4
 v4:=Tryz.zeroValue4
 t5:=Tryz.underlying5
 a5:=Tryz.isAgg5
 z5:=Tryz.sizeOf5
 v5:=Tryz.zeroValue5
 t9:=Tryz.underlying9
 a9:=Tryz.isAgg9
 z9:=Tryz.sizeOf9
 v9:=Tryz.zeroValue9
 t20:=Tryz.underlying20
 a20:=Tryz.isAgg20
 z20:=Tryz.sizeOf20
 v20:=Tryz.zeroValue20
 t37:=Tryz.underlying72
 a37:=Tryz.isAgg72
 z37:=Tryz.sizeOf72
 v37:=Tryz.zeroValue72
 t46:=Tryz.underlying111
 a46:=Tryz.isAgg111
 z46:=Tryz.sizeOf111
 v46:=Tryz.zeroValue111
 t51:=Tryz.underlying145
 a51:=Tryz.isAgg145
 z51:=Tryz.sizeOf145
 v51:=Tryz.zeroValue145
 t53:=Tryz.underlying22
 a53:=Tryz.isAgg22
 z53:=Tryz.sizeOf22
 v53:=Tryz.zeroValue22
 t75:=Tryz.underlying79
 a75:=Tryz.isAgg79
 z75:=Tryz.sizeOf79
 v75:=Tryz.zeroValue79
 t127:=Tryz.underlying106
 a127:=Tryz.isAgg106
 z127:=Tryz.sizeOf106
 v127:=Tryz.zeroValue106
 t143:=Tryz.underlying245
 a143:=Tryz.isAgg245
 z143:=Tryz.sizeOf245
 v143:=Tryz.zeroValue245
 t145:=Tryz.underlying247
 a145:=Tryz.isAgg247
 z145:=Tryz.sizeOf247
 v145:=Tryz.zeroValue247
 t167:=Tryz.underlying230
 a167:=Tryz.isAgg230
 z167:=Tryz.sizeOf230
 v167:=Tryz.zeroValue230
 t168:=Tryz.underlying232
 a168:=Tryz.isAgg232
 z168:=Tryz.sizeOf232
 v168:=Tryz.zeroValue232
 t171:=Tryz.underlying205
 a171:=Tryz.isAgg205
 z171:=Tryz.sizeOf205
 v171:=Tryz.zeroValue205
 t173:=Tryz.underlying208
 a173:=Tryz.isAgg208
 z173:=Tryz.sizeOf208
 v173:=Tryz.zeroValue208
 t210:=Tryz.underlying240
 a210:=Tryz.isAgg240
 z210:=Tryz.sizeOf240
 v210:=Tryz.zeroValue240
 t212:=Tryz.underlying223
 a212:=Tryz.isAgg223
 z212:=Tryz.sizeOf223
 v212:=Tryz.zeroValue223
 t213:=Tryz.underlying224
 a213:=Tryz.isAgg224
 z213:=Tryz.sizeOf224
 t232:=Tryz.underlying243
 a232:=Tryz.isAgg243
 z232:=Tryz.sizeOf243
 v232:=Tryz.zeroValue243
 t233:=Tryz.underlying244
 a233:=Tryz.isAgg244
 z233:=Tryz.sizeOf244
 v233:=Tryz.zeroValue244
 g15:=by kernel_rfl
 g16:=by kernel_rfl
 g17:=by kernel_rfl
 g18:=by kernel_rfl
 g19:=by kernel_rfl
 t80:=Tryz.underlying81
 a80:=Tryz.isAgg81
 z80:=Tryz.sizeOf81
 v80:=Tryz.zeroValue81
 i0:=by kernel_rfl
 i2:=by kernel_rfl
 i3:=by kernel_rfl
 i4:=by kernel_rfl
 i5:=by kernel_rfl
 i9:=by kernel_rfl
 i20:=by kernel_rfl
 i37:=by kernel_rfl
 i46:=by kernel_rfl
 i51:=by kernel_rfl
 i53:=by kernel_rfl
 i75:=by kernel_rfl
 i80:=by kernel_rfl
 i127:=by kernel_rfl
 i143:=by kernel_rfl
 i145:=by kernel_rfl
 i167:=by kernel_rfl
 i168:=by kernel_rfl
 i171:=by kernel_rfl
 i173:=by kernel_rfl
 i210:=by kernel_rfl
 i212:=by kernel_rfl
 i232:=by kernel_rfl
 i233:=by kernel_rfl
 m15:=by kernel_rfl
 m16:=by kernel_rfl
 m17:=by kernel_rfl
 m18:=by kernel_rfl
 m19:=by kernel_rfl
 c0:=by kernel_rfl
 c2:=by kernel_rfl
 c3:=by kernel_rfl
 c4:=by kernel_rfl
 c5:=by kernel_rfl
 c9:=by kernel_rfl
 c20:=by kernel_rfl
 c37:=by kernel_rfl
 c46:=by kernel_rfl
 c51:=by kernel_rfl
 c53:=by kernel_rfl
 c75:=by kernel_rfl
 c80:=by kernel_rfl
 c127:=by kernel_rfl
 c143:=by kernel_rfl
 c145:=by kernel_rfl
 c167:=by kernel_rfl
 c168:=by kernel_rfl
 c171:=by kernel_rfl
 c173:=by kernel_rfl
 c210:=by kernel_rfl
 c212:=by kernel_rfl
 c213:=by kernel_rfl
 c232:=by kernel_rfl
 c233:=by kernel_rfl }
open Go.RowKit in
theorem Tryz.strconv_toError_syntax (fn s:ByteArray) (base bits:Int) (ev:Value) (w:World) (hlim:s.size<=281474976710656) (hv:w.cell? ⟨4,0,none⟩=some ev) (hev:ev=.nilIface\/∃ te pe,ev=.iface te pe) :
 Calls Tryz.prog 170 #[.string fn,.string s,.int .i64 base,.int .i64 bits,.iface 230 (.int .i64 2)] w fun e w'=>∃ N,e=.returned (.iface 232 (.pointer (some ⟨N,0,none⟩)))/\w.heap.size<=N/\w'.heap[N]?=some (.cells #[.string fn,.string s,ev] 240 (0,0))/\Below w.heap.size w w':=Any.strconv_toError_syntax Tryz.laysC245 fn s base bits ev w hlim hv hev
def Tryz.lays219_ren:Go.Shelf.Ren:=⟨fun|219=>56|217=>89|225=>90|224=>91|267=>92|266=>107|314=>108|n=>n,fun|9=>9|3=>3|4=>4|5=>5|46=>111|146=>146|51=>145|n=>n,fun|1=>0|n=>n⟩
def Tryz.lays143_ren:Go.Shelf.Ren:=⟨fun|143=>30|219=>56|217=>89|225=>90|224=>91|267=>92|266=>107|314=>108|n=>n,fun|9=>9|3=>3|4=>4|5=>5|46=>111|146=>146|51=>145|n=>n,fun|1=>0|n=>n⟩
theorem Tryz.lays143:Go.Proofs.Lays.n143 Tryz.prog Tryz.lays143_ren:={
 mixed:=by kernel_rfl
 f143:=Tryz.func30.trans (congrArg some (by kernel_rfl))
 f217:=Tryz.func89.trans (congrArg some (by kernel_rfl))
 f219:=Tryz.func56.trans (congrArg some (by kernel_rfl))
 f224:=Tryz.func91.trans (congrArg some (by kernel_rfl))
 f225:=Tryz.func90.trans (congrArg some (by kernel_rfl))
 f266:=Tryz.func107.trans (congrArg some (by kernel_rfl))
 f267:=Tryz.func92.trans (congrArg some (by kernel_rfl))
 f314:=Tryz.func108.trans (congrArg some (by kernel_rfl))
 t3:=Tryz.underlying3
 a3:=Tryz.isAgg3
 z3:=Tryz.sizeOf3
 v3:=Tryz.zeroValue3
 t4:=Tryz.underlying4
 a4:=Tryz.isAgg4
 z4:=Tryz.sizeOf4
 v4:=Tryz.zeroValue4
 t5:=Tryz.underlying5
 a5:=Tryz.isAgg5
 z5:=Tryz.sizeOf5
 v5:=Tryz.zeroValue5
 t9:=Tryz.underlying9
 a9:=Tryz.isAgg9
 z9:=Tryz.sizeOf9
 v9:=Tryz.zeroValue9
 t46:=Tryz.underlying111
 a46:=Tryz.isAgg111
 z46:=Tryz.sizeOf111
 v46:=Tryz.zeroValue111
 t51:=Tryz.underlying145
 a51:=Tryz.isAgg145
 z51:=Tryz.sizeOf145
 v51:=Tryz.zeroValue145
 t146:=Tryz.underlying146
 a146:=Tryz.isAgg146
 z146:=Tryz.sizeOf146
 v146:=Tryz.zeroValue146
 g1:=by kernel_rfl }
open Go.RowKit Go.Lib in
theorem Tryz.strings_Index (s sub:ByteArray) (m:Int) (w:World) (hs:s.size<4294967281) (hm:w.cell? ⟨0,0,none⟩=some (.int .i64 m)) :
 Calls Tryz.prog 30 #[.string s,.string sub] w fun e w'=>e=.returned (.int .i64 (Lib.index s.data.toList sub.data.toList))/\w'=w:=Any.strings_Index Tryz.lays143 s sub m w hs hm
def Tryz.lays144_ren:Go.Shelf.Ren:=⟨fun|144=>20|143=>30|219=>56|217=>89|225=>90|224=>91|267=>92|266=>107|314=>108|n=>n,fun|9=>9|4=>4|3=>3|5=>5|46=>111|146=>146|51=>145|n=>n,fun|1=>0|n=>n⟩
def Tryz.lays145_ren:Go.Shelf.Ren:=⟨fun|145=>87|220=>105|219=>56|217=>89|225=>90|224=>91|267=>92|266=>107|314=>108|n=>n,fun|9=>9|4=>4|59=>129|3=>3|5=>5|46=>111|146=>146|51=>145|n=>n,fun|1=>0|n=>n⟩
theorem Tryz.lays145:Go.Proofs.Lays.n145 Tryz.prog Tryz.lays145_ren:={
 mixed:=by kernel_rfl
 f145:=Tryz.func87.trans (congrArg some (by kernel_rfl))
 f217:=Tryz.func89.trans (congrArg some (by kernel_rfl))
 f219:=Tryz.func56.trans (congrArg some (by kernel_rfl))
 f220:=Tryz.func105.trans (congrArg some (by kernel_rfl))
 f224:=Tryz.func91.trans (congrArg some (by kernel_rfl))
 f225:=Tryz.func90.trans (congrArg some (by kernel_rfl))
 f266:=Tryz.func107.trans (congrArg some (by kernel_rfl))
 f267:=Tryz.func92.trans (congrArg some (by kernel_rfl))
 f314:=Tryz.func108.trans (congrArg some (by kernel_rfl))
 t3:=Tryz.underlying3
 a3:=Tryz.isAgg3
 z3:=Tryz.sizeOf3
 v3:=Tryz.zeroValue3
 t4:=Tryz.underlying4
 a4:=Tryz.isAgg4
 z4:=Tryz.sizeOf4
 v4:=Tryz.zeroValue4
 t5:=Tryz.underlying5
 a5:=Tryz.isAgg5
 z5:=Tryz.sizeOf5
 v5:=Tryz.zeroValue5
 t9:=Tryz.underlying9
 a9:=Tryz.isAgg9
 z9:=Tryz.sizeOf9
 v9:=Tryz.zeroValue9
 t46:=Tryz.underlying111
 a46:=Tryz.isAgg111
 z46:=Tryz.sizeOf111
 v46:=Tryz.zeroValue111
 t51:=Tryz.underlying145
 a51:=Tryz.isAgg145
 z51:=Tryz.sizeOf145
 v51:=Tryz.zeroValue145
 t59:=Tryz.underlying129
 a59:=Tryz.isAgg129
 z59:=Tryz.sizeOf129
 v59:=Tryz.zeroValue129
 t146:=Tryz.underlying146
 a146:=Tryz.isAgg146
 z146:=Tryz.sizeOf146
 v146:=Tryz.zeroValue146
 g1:=by kernel_rfl }
open Go.RowKit Go.Lib in
theorem Tryz.strings_Cut (s sep:ByteArray) (m:Int) (w:World) (hs:s.size<4294967281) (hm:w.cell? ⟨0,0,none⟩=some (.int .i64 m)) :
 Calls Tryz.prog 87 #[.string s,.string sep] w fun e w'=>e=.returned (.tuple #[.string ⟨(Lib.cut s.data.toList sep.data.toList).1.toArray⟩,.string ⟨(Lib.cut s.data.toList sep.data.toList).2.1.toArray⟩,.bool (Lib.cut s.data.toList sep.data.toList).2.2])/\∃ n,w'=w.drewN n:=Any.strings_Cut Tryz.lays145 s sep m w hs hm
def Tryz.laysM143_ren:Go.Shelf.Ren:=⟨fun|143=>30|219=>56|217=>89|225=>90|224=>91|267=>92|266=>107|314=>108|n=>n,fun|9=>9|3=>3|4=>4|5=>5|46=>111|146=>146|51=>145|n=>n,fun|1=>0|n=>n⟩
theorem Tryz.laysM143:Go.Proofs.LaysM.n143 Tryz.prog Tryz.laysM143_ren:={
 mixed:=by kernel_rfl
 f143:=Tryz.func30.trans (congrArg some (by kernel_rfl))
 f217:=Tryz.func89.trans (congrArg some (by kernel_rfl))
 f219:=Tryz.func56.trans (congrArg some (by kernel_rfl))
 f224:=Tryz.func91.trans (congrArg some (by kernel_rfl))
 f225:=Tryz.func90.trans (congrArg some (by kernel_rfl))
 f266:=Tryz.func107.trans (congrArg some (by kernel_rfl))
 f267:=Tryz.func92.trans (congrArg some (by kernel_rfl))
 f314:=Tryz.func108.trans (congrArg some (by kernel_rfl))
 t3:=Tryz.underlying3
 a3:=Tryz.isAgg3
 z3:=Tryz.sizeOf3
 v3:=Tryz.zeroValue3
 t4:=Tryz.underlying4
 a4:=Tryz.isAgg4
 z4:=Tryz.sizeOf4
 v4:=Tryz.zeroValue4
 t5:=Tryz.underlying5
 a5:=Tryz.isAgg5
 z5:=Tryz.sizeOf5
 v5:=Tryz.zeroValue5
 t9:=Tryz.underlying9
 a9:=Tryz.isAgg9
 z9:=Tryz.sizeOf9
 v9:=Tryz.zeroValue9
 t46:=Tryz.underlying111
 a46:=Tryz.isAgg111
 z46:=Tryz.sizeOf111
 v46:=Tryz.zeroValue111
 t51:=Tryz.underlying145
 a51:=Tryz.isAgg145
 z51:=Tryz.sizeOf145
 v51:=Tryz.zeroValue145
 t146:=Tryz.underlying146
 a146:=Tryz.isAgg146
 z146:=Tryz.sizeOf146
 v146:=Tryz.zeroValue146
 g1:=by kernel_rfl
 i3:=by kernel_rfl
 i4:=by kernel_rfl
 i5:=by kernel_rfl
 i9:=by kernel_rfl
 i46:=by kernel_rfl
 i51:=by kernel_rfl
 i146:=by kernel_rfl
 m1:=by kernel_rfl
 s1_3:=fun w h=>Go.Proofs.cell_of_shapedOpen_int (zero:=#[.int .i64 0]) (t:=3) h (of_decide_eq_true (by kernel_rfl)) (by kernel_rfl) rfl (by kernel_rfl) (by kernel_rfl) Tryz.underlying3 }
def Tryz.lays99_ren:Go.Shelf.Ren:=⟨fun|99=>88|206=>106|n=>n,fun|9=>9|4=>4|3=>3|n=>n,fun|n=>n⟩
theorem Tryz.lays99:Go.Proofs.Lays.n99 Tryz.prog Tryz.lays99_ren:={
 mixed:=by kernel_rfl
 f99:=Tryz.func88.trans (congrArg some (by kernel_rfl))
 f206:=Tryz.func106.trans (congrArg some (by kernel_rfl))
 t3:=Tryz.underlying3
 a3:=Tryz.isAgg3
 z3:=Tryz.sizeOf3
 v3:=Tryz.zeroValue3
 t4:=Tryz.underlying4
 a4:=Tryz.isAgg4
 z4:=Tryz.sizeOf4
 v4:=Tryz.zeroValue4
 t9:=Tryz.underlying9
 a9:=Tryz.isAgg9
 z9:=Tryz.sizeOf9
 v9:=Tryz.zeroValue9 }
open Go.RowKit Go.Lib in
theorem Tryz.strings_HasPrefix (s p:ByteArray) (w:World) :
 Calls Tryz.prog 88 #[.string s,.string p] w fun e w'=>e=.returned (.bool (Lib.hasPrefix s.data.toList p.data.toList))/\w'=w:=Any.strings_HasPrefix Tryz.lays99 s p w
def Tryz.lays100_ren:Go.Shelf.Ren:=⟨fun|100=>21|207=>31|n=>n,fun|9=>9|4=>4|3=>3|n=>n,fun|n=>n⟩
def Tryz.lays197_ren:Go.Shelf.Ren:=⟨fun|197=>104|260=>128|n=>n,fun|9=>9|21=>21|3=>3|4=>4|5=>5|105=>126|119=>200|0=>0|46=>111|139=>203|138=>202|n=>n,fun|3=>1|4=>2|n=>n⟩
theorem Tryz.lays197:Go.Proofs.Lays.n197 Tryz.prog Tryz.lays197_ren:={
 mixed:=by kernel_rfl
 f197:=Tryz.func104.trans (congrArg some (by kernel_rfl))
 f260:=Tryz.func128.trans (congrArg some (by kernel_rfl))
 t0:=Tryz.underlying0
 a0:=Tryz.isAgg0
 z0:=Tryz.sizeOf0
 v0:=Tryz.zeroValue0
 t3:=Tryz.underlying3
 a3:=Tryz.isAgg3
 z3:=Tryz.sizeOf3
 v3:=Tryz.zeroValue3
 t4:=Tryz.underlying4
 a4:=Tryz.isAgg4
 z4:=Tryz.sizeOf4
 v4:=Tryz.zeroValue4
 t5:=Tryz.underlying5
 a5:=Tryz.isAgg5
 z5:=Tryz.sizeOf5
 v5:=Tryz.zeroValue5
 t9:=Tryz.underlying9
 a9:=Tryz.isAgg9
 z9:=Tryz.sizeOf9
 v9:=Tryz.zeroValue9
 t21:=Tryz.underlying21
 a21:=Tryz.isAgg21
 z21:=Tryz.sizeOf21
 v21:=Tryz.zeroValue21
 t46:=Tryz.underlying111
 a46:=Tryz.isAgg111
 z46:=Tryz.sizeOf111
 v46:=Tryz.zeroValue111
 t105:=Tryz.underlying126
 a105:=Tryz.isAgg126
 z105:=Tryz.sizeOf126
 v105:=Tryz.zeroValue126
 t119:=Tryz.underlying200
 a119:=Tryz.isAgg200
 z119:=Tryz.sizeOf200
 t138:=Tryz.underlying202
 a138:=Tryz.isAgg202
 z138:=Tryz.sizeOf202
 v138:=Tryz.zeroValue202
 t139:=Tryz.underlying203
 a139:=Tryz.isAgg203
 z139:=Tryz.sizeOf203
 v139:=Tryz.zeroValue203
 g3:=by kernel_rfl
 g4:=by kernel_rfl }
def Tryz.lays152_ren:Go.Shelf.Ren:=⟨fun|152=>192|137=>86|119=>202|224=>91|225=>90|217=>89|266=>107|n=>n,fun|9=>9|21=>21|3=>3|4=>4|5=>5|0=>0|46=>111|n=>n,fun|n=>n⟩
def Tryz.lays227_ren:Go.Shelf.Ren:=⟨fun|227=>144|n=>n,fun|9=>9|116=>190|4=>4|0=>0|3=>3|5=>5|n=>n,fun|n=>n⟩
def Tryz.lays228_ren:Go.Shelf.Ren:=⟨fun|228=>171|n=>n,fun|124=>194|5=>5|4=>4|0=>0|116=>190|n=>n,fun|n=>n⟩
def Tryz.lays264_ren:Go.Shelf.Ren:=⟨fun|264=>122|n=>n,fun|53=>22|46=>111|n=>n,fun|n=>n⟩
theorem Tryz.lays264:Go.Proofs.Lays.n264 Tryz.prog Tryz.lays264_ren:={
 mixed:=by kernel_rfl
 f264:=Tryz.func122.trans (congrArg some (by kernel_rfl))
 t46:=Tryz.underlying111
 a46:=Tryz.isAgg111
 z46:=Tryz.sizeOf111
 v46:=Tryz.zeroValue111
 t53:=Tryz.underlying22
 a53:=Tryz.isAgg22
 z53:=Tryz.sizeOf22
 v53:=Tryz.zeroValue22 }
open Go.RowKit Go.Lib in
theorem Tryz.bits_Mul64 (x y:Nat) (hx:x<18446744073709551616) (hy:y<18446744073709551616) (w:World) :
 Calls Tryz.prog 122 #[.int .u64 x,.int .u64 y] w fun e w'=>e=.returned (.tuple #[.int .u64 ((x * y / 18446744073709551616:Nat):Int),.int .u64 ((x * y % 18446744073709551616:Nat):Int)])/\w'=w:=Any.bits_Mul64 Tryz.lays264 x y hx hy w
def Tryz.lays105_ren:Go.Shelf.Ren:=⟨fun|105=>93|212=>109|99=>88|165=>110|166=>61|170=>111|169=>34|263=>129|264=>122|206=>106|240=>63|241=>130|276=>97|277=>151|n=>n,fun|9=>9|3=>3|4=>4|20=>20|0=>0|46=>111|109=>148|5=>5|72=>74|76=>103|51=>145|146=>146|53=>22|148=>163|70=>71|37=>72|75=>79|127=>106|164=>135|80=>81|n=>n,fun|n=>n⟩
theorem Tryz.lays105:Go.Proofs.Lays.n105 Tryz.prog Tryz.lays105_ren:={
 mixed:=by kernel_rfl
 f99:=Tryz.func88.trans (congrArg some (by kernel_rfl))
 f105:=Tryz.func93.trans (congrArg some (by kernel_rfl))
 f165:=Tryz.func110.trans (congrArg some (by kernel_rfl))
 f166:=Tryz.func61.trans (congrArg some (by kernel_rfl))
 f169:=Tryz.func34.trans (congrArg some (by kernel_rfl))
 f170:=Tryz.func111.trans (congrArg some (by kernel_rfl))
 f206:=Tryz.func106.trans (congrArg some (by kernel_rfl))
 f212:=Tryz.func109.trans (congrArg some (by kernel_rfl))
 f240:=Tryz.func63.trans (congrArg some (by kernel_rfl))
 f241:=Tryz.func130.trans (congrArg some (by kernel_rfl))
 f263:=Tryz.func129.trans (congrArg some (by kernel_rfl))
 f264:=Tryz.func122.trans (congrArg some (by kernel_rfl))
 f276:=Tryz.func97.trans (congrArg some (by kernel_rfl))
 f277:=Tryz.func151.trans (congrArg some (by kernel_rfl))
 t0:=Tryz.underlying0
 a0:=Tryz.isAgg0
 z0:=Tryz.sizeOf0
 v0:=Tryz.zeroValue0
 t3:=Tryz.underlying3
 a3:=Tryz.isAgg3
 z3:=Tryz.sizeOf3
 v3:=Tryz.zeroValue3
 t4:=Tryz.underlying4
 a4:=Tryz.isAgg4
 z4:=Tryz.sizeOf4
 v4:=Tryz.zeroValue4
 t5:=Tryz.underlying5
 a5:=Tryz.isAgg5
 z5:=Tryz.sizeOf5
 v5:=Tryz.zeroValue5
 t9:=Tryz.underlying9
 a9:=Tryz.isAgg9
 z9:=Tryz.sizeOf9
 v9:=Tryz.zeroValue9
 t20:=Tryz.underlying20
 a20:=Tryz.isAgg20
 z20:=Tryz.sizeOf20
 v20:=Tryz.zeroValue20
 t37:=Tryz.underlying72
 a37:=Tryz.isAgg72
 z37:=Tryz.sizeOf72
 v37:=Tryz.zeroValue72
 t46:=Tryz.underlying111
 a46:=Tryz.isAgg111
 z46:=Tryz.sizeOf111
 v46:=Tryz.zeroValue111
 t51:=Tryz.underlying145
 a51:=Tryz.isAgg145
 z51:=Tryz.sizeOf145
 v51:=Tryz.zeroValue145
 t53:=Tryz.underlying22
 a53:=Tryz.isAgg22
 z53:=Tryz.sizeOf22
 v53:=Tryz.zeroValue22
 t70:=Tryz.underlying71
 a70:=Tryz.isAgg71
 z70:=Tryz.sizeOf71
 v70:=Tryz.zeroValue71
 t72:=Tryz.underlying74
 a72:=Tryz.isAgg74
 z72:=Tryz.sizeOf74
 v72:=Tryz.zeroValue74
 t75:=Tryz.underlying79
 a75:=Tryz.isAgg79
 z75:=Tryz.sizeOf79
 v75:=Tryz.zeroValue79
 t76:=Tryz.underlying103
 a76:=Tryz.isAgg103
 z76:=Tryz.sizeOf103
 v76:=Tryz.zeroValue103
 t109:=Tryz.underlying148
 a109:=Tryz.isAgg148
 z109:=Tryz.sizeOf148
 v109:=Tryz.zeroValue148
 t127:=Tryz.underlying106
 a127:=Tryz.isAgg106
 z127:=Tryz.sizeOf106
 v127:=Tryz.zeroValue106
 t146:=Tryz.underlying146
 a146:=Tryz.isAgg146
 z146:=Tryz.sizeOf146
 v146:=Tryz.zeroValue146
 t148:=Tryz.underlying163
 a148:=Tryz.isAgg163
 z148:=Tryz.sizeOf163
 v148:=Tryz.zeroValue163
 t164:=Tryz.underlying135
 a164:=Tryz.isAgg135
 z164:=Tryz.sizeOf135
 v164:=Tryz.zeroValue135 }
theorem Tryz.Builder_Extra_105:Builder.Extra Tryz.prog Tryz.lays105_ren:={
 sizeBuilder:=by kernel_rfl
 liesBuilder:=by kernel_rfl
 t5:=Tryz.underlying5
 a5:=Tryz.isAgg5
 z5:=Tryz.sizeOf5
 v5:=Tryz.zeroValue5
 infoByte:=by kernel_rfl
 cellsByte:=by kernel_rfl
 sizeByte:=by kernel_rfl
 neB5:=by decide }
open Go.RowKit Go.Lib in
theorem Tryz.strings_Repeat (s:ByteArray) (c:Nat) (w:World) (hc:c<=9223372036854775807) (hlen:s.size * c<=140737488355328) :
 Calls Tryz.prog 93 #[.string s,.int .i64 c] w fun e w'=>e=.returned (.string ⟨(Lib.repeatL s.data.toList c).toArray⟩)/\Below w.heap.size w w':=Any.strings_Repeat Tryz.lays105 Tryz.Builder_Extra_105 s c w hc hlen
def Tryz.lays260_ren:Go.Shelf.Ren:=⟨fun|260=>128|n=>n,fun|9=>9|21=>21|3=>3|4=>4|5=>5|119=>200|0=>0|46=>111|139=>203|138=>202|n=>n,fun|3=>1|4=>2|n=>n⟩
theorem Tryz.lays260:Go.Proofs.Lays.n260 Tryz.prog Tryz.lays260_ren:={
 mixed:=by kernel_rfl
 f260:=Tryz.func128.trans (congrArg some (by kernel_rfl))
 t0:=Tryz.underlying0
 a0:=Tryz.isAgg0
 z0:=Tryz.sizeOf0
 v0:=Tryz.zeroValue0
 t3:=Tryz.underlying3
 a3:=Tryz.isAgg3
 z3:=Tryz.sizeOf3
 v3:=Tryz.zeroValue3
 t4:=Tryz.underlying4
 a4:=Tryz.isAgg4
 z4:=Tryz.sizeOf4
 v4:=Tryz.zeroValue4
 t5:=Tryz.underlying5
 a5:=Tryz.isAgg5
 z5:=Tryz.sizeOf5
 v5:=Tryz.zeroValue5
 t9:=Tryz.underlying9
 a9:=Tryz.isAgg9
 z9:=Tryz.sizeOf9
 v9:=Tryz.zeroValue9
 t21:=Tryz.underlying21
 a21:=Tryz.isAgg21
 z21:=Tryz.sizeOf21
 v21:=Tryz.zeroValue21
 t46:=Tryz.underlying111
 a46:=Tryz.isAgg111
 z46:=Tryz.sizeOf111
 v46:=Tryz.zeroValue111
 t119:=Tryz.underlying200
 a119:=Tryz.isAgg200
 z119:=Tryz.sizeOf200
 t138:=Tryz.underlying202
 a138:=Tryz.isAgg202
 z138:=Tryz.sizeOf202
 v138:=Tryz.zeroValue202
 t139:=Tryz.underlying203
 a139:=Tryz.isAgg203
 z139:=Tryz.sizeOf203
 v139:=Tryz.zeroValue203
 g3:=by kernel_rfl
 g4:=by kernel_rfl }
open Go.RowKit Go.Lib in
theorem Tryz.utf8_DecodeRuneInString (s:ByteArray) (w:World) (hT:Lib.Utf8Tabs 1 2 w) :
 Calls Tryz.prog 104 #[.string s] w fun e w'=>e=.returned (.tuple #[.int .i32 (Lib.decodeGo s).1,.int .i64 (Lib.decodeGo s).2])/\Below w.heap.size w w':=Any.utf8_DecodeRuneInString Tryz.lays197 s w hT
end Go.Proofs
namespace Go.Proofs.YtldhmfkojaekfaaGreatDoor
open Go.RowKit Gx
def isWordByte (c:Int):Bool:=(decide (97<=c) && decide (c<=122)) || (decide (65<=c) && decide (c<=90)) || (decide (48<=c) && decide (c<=57)) || c==95 || c==45 || c==43 || c==46
def isMarkByte (c:Int):Bool:=c==123 || c==125 || c==91 || c==93 || c==58 || c==61 || c==44
def classOf (c:Int):Int :=
 if c=32\/c=9\/c=13 then 1 else if c=10 then 2 else if c=35\/c=47 then 3 else if isWordByte c=true then 4 else if c=34 then 5 else if isMarkByte c=true then 6 else 7
def IdxPost (b:Bool) (w:World) (e:Ending) (w':World):Prop:=∃ k:Int,e=.returned (.int .i64 k)/\decide (0<=k)=b/\w=w'
theorem indexByte_cons (a:UInt8) (l:List UInt8) (c:UInt8):Lib.indexByte (a::l) c=if a==c then 0 else if Lib.indexByte l c==-1 then -1 else Lib.indexByte l c+1:=rfl
theorem indexByte_low (l:List UInt8) (c:UInt8):-1<=Lib.indexByte l c:=by
 induction l with
 | nil=>simp [Lib.indexByte]
 | cons a l ih =>
   rw [indexByte_cons]
   split
   ·omega
   ·split<;>omega
theorem indexByte_mem (l:List UInt8) (c:UInt8):decide (0<=Lib.indexByte l c)=l.contains c:=by
 induction l with
 | nil=>simp [Lib.indexByte]
 | cons a l ih =>
   have hlow:=indexByte_low l c
   by_cases h:a=c
   ·subst h;simp [Lib.indexByte]
   ·have h':(c==a)=false:=by simpa using fun e=>h e.symm
    have h2:(a==c)=false:=by simpa using h
    rw [List.contains_cons,h',Bool.false_or,<-ih]
    rw [indexByte_cons,h2]
    simp only [Bool.false_eq_true,↓reduceIte,beq_iff_eq]
    by_cases h3:Lib.indexByte l c=-1
    ·rw [h3];rfl
    ·rw [if_neg h3]
     have:0<=Lib.indexByte l c:=by omega
     simp;omega
theorem byte_eq (c:Int) (n:Nat) (h0:0<=c) (h1:c<=255) (hn:n<256):(c.toNat.toUInt8==n.toUInt8)=(c==(n:Int)):=by
 rw [Bool.eq_iff_iff,beq_iff_eq,beq_iff_eq]
 constructor
 ·intro h
  have:=congrArg UInt8.toNat h
  simp at this
  omega
 ·intro h
  subst h
  simp
theorem idx_word (c:Int) (w:World) (h0:0<=c) (h1:c<=255):Calls Tryz.prog 86 #[.string { data:=#[95,45,43,46] },.int .u8 c] w (IdxPost (c==95 || c==45 || c==43 || c==46) w):=by
 refine (Tryz.strings_IndexByte _ c w).mono ?_
 rintro e w' ⟨rfl,rfl⟩
 refine ⟨_,rfl,?_,rfl⟩
 rw [indexByte_mem]
 show ([95,45,43,46]:List UInt8).contains c.toNat.toUInt8=_
 have e1:=byte_eq c 95 h0 h1 (by decide)
 have e2:=byte_eq c 45 h0 h1 (by decide)
 have e3:=byte_eq c 43 h0 h1 (by decide)
 have e4:=byte_eq c 46 h0 h1 (by decide)
 have f1:(95:Nat).toUInt8=95:=rfl
 have f2:(45:Nat).toUInt8=45:=rfl
 have f3:(43:Nat).toUInt8=43:=rfl
 have f4:(46:Nat).toUInt8=46:=rfl
 rw [f1] at e1;rw [f2] at e2;rw [f3] at e3;rw [f4] at e4
 simp only [List.contains_cons,e1,e2,e3,e4,List.contains_nil,Bool.or_false]
 simp [Bool.or_assoc]
theorem idx_mark (c:Int) (w:World) (h0:0<=c) (h1:c<=255):Calls Tryz.prog 86 #[.string { data:=#[123,125,91,93,58,61,44] },.int .u8 c] w (IdxPost (isMarkByte c) w):=by
 refine (Tryz.strings_IndexByte _ c w).mono ?_
 rintro e w' ⟨rfl,rfl⟩
 refine ⟨_,rfl,?_,rfl⟩
 rw [indexByte_mem]
 show ([123,125,91,93,58,61,44]:List UInt8).contains c.toNat.toUInt8=_
 have e1:=byte_eq c 123 h0 h1 (by decide)
 have e2:=byte_eq c 125 h0 h1 (by decide)
 have e3:=byte_eq c 91 h0 h1 (by decide)
 have e4:=byte_eq c 93 h0 h1 (by decide)
 have e5:=byte_eq c 58 h0 h1 (by decide)
 have e6:=byte_eq c 61 h0 h1 (by decide)
 have e7:=byte_eq c 44 h0 h1 (by decide)
 rw [show (123:Nat).toUInt8=123 from rfl] at e1
 rw [show (125:Nat).toUInt8=125 from rfl] at e2
 rw [show (91:Nat).toUInt8=91 from rfl] at e3
 rw [show (93:Nat).toUInt8=93 from rfl] at e4
 rw [show (58:Nat).toUInt8=58 from rfl] at e5
 rw [show (61:Nat).toUInt8=61 from rfl] at e6
 rw [show (44:Nat).toUInt8=44 from rfl] at e7
 simp only [List.contains_cons,e1,e2,e3,e4,e5,e6,e7,List.contains_nil,Bool.or_false]
 simp [isMarkByte,Bool.or_assoc]
def ClassPost (c:Int) (w:World) (e:Ending) (w':World):Prop:=e=.returned (.int .i64 (classOf c))/\w=w'
set_option maxHeartbeats 4000000 in
theorem class_lit (c:Int) (w:World) (h:c=32\/c=9\/c=13\/c=10\/c=35\/c=47) :
 Calls Tryz.prog 52 #[.int .u8 c] w (ClassPost c w):=by
 rcases h with rfl|rfl|rfl|rfl|rfl|rfl
 all_goals
  go_enter Tryz.func52,Tryz.ntmps52
  go_wp2
  go_ret
  exact ⟨rfl,rfl⟩
set_option maxHeartbeats 4000000 in
theorem class_range (c:Int) (w:World) (h:(97<=c/\c<=122)\/(65<=c/\c<=90)\/(48<=c/\c<=57)) :
 Calls Tryz.prog 52 #[.int .u8 c] w (ClassPost c w):=by
 have hw:isWordByte c=true:=by unfold isWordByte;simp;omega
 have hc:Hid (classOf c=4):=by show _=_;unfold classOf;rw [if_neg (by omega),if_neg (by omega),if_neg (by omega),if_pos hw]
 clear hw
 have n1:(c==32)=false:=by rw [beq_eq_false_iff_ne];omega
 have n2:(c==9)=false:=by rw [beq_eq_false_iff_ne];omega
 have n3:(c==13)=false:=by rw [beq_eq_false_iff_ne];omega
 have n4:(c==10)=false:=by rw [beq_eq_false_iff_ne];omega
 have n5:(c==35)=false:=by rw [beq_eq_false_iff_ne];omega
 have n6:(c==47)=false:=by rw [beq_eq_false_iff_ne];omega
 rcases h with ⟨h1,h2⟩|⟨h1,h2⟩|⟨h1,h2⟩
 ·have r1:decide (97<=c)=true:=decide_eq_true h1
  have r2:decide (c<=122)=true:=decide_eq_true h2
  go_enter Tryz.func52,Tryz.ntmps52
  go_wp2
  go_ret
  exact ⟨by rw [hc.out];rfl,rfl⟩
 ·have r1:decide (97<=c)=false:=decide_eq_false (by omega)
  have r3:decide (65<=c)=true:=decide_eq_true h1
  have r4:decide (c<=90)=true:=decide_eq_true h2
  go_enter Tryz.func52,Tryz.ntmps52
  go_wp2
  go_ret
  exact ⟨by rw [hc.out];rfl,rfl⟩
 ·have r1:decide (97<=c)=false:=decide_eq_false (by omega)
  have r3:decide (65<=c)=false:=decide_eq_false (by omega)
  have r5:decide (48<=c)=true:=decide_eq_true h1
  have r6:decide (c<=57)=true:=decide_eq_true h2
  go_enter Tryz.func52,Tryz.ntmps52
  go_wp2
  go_ret
  exact ⟨by rw [hc.out];rfl,rfl⟩
set_option maxHeartbeats 4000000 in
theorem class_wlit (c:Int) (w:World) (h:c=95\/c=45\/c=43\/c=46) :
 Calls Tryz.prog 52 #[.int .u8 c] w (ClassPost c w):=by
 rcases h with rfl|rfl|rfl|rfl
 all_goals
  go_enter Tryz.func52,Tryz.ntmps52
  go_wp2_with fail
  refine (idx_word _ w (by decide) (by decide)).mono ?_
  rintro e w1 ⟨k,rfl,hk0,rfl⟩
  have hk:decide (0<=k)=true:=hk0
  clear hk0
  go_wp2_with fail
  go_ret
  exact ⟨rfl,rfl⟩
set_option maxHeartbeats 4000000 in
theorem class_quote (w:World):Calls Tryz.prog 52 #[.int .u8 34] w (ClassPost 34 w):=by
 go_enter Tryz.func52,Tryz.ntmps52
 go_wp2_with fail
 refine (idx_word _ w (by decide) (by decide)).mono ?_
 rintro e w1 ⟨k,rfl,hk0,rfl⟩
 have hk:decide (0<=k)=false:=hk0
 clear hk0
 go_wp2_with fail
 go_ret
 exact ⟨rfl,rfl⟩
set_option maxHeartbeats 4000000 in
theorem class_mark (c:Int) (w:World) (h:c=123\/c=125\/c=91\/c=93\/c=58\/c=61\/c=44) :
 Calls Tryz.prog 52 #[.int .u8 c] w (ClassPost c w):=by
 rcases h with rfl|rfl|rfl|rfl|rfl|rfl|rfl
 all_goals
  go_enter Tryz.func52,Tryz.ntmps52
  go_wp2_with fail
  refine (idx_word _ w (by decide) (by decide)).mono ?_
  rintro e w1 ⟨k,rfl,hk0,rfl⟩
  have hk:decide (0<=k)=false:=hk0
  clear hk0
  go_wp2_with fail
  refine (idx_mark _ w (by decide) (by decide)).mono ?_
  rintro e w1 ⟨k2,rfl,hk0,rfl⟩
  have hk2:decide (0<=k2)=true:=hk0
  clear hk0
  go_wp2_with fail
  go_ret
  exact ⟨rfl,rfl⟩
set_option maxHeartbeats 4000000 in
theorem class_bad (c:Int) (w:World) (h0:0<=c) (h1:c<=255) (n1:(c==32)=false) (n2:(c==9)=false) (n3:(c==13)=false) (n4:(c==10)=false) (n5:(c==35)=false) (n6:(c==47)=false) (n7:(c==34)=false)
 (hw:isWordByte c=false) (hm:isMarkByte c=false) :
 Calls Tryz.prog 52 #[.int .u8 c] w (ClassPost c w):=by
 have hcl:Hid (classOf c=7):=by
  show _=_
  unfold classOf
  simp at n1 n2 n3 n4 n5 n6 n7
  rw [if_neg (by omega),if_neg (by omega),if_neg (by omega),if_neg (by rw [hw];decide),if_neg (by omega),if_neg (by rw [hm];decide)]
 have hb:(c==95 || c==45 || c==43 || c==46)=false:=by
  unfold isWordByte at hw
  cases h:(c==95 || c==45 || c==43 || c==46)
  ·rfl
  ·exfalso
   simp only [Bool.or_eq_true] at h
   simp only [Bool.or_eq_false_iff] at hw
   rcases h with ((h|h)|h)|h<;>simp_all
 have hr:(decide (97<=c) && decide (c<=122))=false/\(decide (65<=c) && decide (c<=90))=false/\(decide (48<=c) && decide (c<=57))=false:=by
  unfold isWordByte at hw
  simp only [Bool.or_eq_false_iff] at hw
  exact ⟨hw.1.1.1.1.1.1,hw.1.1.1.1.1.2,hw.1.1.1.1.2⟩
 have HI:=Lib.hid (idx_word c w h0 h1)
 have HM:=Lib.hid (idx_mark c w h0 h1)
 rw [hb] at HI
 rw [hm] at HM
 obtain ⟨r1,r2,r3⟩:=hr
 clear hb hw hm
 rw [Bool.and_eq_false_iff] at r1 r2 r3
 rcases r1 with r1|r1<;>rcases r2 with r2|r2<;>rcases r3 with r3|r3
 all_goals
  try simp only [decide_eq_false_iff_not] at r1 r2 r3
  by_cases q1:(97:Int)<=c<;>by_cases q2:(65:Int)<=c<;>by_cases q3:(48:Int)<=c<;>first
   | (exfalso;omega)
   | (go_enter Tryz.func52,Tryz.ntmps52
      go_wp2_with fail
      refine HI.out.mono ?_
      rintro e w1 ⟨k,rfl,hk,rfl⟩
      go_wp2_with fail
      refine HM.out.mono ?_
      rintro e w1 ⟨k2,rfl,hk2,rfl⟩
      go_wp2_with fail
      go_ret
      exact ⟨by rw [hcl.out];rfl,rfl⟩)
theorem class_any (c:Int) (w:World) (h0:0<=c) (h1:c<=255):Calls Tryz.prog 52 #[.int .u8 c] w (ClassPost c w):=by
 by_cases a1:c=32\/c=9\/c=13\/c=10\/c=35\/c=47
 ·exact class_lit c w a1
 by_cases a2:(97<=c/\c<=122)\/(65<=c/\c<=90)\/(48<=c/\c<=57)
 ·exact class_range c w a2
 by_cases a3:c=95\/c=45\/c=43\/c=46
 ·exact class_wlit c w a3
 by_cases a4:c=34
 ·subst a4;exact class_quote w
 by_cases a5:c=123\/c=125\/c=91\/c=93\/c=58\/c=61\/c=44
 ·exact class_mark c w a5
 refine class_bad c w h0 h1 ?_ ?_ ?_ ?_ ?_ ?_ ?_ ?_ ?_
 ·rw [beq_eq_false_iff_ne];omega
 ·rw [beq_eq_false_iff_ne];omega
 ·rw [beq_eq_false_iff_ne];omega
 ·rw [beq_eq_false_iff_ne];omega
 ·rw [beq_eq_false_iff_ne];omega
 ·rw [beq_eq_false_iff_ne];omega
 ·rw [beq_eq_false_iff_ne];omega
 ·unfold isWordByte
  simp only [Bool.or_eq_false_iff,Bool.and_eq_false_iff,decide_eq_false_iff_not,beq_eq_false_iff_ne]
  omega
 ·unfold isMarkByte
  simp only [Bool.or_eq_false_iff,beq_eq_false_iff_ne]
  omega
def textScan:List UInt8->Bool->Nat->Nat
 | [],_,_=>0
 | b::r,passed,i=>if b=10 then 0 else if passed=true then textScan r false (i+1) else if b=34 then i+1 else textScan r (b==92) (i+1)
def textLen (l:List UInt8):Nat:=textScan (l.drop 1) false 1
def IntPostTk (n:Int) (w:World) (e:Ending) (w':World):Prop:=e=.returned (.int .i64 n)/\w=w'
theorem u8_beq (c m:UInt8) (n:Int) (h:(m.toNat:Int)=n):((c.toNat:Int)==n)=(c==m):=by
 rw [Bool.eq_iff_iff,beq_iff_eq,beq_iff_eq,<-h]
 constructor
 ·intro h;apply UInt8.toNat_inj.1;omega
 ·intro h;rw [h]
theorem drop_consTk (l:List UInt8) (k:Nat) (h:k<l.length):l.drop k=l[k]::l.drop (k+1):=List.drop_eq_getElem_cons h
set_option maxHeartbeats 1000000 in
theorem text_any (s:ByteArray) (w:World) (h0:0<s.size) (hs:s.size<=2147483648) :
 Calls Tryz.prog 54 #[.string s] w (IntPostTk (textLen s.data.toList) w):=by
 have hlen:s.data.toList.length=s.size:=Array.length_toList
 have HL:=Lib.hid hlen
 clear hlen
 go_enter Tryz.func54,Tryz.ntmps54
 go_wp2
 go_loop [3,4] (fun p i=>∃ (k:Nat) (b:Bool),1<=k/\k<=s.size/\p=.bool b/\i=.int .i64 k/\Hid (textLen s.data.toList=textScan (s.data.toList.drop k) b k)) (fun _ i=>s.size - (intOf i).toNat)
 case atStart=>exact ⟨1,false,by omega,by omega,rfl,rfl,rfl⟩
 case round =>
  obtain ⟨k,b,hk1,hk,rfl,rfl,hv⟩:=hrel
  by_cases hlt:k<s.size
  ·have hlt':k<s.data.toList.length:=by rw [HL.out];exact hlt
   have hv2:=hv.out
   rw [drop_consTk _ k hlt'] at hv2
   have eb:s.data.toList[k]=s[k]'hlt:=rfl
   rw [eb] at hv2
   obtain ⟨c,hc⟩:∃ c,c=s[k]'hlt:=⟨_,rfl⟩
   rw [<-hc] at hv2
   have hcs:((s[k]'hlt).toNat:Int)=(c.toNat:Int):=by rw [hc]
   clear eb
   by_cases h10:c=10
   ·have t1:((s[k].toNat:Int)==10)=true:=by rw [hcs,h10];rfl
    have HV:Hid (textLen s.data.toList=0):=by show _=_;rw [hv2];unfold textScan;rw [if_pos h10]
    clear hv2 hv hcs hc h10
    go_wp2
    go_ret
    exact ⟨by rw [HV.out];rfl,rfl⟩
   ·have t1:((s[k].toNat:Int)==10)=false:=by
     rw [hcs,u8_beq c 10 10 rfl];simpa using h10
    cases b
    ·by_cases h34:c=34
     ·have t2:((s[k].toNat:Int)==34)=true:=by rw [hcs,h34];rfl
      have HV:Hid (textLen s.data.toList=k+1):=by
       show _=_;rw [hv2];unfold textScan;rw [if_neg h10,if_neg (by decide),if_pos h34]
      clear hv2 hv hcs hc h10 h34
      go_wp2
      go_ret
      refine ⟨?_,rfl⟩
      rw [HV.out,show ((k+1:Nat):Int)=(k:Int)+1 by omega];rfl
     ·have t2:((s[k].toNat:Int)==34)=false:=by
       rw [hcs,u8_beq c 34 34 rfl];simpa using h34
      have t3:((s[k].toNat:Int)==92)=(c==92):=by rw [hcs];exact u8_beq c 92 92 rfl
      have HV:Hid (textLen s.data.toList=textScan (s.data.toList.drop (k+1)) (c==92) (k+1)):=by
       show _=_;rw [hv2];conv=>lhs;unfold textScan
       rw [if_neg h10,if_neg (by decide),if_neg h34]
      clear hv2 hv hcs hc h10 h34
      go_wp2
      go_round
      case rel=>exact ⟨k+1,c==92,by omega,by omega,by rfl,by go_num,HV⟩
      case measure=>simp [intOf];omega
    ·have HV:Hid (textLen s.data.toList=textScan (s.data.toList.drop (k+1)) false (k+1)):=by
      show _=_;rw [hv2];conv=>lhs;unfold textScan
      rw [if_neg h10,if_pos rfl]
     clear hv2 hv hcs hc h10
     go_wp2
     go_round
     case rel=>exact ⟨k+1,false,by omega,by omega,rfl,by go_num,HV⟩
     case measure=>simp [intOf];omega
  ·obtain rfl:k=s.size:=by omega
   have HV:Hid (textLen s.data.toList=0):=by
    show _=_
    rw [hv.out,List.drop_eq_nil_of_le (by rw [HL.out];exact Nat.le_refl _)];rfl
   clear hv
   go_wp2
   go_ret
   exact ⟨by rw [HV.out];rfl,rfl⟩
end Go.Proofs.YtldhmfkojaekfaaGreatDoor
