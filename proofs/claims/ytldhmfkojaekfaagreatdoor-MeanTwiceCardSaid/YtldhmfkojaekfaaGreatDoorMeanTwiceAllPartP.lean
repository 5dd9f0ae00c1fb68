/-
  Lemmas for the statement: plain laws, and what functions answer; the conditions stand in each.
-/
import Derived.Laws.CopyRow
import Derived.Laws.Externs
import Derived.Lib.Overlaps
import Derived.Lib.AppendZerosOnto
import Derived.Lib.OthersKept
import Derived.Test.YtldhmfkojaekfaaGreatDoorMeanTwiceAllPartO
set_option linter.unusedVariables false
set_option linter.unusedSimpArgs false
namespace Go.Proofs.YtldhmfkojaekfaaGreatDoor
open Go.RowKit Gx
set_option maxRecDepth 100000
def ovl {α:Type} (L:List α) (o:Nat) (cs:List α):List α:=L.take o++(cs++L.drop (o+cs.length))
theorem ovl_len {α:Type} {L:List α} {o:Nat} {cs:List α} (h:o+cs.length<=L.length):(ovl L o cs).length=L.length:=by unfold ovl;simp;omega
section
variable {P:Program}
theorem run_copy_wide (w:World) (dT sT ty elem:TypeId) (k g o dLen dCap:Nat) (a:Addr) (sLen sCap:Nat) (cur:Array Value) (t:TypeId) (cs:List Value)
 (hu:P.underlying dT=some (.slice elem)) (hs:(P.info? elem).map (·.size)=some k) (hg:w.heap[g]?=some (.cells cur t (0,0))) (hn:cs.length=Nat.min sLen dLen * k)
 (hsrc:∀ j v,cs[j]?=some v->w.cell? (a.add j)=some v) (hfit:o+cs.length<=cur.size) (h1:∀ v∈cs,v.oneCell'=true) :
 (Builtin.copy_ #[dT,sT] ty #[.slice (some ⟨g,o,none⟩) dLen dCap,.slice (some a) sLen sCap]).run P w=.ok (goInt (Nat.min sLen dLen)) (w.setRow g (ovl cur.toList o cs).toArray):=by
 have hl:=run_loadCells_list (P:=P) w a cs hsrc
 have hst:=run_storeCells_at P g o t cs 0 cur w hg (by simpa using hfit) h1
 rw [Nat.add_zero,List.append_assoc] at hst
 unfold ovl
 cases hq:P.info? elem with
 | none=>simp [hq] at hs
 | some i =>
   have hi:i.size=k:=by simpa [hq] using hs
   simp [Builtin.copy_,run_underlying hu,Builtin.lenOf,Builtin.firstCells,sizeOf,typeInfo,hq,hi,<-hn,hl,hst]
theorem wp_copy_eq {ops:Array Oper} {o:Oper} {ac:Act} {w:World} {K:Act->World->Prop} {Q:Exit->Act->World->Prop} (d x:Operand) (dT sT:TypeId) (ho:o.op=.call { callee:=.builtin .copy,args:=#[d,x],argTypes:=#[dT,sT] })
 (v u:Value) (hd:ac.eval d=v) (hx:ac.eval x=u) {r:Value} {w':World} (hr:(Builtin.copy_ #[dT,sT] o.type #[v,u]).run P w=.ok r w') (hK:K (ac.put o.dst r) w'):Oper.wp P o ac w K Q:=by
 unfold Oper.wp execOp
 simp only [ho,resolve,invoke,builtin,Sem.run_bind,Sem.run_pure,Result.andThen_ok,List.map_toArray,List.map_cons,List.map_nil,hd,hx,hr]
 exact hK
theorem step_copy_eq {ops:Array Oper} {o:Oper} {ac:Act} {w:World} {K:Act->World->Prop} {Q:Exit->Act->World->Prop} {F:Prop} (hgd:o.guard=none) (d x:Operand) (dT sT:TypeId) (ho:o.op=.call { callee:=.builtin .copy,args:=#[d,x],argTypes:=#[dT,sT] })
 (v u:Value) (hd:ac.eval d=v) (hx:ac.eval x=u) {r:Value} {w':World} (hr:(Builtin.copy_ #[dT,sT] o.type #[v,u]).run P w=.ok r w') (hK:K (ac.put o.dst r) w'):if Region.wanted o (yielded ops ac.tmps)=true then Oper.wp P o ac w K Q else F:=by
 have hw:Region.wanted o (yielded ops ac.tmps)=true:=by simp [Region.wanted,hgd]
 rw [if_pos hw]
 exact wp_copy_eq (ops:=ops) d x dT sT ho v u hd hx hr hK
theorem wpl_append_eq {w:World} {ops:Array Oper} {rest:List Oper} {o:Oper} {ac:Act} {Q:Exit->Act->World->Prop} (hgd:o.guard=none) (d x:Operand) (dT sT:TypeId) (ho:o.op=.call { callee:=.builtin .append,args:=#[d,x],argTypes:=#[dT,sT] })
 (v u:Value) (hd:ac.eval d=v) (hx:ac.eval x=u) {r:Value} {w':World} (hr:(Builtin.append_ #[dT,sT] o.type #[v,u]).run P w=.ok r w') (h:wpList P ops Q rest (ac.put o.dst r) w'):wpList P ops Q (o::rest) ac w:=by
 refine wpList_plain hgd fun K hK=>?_
 unfold Oper.wp execOp
 simp only [ho,resolve,invoke,builtin,Sem.run_bind,Sem.run_pure,Result.andThen_ok,List.map_toArray,List.map_cons,List.map_nil,hd,hx,hr]
 exact hK _ _ h
end
theorem setRow_size (w:World) (g:Nat) (a:Array Value):(w.setRow g a).heap.size=w.heap.size:=by simp [World.setRow]
theorem setRow_grown (w:World) (g:Nat) (a:Array Value):w.grownBy (w.setRow g a) (some g):=⟨rfl,rfl,rfl,by simp [World.setRow],fun k _ hk=>setRow_other w g k a (fun e=>hk (by rw [e]))⟩
def insC (xs news:List Value) (i:Nat):List Value:=xs.take (i * 7)++(news++xs.drop (i * 7))
def InsPost (w:World) (base:Nat) (v:Value) (n i:Nat) (xs news:List Value) (e:Ending) (w':World):Prop :=
 ∃ vo vc,e=.returned (.slice vo (n+1) vc)/\w'.ownsRow base 44 7 (.slice vo (n+1) vc) (n+1) (insC xs news i)/\w.grownBy w' v.ownBlock/\Moved v (.slice vo (n+1) vc) w.heap.size
theorem ovl_twice {α:Type} (cur B news:List α) (a k:Nat) (hk:news.length=k) (hc:a+k+B.length<=cur.length):(ovl (ovl cur (a+k) B) a news).take (a+k+B.length)=cur.take a++(news++B):=by
 have h1:(cur.take (a+k)).length=a+k:=by rw [List.length_take];omega
 have e1:(ovl cur (a+k) B).take a=cur.take a:=by
  unfold ovl
  rw [List.take_append_of_le_length (by omega),List.take_take,Nat.min_eq_left (by omega)]
 have e2:(ovl cur (a+k) B).drop (a+k)=B++cur.drop (a+k+B.length):=by
  unfold ovl
  exact List.drop_left' h1
 have e3:ovl (ovl cur (a+k) B) a news=(ovl cur (a+k) B).take a++(news++(ovl cur (a+k) B).drop (a+news.length)):=rfl
 rw [e3,e1,hk,e2,<-List.append_assoc,<-List.append_assoc,List.append_assoc (cur.take a),List.append_assoc (cur.take a)]
 rw [<-List.append_assoc (cur.take a) (news++B)]
 rw [List.take_left' (by rw [List.length_append,List.length_append,List.length_take,hk];omega)]
theorem ovl_room {cur xs news:List Value} {n i:Nat} (hx:cur.take (n * 7)=xs) (hi:i<=n) (hnl:news.length=7) (hc:(n+1) * 7<=cur.length):(ovl (ovl cur ((i+1) * 7) (xs.drop (i * 7))) (i * 7) news).take ((n+1) * 7)=insC xs news i:=by
 subst hx
 have h2:((cur.take (n * 7)).drop (i * 7)).length=(n - i) * 7:=by rw [List.length_drop,List.length_take];omega
 have h:=ovl_twice cur ((cur.take (n * 7)).drop (i * 7)) news (i * 7) 7 hnl (by rw [h2];omega)
 rw [h2,show i * 7+7=(i+1) * 7 by omega,show (i+1) * 7+(n - i) * 7=(n+1) * 7 by omega] at h
 rw [h]
 unfold insC
 rw [List.take_take,Nat.min_eq_left (by omega)]
theorem insC_len {xs news:List Value} {n i:Nat} (hx:xs.length=n * 7) (hi:i<=n) (hnl:news.length=7):(insC xs news i).length=(n+1) * 7:=by
 unfold insC
 rw [List.length_append,List.length_append,List.length_take,List.length_drop,hnl,hx]
 omega
set_option maxHeartbeats 4000000 in
theorem insert_room (w:World) (base g n c i vb:Nat) (cur:Array Value) (xs news:List Value) (hbg:base<=g) (hg:w.heap[g]?=some (.cells cur 44 (0,0))) (hcs:cur.size=c * 7) (hcm:c<=maxLen) (htk:cur.toList.take (n * 7)=xs)
 (hi:i<n) (hn:n<=1000000) (hroom:n+1<=c) (hnl:news.length=7) (h1:∀ u∈news,u.oneCell'=true) (hx1:∀ u∈xs,u.oneCell'=true) (hvb:w.heap[vb]?=some (.cells news.toArray 44)) (hne:vb≠g) :
 Calls Tryz.prog 82 #[.slice (some ⟨g,0,none⟩) n c,.int .i64 i,.slice (some ⟨vb,0,none⟩) 1 1] w (InsPost w base (.slice (some ⟨g,0,none⟩) n c) n i xs news):=by
 have hc63:c<=9223372036854775807:=by unfold maxLen at hcm;omega
 have hsz:(Tryz.prog.info? 44).map (·.size)=some 7:=by
  obtain ⟨i0,hi0,-,h2,-⟩:=info_parts Tryz.info_ent
  rw [hi0];simp [h2]
 obtain ⟨W1,hW1⟩:∃ W1,W1=w.drew.setRow g (ovl cur.toList ((i+1) * 7) (xs.drop (i * 7))).toArray:=⟨_,rfl⟩
 obtain ⟨W2,hW2⟩:∃ W2,W2=W1.setRow g (ovl (ovl cur.toList ((i+1) * 7) (xs.drop (i * 7))) (i * 7) news).toArray:=⟨_,rfl⟩
 have hxl:xs.length=n * 7:=by rw [<-htk,List.length_take,Array.length_toList,hcs];omega
 have hdl:(xs.drop (i * 7)).length=(n - i) * 7:=by rw [List.length_drop,hxl];omega
 have hcell:∀ j u,xs[j]?=some u->w.cell? ⟨g,j,none⟩=some u:=fun j u hj=>by
  rw [<-htk,List.getElem?_take] at hj
  split at hj
  ·simp [World.cell?,hg];simpa using hj
  ·cases hj
 have hg1:W1.heap[g]?=some (.cells (ovl cur.toList ((i+1) * 7) (xs.drop (i * 7))).toArray 44 (0,0)):=by rw [hW1];exact setRow_heap w.drew g cur _ _ _ hg
 have hol:(ovl cur.toList ((i+1) * 7) (xs.drop (i * 7))).length=c * 7:=by rw [ovl_len (by rw [hdl,Array.length_toList,hcs];omega),Array.length_toList,hcs]
 have hv1:W1.heap[vb]?=some (.cells news.toArray 44):=by rw [hW1];exact (setRow_other w.drew g vb _ hne).trans hvb
 have hcp1:∀ ty dc sc,(Builtin.copy_ #[24,24] ty #[.slice (some ⟨g,(i+1) * 7,none⟩) (n - i) dc,.slice (some ⟨g,i * 7,none⟩) (n+1 - i) sc]).run Tryz.prog w.drew=.ok (goInt (Nat.min (n+1 - i) (n - i))) W1:=fun ty dc sc=>by
  rw [hW1]
  refine run_copy_wide w.drew _ _ ty 44 7 g ((i+1) * 7) _ dc ⟨g,i * 7,none⟩ _ sc cur 44 (xs.drop (i * 7)) Tryz.underlying24 hsz hg (by rw [hdl];simp only [Nat.min_def];split<;>omega) (fun j v hj=>?_) (by rw [hdl,hcs];omega) (fun v hv=>hx1 v (List.mem_of_mem_drop hv))
  rw [Addr.add_lit]
  rw [List.getElem?_drop] at hj
  exact hcell _ v hj
 have hcp2:∀ ty dc,(Builtin.copy_ #[24,24] ty #[.slice (some ⟨g,i * 7,none⟩) (n+1 - i) dc,.slice (some ⟨vb,0,none⟩) 1 1]).run Tryz.prog W1=.ok (goInt (Nat.min 1 (n+1 - i))) W2:=fun ty dc=>by
  rw [hW2]
  have:=run_copy_wide W1 24 24 ty 44 7 g (i * 7) (n+1 - i) dc ⟨vb,0,none⟩ 1 1 _ 44 news Tryz.underlying24 hsz hg1 (by rw [hnl];simp only [Nat.min_def];split<;>omega) (fun j v hj=>by
   rw [Addr.add_lit]
   simp [World.cell?,hv1];simpa using hj) (by rw [hnl];simp [hol];omega) h1
  simpa using this
 have hpost:InsPost w base (.slice (some ⟨g,0,none⟩) n c) n i xs news (.returned (.slice (some ⟨g,0,none⟩) (n+1) c)) W2:=by
  have hg2:W2.heap[g]?=some (.cells (ovl (ovl cur.toList ((i+1) * 7) (xs.drop (i * 7))) (i * 7) news).toArray 44 (0,0)):=by rw [hW2];exact setRow_heap W1 g _ _ _ _ hg1
  refine ⟨_,_,rfl,⟨insC_len hxl (by omega) hnl,.inr ⟨g,c,_,rfl,hbg,hg2,hroom,hcm,?_,?_⟩⟩,?_,.inl rfl⟩
  ·rw [List.size_toArray,ovl_len (by rw [hnl,hol];omega),hol]
  ·exact ovl_room htk (by omega) hnl (by rw [Array.length_toList,hcs];omega)
  ·have g1:=setRow_grown w.drew g (ovl cur.toList ((i+1) * 7) (xs.drop (i * 7))).toArray
   rw [<-hW1] at g1
   have g2:=setRow_grown W1 g (ovl (ovl cur.toList ((i+1) * 7) (xs.drop (i * 7))) (i * 7) news).toArray
   rw [<-hW2] at g2
   exact ⟨g2.os.trans g1.os,g2.tape.trans g1.tape,g2.output.trans g1.output,Nat.le_trans g1.size g2.size,fun k hk hkn=>(g2.block k (Nat.lt_of_lt_of_le hk g1.size) hkn).trans (g1.block k hk hkn)⟩
 have hsa:w.shape? vb=some (44,7):=by simp [World.shape?,hvb,hnl]
 have hsb:w.shape? g=some (44,c * 7):=by simp [World.shape?,hg,hcs]
 have hfa:∀ j,w.frozen? ⟨vb,j,none⟩=false:=fun j=>by simp [World.frozen?,hvb]
 have hov:∀ lb cb,(callFunc 100 #[.slice (some ⟨vb,0,none⟩) 1 1,.slice (some ⟨g,(i+1) * 7,none⟩) lb cb]).run Tryz.prog w=.ok (.value (.bool false)) w:=fun lb cb=>by
  rw [run_callFunc_extern (e:=Extern.SlicesOverlaps.overlaps #[24,24] #[4]) Tryz.func100 (by kernel_rfl) (by kernel_rfl) (by kernel_rfl) (by kernel_rfl),
   Lib.run_overlaps_apart w 24 4 44 Tryz.underlying24 7 (fun w=>by obtain ⟨i0,hi0,-,h2,-⟩:=info_parts Tryz.info_ent;simp [sizeOf,typeInfo,hi0,h2]) ⟨vb,0,none⟩ ⟨g,(i+1) * 7,none⟩ 1 1 lb cb hne 44 44 7 (c * 7) hsa hsb (by omega) (hfa 0) (hfa 7)]
  rfl
 have HP:=Lib.hid hpost
 have H1:=Lib.hid hcp1
 have H2:=Lib.hid hcp2
 have HOV:=Lib.hid hov
 have z1:((1:Int)==0)=false:=by decide
 have z2:((i:Int)==(n:Int))=false:=by simp;omega
 have z3:decide ((c:Int)<(n:Int)+1)=false:=decide_eq_false (by omega)
 have b1:(0:Int)<=(i:Int):=by omega
 have b2:(i:Int)<=(n:Int):=by omega
 have b3:(i:Int)<=(c:Int):=by omega
 have b4:(n:Int)+1<=(c:Int):=by omega
 have b5:(i:Int)+1<=(n:Int)+1:=by omega
 have b6:(i:Int)<=(n:Int)+1:=by omega
 have b9:(0:Int)<=(i:Int)+1:=by omega
 have b7:((i:Int)+1).toNat=i+1:=by omega
 have b8:((n:Int)+1).toNat=n+1:=by omega
 have c1:¬ (c=i):=by omega
 have c2:¬ (c=i+1):=by omega
 have q1:IntKind.i64.wrap ((i:Int)+1)=(i:Int)+1:=by rw [IntKind.wrap_i64];omega
 have q2:IntKind.i64.wrap ((n:Int)+1)=(n:Int)+1:=by rw [IntKind.wrap_i64];omega
 clear hpost hcp1 hcp2 hov hcell hsa hsb hfa hg1 hv1 hol hxl hdl hg hvb hW1 hW2 htk hcs hcm hx1 h1 hnl hbg hsz
 go_enter Tryz.func82,Tryz.ntmps82
 go_wp2_with (simp only [HOV.out])
 go_region_law (refine step_copy_eq rfl _ _ 24 24 rfl _ _ (by simp [Act.eval,Act.put];rfl) (by simp [Act.eval,Act.put];rfl) (H1.out _ _ _) ?_)
 all_goals
  have h2:=fun ty dc=>H2.out ty dc
  clear H1 H2
  go_wp2_with fail
  try go_ret
  exact HP.out
set_option maxHeartbeats 4000000 in
theorem insert_grow (w:World) (base g n c i vb:Nat) (cur:Array Value) (xs news:List Value) (hb:base<=w.heap.size) (hbg:base<=g) (hg:w.heap[g]?=some (.cells cur 44 (0,0))) (hcs:cur.size=c * 7) (hnc:n<=c) (hcm:c<=maxLen) (htk:cur.toList.take (n * 7)=xs)
 (hi:i<n) (hn:n<=1000000) (hroom:c<n+1) (hnl:news.length=7) (h1:∀ u∈news,u.oneCell'=true) (hx1:∀ u∈xs,u.oneCell'=true) (hvb:w.heap[vb]?=some (.cells news.toArray 44)) :
 Calls Tryz.prog 82 #[.slice (some ⟨g,0,none⟩) n c,.int .i64 i,.slice (some ⟨vb,0,none⟩) 1 1] w (InsPost w base (.slice (some ⟨g,0,none⟩) n c) n i xs news):=by
 have hc63:c<=9223372036854775807:=by unfold maxLen at hcm;omega
 obtain ⟨i0,hi0,hz0,hz1,hz2⟩:=info_parts Tryz.info_ent
 have hsz:(Tryz.prog.info? 44).map (·.size)=some 7:=by rw [hi0];simp [hz1]
 have hxl:xs.length=n * 7:=by rw [<-htk,List.length_take,Array.length_toList,hcs];omega
 have hcell:∀ j u,xs[j]?=some u->w.cell? ⟨g,j,none⟩=some u:=fun j u hj=>by
  rw [<-htk,List.getElem?_take] at hj
  split at hj
  ·simp [World.cell?,hg];simpa using hj
  ·cases hj
 have hgw:g<w.heap.size:=(Array.getElem?_eq_some_iff.1 hg).1
 have hvw:vb<w.heap.size:=(Array.getElem?_eq_some_iff.1 hvb).1
 obtain ⟨Z,hZ⟩:∃ Z,(Value.agg #[.string ⟨#[]⟩,.int .i64 0,.int .i64 0,.int .u64 0,.string ⟨#[]⟩,.slice none 0 0,.slice none 0 0]).cells=Z:=⟨_,rfl⟩
 have hZ7:Z.size=7:=by rw [<-hZ];rfl
 obtain ⟨G,hG⟩:∃ G,G=grownCap w (n+1) c 44:=⟨_,rfl⟩
 have hGn:n+1<=G:=by rw [hG];exact grownCap_ge w _ _ _
 have hGm:G<=maxLen:=by rw [hG];exact grownCap_le_maxLen w (n+1) c _ (by unfold maxLen;omega)
 obtain ⟨ROW,hROW⟩:∃ ROW:List Value,ROW=xs.take (i * 7)++((Builtin.zeroCells Z (n+1 - i)).toList++(Builtin.zeroCells Z (G - (n+1))).toList):=⟨_,rfl⟩
 have hzl:∀ k,(Builtin.zeroCells Z k).size=k * 7:=fun k=>by simp [Builtin.zeroCells,hZ7]
 have hRl:ROW.length=G * 7:=by
  have l1:=hzl (n+1 - i)
  have l2:=hzl (G - (n+1))
  rw [<-Array.length_toList] at l1 l2
  rw [hROW,List.length_append,List.length_append,List.length_take,l1,l2,hxl]
  omega
 obtain ⟨W0,hW0⟩:∃ W0,W0=w.drew.alloc (.cells ROW.toArray 44):=⟨_,rfl⟩
 have hold:(Builtin.firstCells i0.size i (.slice (some ⟨g,0,none⟩) i c)).run Tryz.prog w.drew=.ok (xs.take (i * 7)).toArray w.drew:=by
  rw [hz1]
  exact run_firstCells_some w.drew 7 i ⟨g,0,none⟩ i c (xs.take (i * 7)) (by rw [List.length_take];omega) (fun j v hj=>by
   rw [Addr.add_lit,Nat.zero_add]
   rw [List.getElem?_take] at hj
   split at hj
   ·exact hcell j v hj
   ·cases hj)
 have hik:i+(n+1 - i)=n+1:=by omega
 have hrz:∀ ty,(Builtin.append_ #[24,3] ty #[.slice (some ⟨g,0,none⟩) i c,.int .i64 ((n:Int)+1 - (i:Int))]).run Tryz.prog w=.ok (.slice (some ⟨w.heap.size,0,none⟩) (n+1) G) W0:=fun ty=>by
  have h:=Lib.run_append_grow_zeros w 24 3 ty 44 i0 _ .i64 .i64 Tryz.underlying24 Tryz.underlying3 hi0 hz0 (some ⟨g,0,none⟩) i c (xs.take (i * 7)) hold (n+1 - i) (by omega) (by rw [hz1];decide) (by omega) (by omega) (by rw [hz2];omega) (by rw [hz2,hik];exact growslice_fits (by omega) (by omega))
  rw [hik] at h
  rw [show (n:Int)+1 - (i:Int)=((n+1 - i:Nat):Int) by omega,h,hW0,hROW,hG,hZ]
  congr 3
  simp [<-Array.toList_inj]
 obtain ⟨W1,hW1⟩:∃ W1,W1=W0.setRow w.heap.size (ovl ROW (i * 7) news).toArray:=⟨_,rfl⟩
 obtain ⟨W2,hW2⟩:∃ W2,W2=W1.drew.setRow w.heap.size (ovl (ovl ROW (i * 7) news) ((i+1) * 7) (xs.drop (i * 7))).toArray:=⟨_,rfl⟩
 have hdl:(xs.drop (i * 7)).length=(n - i) * 7:=by rw [List.length_drop,hxl];omega
 have hg0:W0.heap[w.heap.size]?=some (.cells ROW.toArray 44):=by rw [hW0];exact heap_alloc_new w.drew _
 have hold0:∀ k,k<w.heap.size->W0.heap[k]?=w.heap[k]?:=fun k hk=>by rw [hW0];exact alloc_old_gx w.drew _ hk
 have hg1:W1.heap[w.heap.size]?=some (.cells (ovl ROW (i * 7) news).toArray 44 (0,0)):=by rw [hW1];exact setRow_heap W0 w.heap.size _ _ _ _ hg0
 have hold1:∀ k,k<w.heap.size->W1.heap[k]?=w.heap[k]?:=fun k hk=>by rw [hW1];exact (setRow_other W0 w.heap.size k _ (by omega)).trans (hold0 k hk)
 have hol:(ovl ROW (i * 7) news).length=G * 7:=by rw [ovl_len (by rw [hnl,hRl];omega),hRl]
 have hcp1:∀ ty dc,(Builtin.copy_ #[24,24] ty #[.slice (some ⟨w.heap.size,i * 7,none⟩) (n+1 - i) dc,.slice (some ⟨vb,0,none⟩) 1 1]).run Tryz.prog W0=.ok (goInt (Nat.min 1 (n+1 - i))) W1:=fun ty dc=>by
  rw [hW1]
  have:=run_copy_wide W0 24 24 ty 44 7 w.heap.size (i * 7) (n+1 - i) dc ⟨vb,0,none⟩ 1 1 _ 44 news Tryz.underlying24 hsz hg0 (by rw [hnl];simp only [Nat.min_def];split<;>omega) (fun j v hj=>by
   rw [Addr.add_lit]
   have hv0:=(hold0 vb hvw).trans hvb
   simp [World.cell?,hv0];simpa using hj) (by rw [hnl];simp [hRl];omega) h1
  simpa using this
 have hcp2:∀ ty dc sc,(Builtin.copy_ #[24,24] ty #[.slice (some ⟨w.heap.size,(i+1) * 7,none⟩) (n - i) dc,.slice (some ⟨g,i * 7,none⟩) (n - i) sc]).run Tryz.prog W1.drew=.ok (goInt (Nat.min (n - i) (n - i))) W2:=fun ty dc sc=>by
  rw [hW2]
  have:=run_copy_wide W1.drew 24 24 ty 44 7 w.heap.size ((i+1) * 7) (n - i) dc ⟨g,i * 7,none⟩ (n - i) sc _ 44 (xs.drop (i * 7)) Tryz.underlying24 hsz hg1 (by rw [hdl];simp only [Nat.min_def];split<;>omega) (fun j v hj=>by
   rw [Addr.add_lit]
   rw [List.getElem?_drop] at hj
   have hcc:=hcell _ v hj
   exact (World.cell?_of_block (hold1 g hgw)).trans hcc) (by rw [hdl];simp [hol];omega) (fun v hv=>hx1 v (List.mem_of_mem_drop hv))
  simpa using this
 have hpost:InsPost w base (.slice (some ⟨g,0,none⟩) n c) n i xs news (.returned (.slice (some ⟨w.heap.size,0,none⟩) (n+1) G)) W2:=by
  have hg2:W2.heap[w.heap.size]?=some (.cells (ovl (ovl ROW (i * 7) news) ((i+1) * 7) (xs.drop (i * 7))).toArray 44 (0,0)):=by rw [hW2];exact setRow_heap W1.drew w.heap.size _ _ _ _ hg1
  refine ⟨_,_,rfl,⟨insC_len hxl (by omega) hnl,.inr ⟨w.heap.size,G,_,rfl,hb,hg2,hGn,hGm,?_,?_⟩⟩,?_,.inr ⟨_,rfl,Nat.le_refl _⟩⟩
  ·rw [List.size_toArray,ovl_len (by rw [hdl,hol];omega),hol]
  ·have e1:(ovl ROW (i * 7) news).take ((i+1) * 7)=xs.take (i * 7)++news:=by
    have e0:ROW.take (i * 7)=xs.take (i * 7):=by rw [hROW];exact List.take_left' (by rw [List.length_take];omega)
    unfold ovl
    rw [e0,<-List.append_assoc]
    exact List.take_left' (by rw [List.length_append,List.length_take,hnl];omega)
   show (ovl (ovl ROW (i * 7) news) ((i+1) * 7) (xs.drop (i * 7))).take ((n+1) * 7)=insC xs news i
   unfold insC
   rw [ovl,e1,<-List.append_assoc,List.append_assoc (xs.take (i * 7))]
   exact List.take_left' (by rw [List.length_append,List.length_append,List.length_take,hnl,hdl];omega)
  ·have z0:w.heap.size<=W0.heap.size:=by rw [hW0];simp
   refine ⟨by rw [hW2,hW1,hW0];rfl,by rw [hW2,hW1,hW0];rfl,by rw [hW2,hW1,hW0];rfl,?_,fun k hk _=>?_⟩
   ·rw [hW2,setRow_size]
    show _<=W1.heap.size
    rw [hW1,setRow_size];exact z0
   ·rw [hW2]
    exact (setRow_other W1.drew w.heap.size k _ (by omega)).trans (hold1 k hk)
 have HP:=Lib.hid hpost
 have H0:=Lib.hid hrz
 have H1:=Lib.hid hcp1
 have H2:=Lib.hid hcp2
 have z1:((1:Int)==0)=false:=by decide
 have z2:((i:Int)==(n:Int))=false:=by simp;omega
 have z3:decide ((c:Int)<(n:Int)+1)=true:=decide_eq_true (by omega)
 have b1:(0:Int)<=(i:Int):=by omega
 have b2:(i:Int)<=(n:Int):=by omega
 have b3:(i:Int)<=(c:Int):=by omega
 have b5:(i:Int)+1<=(n:Int)+1:=by omega
 have b6:(i:Int)<=(n:Int)+1:=by omega
 have b9:(0:Int)<=(i:Int)+1:=by omega
 have b7:((i:Int)+1).toNat=i+1:=by omega
 have b8:((n:Int)+1).toNat=n+1:=by omega
 have c1:¬ (c=i):=by omega
 have c2:¬ (G=i):=by omega
 have c3:¬ (G=i+1):=by omega
 have c4:i<=n:=by omega
 have q1:IntKind.i64.wrap ((i:Int)+1)=(i:Int)+1:=by rw [IntKind.wrap_i64];omega
 have q2:IntKind.i64.wrap ((n:Int)+1)=(n:Int)+1:=by rw [IntKind.wrap_i64];omega
 have q3:IntKind.i64.wrap ((n:Int)+1 - (i:Int))=(n:Int)+1 - (i:Int):=by rw [IntKind.wrap_i64];omega
 clear hpost hrz hcp1 hcp2 hcell hg1 hg0 hold0 hold1 hol hxl hdl hg hvb hW0 hW1 hW2 htk hcs hcm hx1 h1 hnl hbg hsz hold hROW hRl hzl hZ hZ7 hG hGn hGm hz0 hz1 hz2 hi0 hik hgw hvw hb
 go_enter Tryz.func82,Tryz.ntmps82
 go_wp2_with (at_builtin;refine wpl_append_eq rfl _ _ 24 3 rfl _ _ rfl rfl (H0.out _) ?_)
 have h1:=fun ty dc=>H1.out ty dc
 simp only [h1]
 go_wp2_with fail
 go_region_law (refine step_copy_eq rfl _ _ 24 24 rfl _ _ (by simp [Act.eval,Act.put];rfl) (by simp [Act.eval,Act.put];rfl) (H2.out _ _ _) ?_)
 all_goals
  clear h1
  go_wp2_with fail
  try go_ret
  exact HP.out
end Go.Proofs.YtldhmfkojaekfaaGreatDoor
namespace Go.Proofs.YtldhmfkojaekfaaGreatDoor
open Go.RowKit Gx
set_option maxRecDepth 100000
set_option maxHeartbeats 4000000 in
theorem insert_end (w:World) (base n vb c:Nat) (vo:Option Addr) (xs news:List Value) (hb:base<=w.heap.size) (hown:w.ownsRow base 44 7 (.slice vo n c) n xs) (hn:n<=1000000)
 (hnl:news.length=7) (h1:∀ u∈news,u.oneCell'=true) (hvb:w.heap[vb]?=some (.cells news.toArray 44)) :
 Calls Tryz.prog 82 #[.slice vo n c,.int .i64 n,.slice (some ⟨vb,0,none⟩) 1 1] w (InsPost w base (.slice vo n c) n n xs news):=by
 have hpost:∀ v' w',w'.ownsRow base 44 7 v' (n+1) (xs++news)->w.grownBy w' (Value.slice vo n c).ownBlock->Moved (.slice vo n c) v' w.heap.size->InsPost w base (.slice vo n c) n n xs news (.returned v') w':=by
  intro v' w' ho hg hm
  obtain ⟨vo',vc',rfl⟩:=own_form ho
  refine ⟨vo',vc',rfl,?_,hg,hm⟩
  have hxl:=hown.1
  unfold insC
  rw [List.take_of_length_le (by omega),List.drop_of_length_le (by omega),List.append_nil]
  exact ho
 have HP:=Lib.hid hpost
 have HO:=Lib.hid hown
 have HV:Hid (∀ a,some (⟨vb,0,none⟩:Addr)=some a->∀ (j:Nat) (u:Value),news[j]?=some u->w.cell? (a.add j)=some u):=Lib.hid (fun a e j u hj=>by
  cases e
  rw [Addr.add_lit]
  simp [World.cell?,hvb];simpa using hj)
 have hcap:c<=9223372036854775807/\n<=c:=by
  rcases hown.2 with ⟨h,h0⟩|⟨g,cap,cur,h,-,-,h2,h3,-⟩
  ·cases h;omega
  ·cases h;unfold maxLen at h3;omega
 have z1:((1:Int)==0)=false:=by decide
 have z2:((n:Int)==(n:Int))=true:=by simp
 have b1:(0:Int)<=(n:Int):=by omega
 have b2:(n:Int)<=(n:Int):=by omega
 have b3:(n:Int)<=(c:Int):=by omega
 obtain ⟨hc1,hc2⟩:=hcap
 have HN:=Lib.hid hnl
 have HB:=Lib.hid hb
 have HH1:=Lib.hid h1
 clear hpost hown hvb hnl hb h1
 obtain ⟨vx,hvx⟩:∃ vx,vx=Value.slice vo n c:=⟨_,rfl⟩
 go_enter Tryz.func82,Tryz.ntmps82
 cases vo with
 | none =>
   go_wp2_with (at_builtin;refine Gx.wpList_append_all w rfl _ _ 24 rfl base 44 _ 7 104 Tryz.underlying24 Tryz.info_ent rfl (by decide) (.slice none n c) n xs (some ⟨vb,0,none⟩) 1 1 news rfl rfl HO.out (by rw [HN.out]) (fun e=>by simp at e) HV.out HH1.out (by omega) (by omega) HB.out ?_;intro v' w' ho' hg' hm')
   all_goals
    try go_ret
    exact HP.out _ _ ho' hg' hm'
 | some a =>
   go_wp2_with (at_builtin;refine Gx.wpList_append_all w rfl _ _ 24 rfl base 44 _ 7 104 Tryz.underlying24 Tryz.info_ent rfl (by decide) (.slice (some a) n c) n xs (some ⟨vb,0,none⟩) 1 1 news rfl rfl HO.out (by rw [HN.out]) (fun e=>by simp at e) HV.out HH1.out (by omega) (by omega) HB.out ?_;intro v' w' ho' hg' hm')
   all_goals
    try go_ret
    exact HP.out _ _ ho' hg' hm'
theorem insert_any (w:World) (base n i vb c:Nat) (vo:Option Addr) (xs news:List Value) (hb:base<=w.heap.size) (hown:w.ownsRow base 44 7 (.slice vo n c) n xs) (hi:i<=n) (hn:n<=1000000)
 (hnl:news.length=7) (h1:∀ u∈news,u.oneCell'=true) (hx1:∀ u∈xs,u.oneCell'=true) (hvb:w.heap[vb]?=some (.cells news.toArray 44)) (hne:(Value.slice vo n c).ownBlock≠some vb) :
 Calls Tryz.prog 82 #[.slice vo n c,.int .i64 i,.slice (some ⟨vb,0,none⟩) 1 1] w (InsPost w base (.slice vo n c) n i xs news):=by
 by_cases hin:i=n
 ·subst hin
  exact insert_end w base i vb c vo xs news hb hown hn hnl h1 hvb
 ·rcases hown.2 with ⟨-,h0⟩|⟨g,cap,cur,h,hbg,hg,h2,h3,h4,h5⟩
  ·omega
  ·cases h
   by_cases hroom:n+1<=c
   ·exact insert_room w base g n c i vb cur xs news hbg hg h4 h3 h5 (by omega) hn hroom hnl h1 hx1 hvb (fun e=>hne (by rw [e];rfl))
   ·exact insert_grow w base g n c i vb cur xs news hb hbg hg h4 h2 h3 h5 (by omega) hn (by omega) hnl h1 hx1 hvb
theorem Acc.ins {w w':World} {vb i:Nat} {v v':Value} {ps:List (ByteArray×Loc)} {p:ByteArray×Loc} (h:Acc w vb true 44 v ps) (hp:VAt w (fun b=>vb<b/\v.ownBlock≠some b) p.2) (hk:p.1.size<=140737488351232)
 (hi:i<=ps.length) (ho:w'.ownsRow (vb+1) 44 7 v' (ps.length+1) (insC (ps.flatMap (cellsT true)) (cellsT true p) i)) (hg:w.grownBy w' v.ownBlock) (hm:Moved v v' w.heap.size):Acc w' vb true 44 v' (ps.take i++p::ps.drop i):=by
 have hfl:∀ (l:List (ByteArray×Loc)) (k:Nat),k<=l.length->(l.flatMap (cellsT true)).take (k * 7)=(l.take k).flatMap (cellsT true)/\(l.flatMap (cellsT true)).drop (k * 7)=(l.drop k).flatMap (cellsT true):=by
  intro l k hk
  have e:l.flatMap (cellsT true)=(l.take k).flatMap (cellsT true)++(l.drop k).flatMap (cellsT true):=by rw [<-List.flatMap_append,List.take_append_drop]
  have hl:∀ m:List (ByteArray×Loc),(m.flatMap (cellsT true)).length=m.length * 7:=by
   intro m
   induction m with
   | nil=>rfl
   | cons a m ih=>rw [List.flatMap_cons,List.length_append,ih,cellsT_len,List.length_cons];simp [st];omega
  have h2:((l.take k).flatMap (cellsT true)).length=k * 7:=by rw [hl,List.length_take,Nat.min_eq_left hk]
  rw [e]
  exact ⟨List.take_left' h2,List.drop_left' h2⟩
 have hmem:∀ x,x∈ps.take i++p::ps.drop i->x=p\/x∈ps:=fun x hx=>by
  rcases List.mem_append.1 hx with hx|hx
  ·exact .inr (List.mem_of_mem_take hx)
  ·rcases List.mem_cons.1 hx with hx|hx
   ·exact .inl hx
   ·exact .inr (List.mem_of_mem_drop hx)
 refine ⟨?_,fun x hx=>?_,fun x hx=>?_⟩
 ·have hl:(ps.take i++p::ps.drop i).length=ps.length+1:=by rw [List.length_append,List.length_cons,List.length_take,List.length_drop];omega
  rw [hl,List.flatMap_append,List.flatMap_cons]
  unfold insC at ho
  rw [(hfl ps i hi).1,(hfl ps i hi).2] at ho
  exact ho
 ·have hx':VAt w (fun b=>vb<b/\v.ownBlock≠some b) x.2:=by
   rcases hmem x hx with rfl|hx
   ·exact hp
   ·exact h.at_ x hx
  refine hx'.through hg.size (fun b hb hl=>hg.block b hl (fun e=>hb.2 e.symm)) (fun b hb hl=>⟨hb.1,fun e=>?_⟩)
  rcases hm with hm|⟨g,hm,hgl⟩
  ·exact hb.2 (by rw [<-hm];exact e)
  ·rw [hm] at e;have:g=b:=Option.some.inj e;omega
 ·rcases hmem x hx with rfl|hx
  ·exact hk
  ·exact h.key x hx
set_option maxRecDepth 100000
def InsAcc (w:World) (vb m:Nat) (ps:List (ByteArray×Loc)) (e:Ending) (w':World):Prop:=∃ ao c,e=.returned (.slice ao (m+1) c)/\Acc w' vb true 44 (.slice ao (m+1) c) ps/\Below (vb+1) w w'
theorem put_ins (w:World) (vb m i c:Nat) (vo:Option Addr) (ps:List (ByteArray×Loc)) (s:ByteArray) (p:Loc) (ha:Acc w vb true 44 (.slice vo m c) ps) (hps:ps.length=m) (hp:VAt w (fun b=>vb<b/\(Value.slice vo m c).ownBlock≠some b) p) (hk:s.size<=140737488351232) (hi:i<=m) (hm:m<=1000000) (hv:vb<w.heap.size) :
 Calls Tryz.prog 82 #[.slice vo m c,.int .i64 i,.slice (some ⟨w.heap.size,0,none⟩) 1 1] (w.alloc (.cells #[.string s,.int .i64 p.v.k,.int .i64 p.v.n,.int .u64 p.v.f,.string p.v.s,.slice p.ad p.v.l.length p.cap,.slice p.bd p.v.e.length p.dap] 44))
  (InsAcc (w.alloc (.cells #[.string s,.int .i64 p.v.k,.int .i64 p.v.n,.int .u64 p.v.f,.string p.v.s,.slice p.ad p.v.l.length p.cap,.slice p.bd p.v.e.length p.dap] 44)) vb m (ps.take i++(s,p)::ps.drop i)):=by
 have hba:=(Below.refl w.heap.size w).alloc (Nat.le_refl _) (.cells #[.string s,.int .i64 p.v.k,.int .i64 p.v.n,.int .u64 p.v.f,.string p.v.s,.slice p.ad p.v.l.length p.cap,.slice p.bd p.v.e.length p.dap] 44)
 have ha2:=ha.grow (grown_none hba) (fun _ e=>absurd e (by simp))
 have hp2:=hp.keep hba
 have hnew:=heap_alloc_new w (.cells #[.string s,.int .i64 p.v.k,.int .i64 p.v.n,.int .u64 p.v.f,.string p.v.s,.slice p.ad p.v.l.length p.cap,.slice p.bd p.v.e.length p.dap] 44)
 have hsz:=hba.size
 generalize hw:w.alloc _=w1 at *
 have hone:∀ u∈ps.flatMap (cellsT true),u.oneCell'=true:=fun u hu=>by
  obtain ⟨x,-,hx⟩:=List.mem_flatMap.1 hu
  exact cellsT_one true x u hx
 refine (insert_any w1 (vb+1) m i w.heap.size c vo (ps.flatMap (cellsT true)) (cellsT true (s,p)) (by omega) (by have:=ha2.own;rw [hps] at this;exact this) hi hm rfl (cellsT_one true (s,p)) hone hnew (fun e=>by have:=(ha.own.lt _ e).2;omega)).mono ?_
 rintro e w' ⟨vo',vc',rfl,ho,hg,hmv⟩
 refine ⟨vo',vc',rfl,ha2.ins hp2 hk (by omega) (by rw [hps];exact ho) hg hmv,(Below.refl _ _).grown hg (by omega) (fun b e=>by have:=ha2.above b e;omega)⟩
def PutPost (w:World) (xs:List (ByteArray×V)) (e:Ending) (w':World):Prop :=
 ∃ vo vc m,e=.returned (.slice vo m vc)/\xs.length=m/\RowAt w' (fun b=>w.heap.size<=b) true xs (.slice vo m vc)/\Below w.heap.size w w'
theorem drop_le (s:ByteArray) (l:List (ByteArray×V)):(dropL l s).length<=l.length:=List.length_filter_le _ _
set_option maxHeartbeats 8000000 in
theorem put_any (bd:Option Addr) (dap n:Nat) (l:List (ByteArray×V)) (s:ByteArray) (q:Loc) (w:World) (h:RowAt w (fun _=>True) true l (.slice bd n dap)) (hn:l.length=n) (hl:n<=900000) (hq:VAt w (fun _=>True) q) (hk:s.size<=140737488351232) :
 Calls Tryz.prog 48 #[.slice bd n dap,.string s,q.val] w (PutPost w (putL l s q.v)):=by
 unfold Loc.val
 have hb0:=((Below.refl w.heap.size w).alloc (Nat.le_refl _) (.cells #[.string s] 9)).alloc (by simp) (.cells #[.int .i64 q.v.k,.int .i64 q.v.n,.int .u64 q.v.f,.string q.v.s,.slice q.ad q.v.l.length q.cap,.slice q.bd q.v.e.length q.dap] 26)
 have hs0:((w.alloc (.cells #[.string s] 9)).alloc (.cells #[.int .i64 q.v.k,.int .i64 q.v.n,.int .u64 q.v.f,.string q.v.s,.slice q.ad q.v.l.length q.cap,.slice q.bd q.v.e.length q.dap] 26)).heap[w.heap.size]?=some (.cells #[.string s] 9):=(alloc_old_gx _ _ (by simp)).trans (heap_alloc_new w _)
 have hv0:=heap_alloc_new (w.alloc (.cells #[.string s] 9)) (.cells #[.int .i64 q.v.k,.int .i64 q.v.n,.int .u64 q.v.f,.string q.v.s,.slice q.ad q.v.l.length q.cap,.slice q.bd q.v.e.length q.dap] 26)
 have hsz:((w.alloc (.cells #[.string s] 9)).alloc (.cells #[.int .i64 q.v.k,.int .i64 q.v.n,.int .u64 q.v.f,.string q.v.s,.slice q.ad q.v.l.length q.cap,.slice q.bd q.v.e.length q.dap] 26)).heap.size=w.heap.size+1+1:=by simp
 have hrow0:=h.keep hb0
 have hq0:=hq.keep hb0
 rw [World.size_alloc] at hv0
 clear h hq
 go_enter Tryz.func48,Tryz.ntmps48
 go_upto_region 1 with fail
 generalize hw2:World.alloc (World.alloc w _) _=w2 at hb0 hs0 hv0 hsz hrow0 hq0 ⊢
 clear hw2
 have hcs:w2.cell? ⟨w.heap.size,0,none⟩=some (.string s):=by simp [World.cell?,hs0]
 have HV0:=Lib.hid hv0
 have HS0:=Lib.hid hs0
 have HQ0:=Lib.hid hq0
 have HB0:=Lib.hid hb0
 have HD:=Lib.hid (drop_any bd dap n l s w2 (w.heap.size+1) hsz hrow0 hn (by omega))
 have HSZ:=Lib.hid hsz
 have hdl:=drop_le s l
 rw [hn] at hdl
 clear hv0 hs0 hq0 hb0 hrow0 hsz hn
 go_wp2_with fail
 (with_reducible refine HD.out.mono ?_)
 rintro e w3 ⟨vo,vc,m,ps,rfl,hm,ha,hps,hb3⟩
 have hml:(dropL l s).length=m:=by rw [<-hps,List.length_map,hm]
 have hgi:=gidx_le s (dropL l s)
 have hcs3:=(hb3.cell (p:=⟨w.heap.size,0,none⟩) (by have:=HSZ.out;show w.heap.size<_;omega)).trans hcs
 have hrow:RowAt w3 (fun _=>True) true (dropL l s) (.slice vo (dropL l s).length vc):=by
  rw [hml]
  exact (ha.row (by rw [hm];simp [st];omega) hps.symm).weak (fun _ _ _=>trivial)
 have hix:=indexPut_any vo vc (dropL l s) w.heap.size s w3 hrow hcs3
 rw [hml] at hix hgi hdl
 have HPL:Hid (putL l s q.v=(dropL l s).take (gidx s (dropL l s))++(s,q.v)::(dropL l s).drop (gidx s (dropL l s))):=Lib.hid rfl
 obtain ⟨I,hI⟩:∃ I,gidx s (dropL l s)=I:=⟨_,rfl⟩
 rw [hI] at hix hgi HPL
 have HIX:=Lib.hid hix
 have HPS:=Lib.hid hps
 have HA3:=Lib.hid ha
 have HB3:=Lib.hid hb3
 have HM:=Lib.hid hm
 clear hix hps ha hb3 hm hml hrow hI HD hcs
 go_wp2_with fail
 (with_reducible refine HIX.out.mono ?_)
 rintro e w4 ⟨rfl,hb4⟩
 have hs3:=HSZ.out
 have hsb3:=HB3.out.size
 have hsb4:=hb4.size
 have hb34:=HB3.out.trans (hb4.mono hsb3)
 have hcs4:=(hb4.cell (p:=⟨w.heap.size,0,none⟩) (by show w.heap.size<_;omega)).trans hcs3
 have hv4:=(hb34.block (w.heap.size+1) (by omega)).trans HV0.out
 obtain ⟨e0,e1,e2,e3,e4,e5,-⟩:=six_cells hv4
 have HAd:Hid (Acc w4.drew (w.heap.size+1) true 44 (.slice vo m vc) ps):=Lib.hid ((HA3.out.grow (grown_none hb4) (fun _ e=>absurd e (by simp))).grow (r:=none) ⟨rfl,rfl,rfl,Nat.le_refl _,fun _ _ _=>rfl⟩ (fun _ e=>absurd e (by simp)))
 have HBd:Hid (Below w.heap.size w w4.drew):=Lib.hid ((HB0.out.trans (hb34.mono HB0.out.size)).trans (Gx.drewN_below w4 1 _))
 have hih:=own_any' q w4.drew ((HQ0.out.keep hb34).keep (Gx.drewN_below w4 1 _))
 simp only [Loc.val] at hih
 have HCd:=Lib.hid hih
 have HE0:Hid (w4.drew.cell? ⟨w.heap.size,0,none⟩=some (.string s)):=Lib.hid hcs4
 have HXL:Hid (w.heap.size<w4.drew.heap.size):=Lib.hid (show w.heap.size<w4.heap.size by omega)
 have HVL:Hid (w.heap.size+1<w4.drew.heap.size):=Lib.hid (show w.heap.size+1<w4.heap.size by omega)
 clear hb4 hb34 hih hcs3 HV0 HS0 HQ0 HB0 HB3 HA3 HIX hs3 hsb3 hsb4 hv4
 have hfin:∀ (p:Loc) ao c w6,p.v=q.v->Acc w6 (w.heap.size+1) true 44 (.slice ao (m+1) c) (ps.take I++(s,p)::ps.drop I)->Below w.heap.size w w6->PutPost w (putL l s q.v) (.returned (.slice ao (m+1) c)) w6:=by
  intro p ao c w6 hpv ha hb
  have hlen:(ps.take I++(s,p)::ps.drop I).length=m+1:=by rw [List.length_append,List.length_cons,List.length_take,List.length_drop,HM.out];omega
  have hmap:putL l s q.v=(ps.take I++(s,p)::ps.drop I).map fun p=>(p.1,p.2.v):=by
   rw [HPL.out,<-HPS.out,List.map_append,List.map_cons,List.map_take,List.map_drop,hpv]
  refine ⟨ao,c,m+1,rfl,by rw [hmap,List.length_map,hlen],?_,hb⟩
  exact (ha.row (by rw [hlen];simp [st];omega) hmap).weak (fun b hb _=>by omega)
 have HFIN:=Lib.hid hfin
 clear hfin
 by_cases hIm:I<m
 ·rw [if_pos hIm]
  have t1:decide ((I:Int)<0)=false:=decide_eq_false (by omega)
  go_wp2_with fail
  go_region_law (first
   | (go_simp;(with_reducible refine HCd.out.mono ?_);rintro e w5 ⟨p,rfl,hpv,hp,hb5⟩;have k5e:=(hb5.cell (p:=⟨w.heap.size,0,none⟩) HXL.out).trans HE0.out;have HV5:=Lib.hid (Nat.lt_of_lt_of_le HVL.out hb5.size);have HB5:=Lib.hid (HBd.out.trans (hb5.mono HBd.out.size));have HPV:=Lib.hid hpv;have HIN:=Lib.hid (put_ins w5 (w.heap.size+1) m I vc vo ps s p (HAd.out.grow (grown_none hb5) (fun _ e=>absurd e (by simp))) HM.out (HAd.out.fresh HVL.out hp) hk hgi (by omega) HV5.out);clear hp hb5 hpv;simp only [Loc.val])
   | (go_simp;(with_reducible refine HIN.out.mono ?_);rintro e w6 ⟨ao,c,rfl,ha6,hb6⟩;have HR:=Lib.hid (HFIN.out p ao c w6 HPV.out ha6 ((HB5.out.alloc HB5.out.size _).trans (hb6.mono (by omega))));clear ha6 hb6))
  all_goals
   go_wp2_with fail
   try go_ret
   exact HR.out
 ·rw [if_neg hIm]
  have t1:decide ((-1:Int)<0)=true:=by decide
  obtain rfl:I=m:=by omega
  clear hIm
  go_wp2_with fail
  go_region_law (first
   | (go_simp;(with_reducible refine HCd.out.mono ?_);rintro e w5 ⟨p,rfl,hpv,hp,hb5⟩;have k5e:=(hb5.cell (p:=⟨w.heap.size,0,none⟩) HXL.out).trans HE0.out;have HV5:=Lib.hid (Nat.lt_of_lt_of_le HVL.out hb5.size);have HB5:=Lib.hid (HBd.out.trans (hb5.mono HBd.out.size));have HPV:=Lib.hid hpv;have HIN:=Lib.hid (put_ins w5 (w.heap.size+1) I I vc vo ps s p (HAd.out.grow (grown_none hb5) (fun _ e=>absurd e (by simp))) HM.out (HAd.out.fresh HVL.out hp) hk hgi (by omega) HV5.out);clear hp hb5 hpv;simp only [Loc.val])
   | (go_simp;(with_reducible refine HIN.out.mono ?_);rintro e w6 ⟨ao,c,rfl,ha6,hb6⟩;have HR:=Lib.hid (HFIN.out p ao c w6 HPV.out ha6 ((HB5.out.alloc HB5.out.size _).trans (hb6.mono (by omega))));clear ha6 hb6))
  all_goals
   go_wp2_with fail
   try go_ret
   exact HR.out
set_option maxRecDepth 100000
def thrown (a c:Int):Ending:=.panicked [{ v:=.iface 57 (.agg #[.int .i64 a,.int .i64 c]),recovered:=false }]
def SaidPost (a:Int) (l:List UInt8) (w:World) (e:Ending) (w':World):Prop:=Below w.heap.size w w' /\
 ((∃ t:ByteArray,saidOf l=some t/\t.size<=4 * l.length/\e=.returned (.string t))\/(saidOf l=none/\∃ c:Int,c≠0/\e=thrown a c))
theorem encs_len:∀ rs:List Int,(encs rs).length<=4 * rs.length
 | []=>Nat.le_refl _
 | r::rs=>by
   have h1:=(enc_len r).2
   have h2:=encs_len rs
   rw [encs_cons,List.length_append,List.length_cons]
   omega
theorem unqF_len:∀ (f:Nat) (l:List UInt8) (p:List Int×Nat),unqF f l=some p->p.1.length<=f
 | 0,l,p,h=>by cases l<;>simp [unqF] at h
 | f+1,[],p,h=>by simp [unqF] at h
 | f+1,b::t,p,h=>by
   have hm:∀ (r:Int) (n:Nat) (x:Option (List Int×Nat)),(∀ q,x=some q->q.1.length<=f)->more r n x=some p->p.1.length<=f+1:=by
    intro r n x hx hp
    unfold more at hp
    obtain ⟨q,hq,rfl⟩:=Option.map_eq_some_iff.1 hp
    have:=hx q hq
    simp;omega
   rw [unqF] at h
   split at h
   ·rw [<-Option.some.inj h];simp
   ·split at h
    ·cases h
    ·split at h
     ·split at h
      ·cases h
      ·exact hm _ _ _ (fun q hq=>unqF_len f _ q hq) h
     ·split at h
      ·cases h
      ·exact hm _ _ _ (fun q hq=>unqF_len f _ q hq) h
theorem unq_len {l:List UInt8} {p:List Int×Nat} (h:unquote l=some p):p.1.length<=l.length:=by
 unfold unquote at h
 split at h
 ·obtain ⟨q,hq,rfl⟩:=Option.map_eq_some_iff.1 h
  exact unqF_len _ _ q hq
 ·cases h
set_option maxHeartbeats 2000000 in
theorem said_any (s:ByteArray) (a:Int) (w:World) (hT:ETabs w) (hs:s.size<=140737488351232):Calls Tryz.prog 76 #[.string s,.int .i64 a] w (SaidPost a s.data.toList w):=by
 have HU:=Lib.hid (unquote_any s w hT hs)
 unfold UnqPost at HU
 clear hT hs
 go_enter Tryz.func76,Tryz.ntmps76
 go_wp2_with fail
 (with_reducible refine HU.out.mono ?_)
 rintro e w1 (⟨rs,n,hu,rfl,hb⟩|⟨hu,c,hc,rfl,hb⟩)
 ·have HR:Hid (SaidPost a s.data.toList w (.returned (.string ⟨(encs rs).toArray⟩)) w1):=Lib.hid ⟨hb,.inl ⟨⟨(encs rs).toArray⟩,by unfold saidOf;rw [hu];rfl,by
   have h1:=unq_len hu
   have h2:=encs_len rs
   simp only at h1
   show (encs rs).toArray.size<=_
   rw [List.size_toArray];omega,rfl⟩⟩
  clear hu hb HU
  go_wp2_with fail
  try go_ret
  exact HR.out
 ·have HR:Hid (SaidPost a s.data.toList w (thrown a c) w1):=Lib.hid ⟨hb,.inr ⟨by unfold saidOf;rw [hu];rfl,c,hc,rfl⟩⟩
  have t1:(c != 0)=true:=by simpa using hc
  clear hu hb HU hc
  go_wp2_with fail
  exact ⟨rfl,HR.out⟩
structure MS (w:World) (R:Nat) (ta:Option Addr) (tc:Nat) (S:ByteArray) (X:TS):Prop where
 obj:w.heap[R]?=some (.cells #[.string S,.slice ta X.T.length tc] 61)
 tok:TokAt w ta X.T
 str:S.data.toList=X.l
theorem MS.keep {w w':World} {R:Nat} {ta:Option Addr} {tc:Nat} {S:ByteArray} {X:TS} (h:MS w R ta tc S X) (hb:Below w.heap.size w w'):MS w' R ta tc S X :=
 ⟨(hb.block R (Array.getElem?_eq_some_iff.1 h.obj).1).trans h.obj,h.tok.keep hb,h.str⟩
theorem MS.tok3 {w:World} {R:Nat} {ta:Option Addr} {tc:Nat} {S:ByteArray} {X:TS} (h:MS w R ta tc S X) (k:Nat) (hk:k<X.T.length):∃ b,ta=some ⟨b,0,none⟩/\b<w.heap.size /\
 w.cell? ⟨b,k * 3,none⟩=some (.int .i64 (X.kind k))/\w.cell? ⟨b,k * 3+1,none⟩=some (.int .i64 (X.pos k))/\w.cell? ⟨b,k * 3+2,none⟩=some (.int .i64 (X.end_ k)):=by
 obtain ⟨b,h1,h2,h3⟩:=h.tok.resolve_left (by rintro e;rw [e] at hk;simp at hk)
 obtain ⟨g1,g2,g3⟩:=tokCells_get X.T k hk
 have e1:X.kind k=(X.T[k]).1:=by unfold TS.kind;rw [List.getElem?_eq_getElem hk]
 have e2:X.pos k=(X.T[k]).2.1:=by unfold TS.pos;rw [List.getElem?_eq_getElem hk]
 have e3:X.end_ k=(X.T[k]).2.2:=by unfold TS.end_;rw [List.getElem?_eq_getElem hk]
 exact ⟨b,h1,h2,by rw [e1];exact h3 _ _ g1,by rw [e2];exact h3 _ _ g2,by rw [e3];exact h3 _ _ g3⟩
theorem three_all {W:World} {b:Nat} {ty:TypeId} {a0 a1 a2:Value} (h:W.heap[b]?=some (.cells #[a0,a1,a2] ty)) (u0 u1 u2:Value) :
 ∃ W9,W9=(((W.setCell ⟨b,0,none⟩ u0).setCell ⟨b,1,none⟩ u1).setCell ⟨b,2,none⟩ u2).drew/\W9.heap[b]?=some (.cells #[u0,u1,u2] ty)/\∀ B w,Below B w W->B<=b->Below B w W9:=by
 refine ⟨_,rfl,?_,fun B w hw hB=>?_⟩
 ·show (((W.setCell ⟨b,0,none⟩ u0).setCell ⟨b,1,none⟩ u1).setCell ⟨b,2,none⟩ u2).heap[b]?=_
  simp [World.setCell,Array.getElem?_modify,h]
 ·have hb:b<W.heap.size:=(Array.getElem?_eq_some_iff.1 h).1
  have g:=fun (W:World) j u (hw:Below B w W) (hs:B<=W.heap.size)=>hw.grown (grown_cell W b j u) hs (fun k e=>by have:=Option.some.inj e;omega)
  refine Below.trans (g _ 2 u2 (g _ 1 u1 (g W 0 u0 hw (by omega)) ?_) ?_) (Gx.drewN_below _ 1 _)
  ·simp [World.setCell];omega
  ·simp [World.setCell];omega
def InX (X:TS):Prop:=∀ k,k<X.T.length->X.pos k<=X.end_ k/\X.end_ k<=X.l.length
def TokPost (X:TS) (k:Nat) (w:World) (e:Ending) (w':World):Prop:=Below w.heap.size w w'/\∃ t:ByteArray,t.data.toList=X.bytes k/\e=.returned (.tuple #[.string t,.agg #[.int .i64 (X.kind k),.int .i64 (X.pos k),.int .i64 (X.end_ k)]])
set_option maxHeartbeats 4000000 in
theorem token_any (R:Nat) (ta:Option Addr) (tc:Nat) (S:ByteArray) (X:TS) (hX:InX X) (n:Nd) (so:Option Addr) (sn sc:Nat) (w:World) (h:MS w R ta tc S X) (ha:n.a<X.T.length) (hl:X.l.length<=20000) (hT:X.T.length<=20000) :
 Calls Tryz.prog 75 #[.pointer (some ⟨R,0,none⟩),.agg #[.int .i64 n.k,.int .i64 n.a,.int .i64 n.b,.slice so sn sc]] w (TokPost X n.a w):=by
 obtain ⟨a,hna⟩:∃ a,n.a=a:=⟨_,rfl⟩
 rw [hna] at ha ⊢
 obtain ⟨b,rfl,hbl,d0,d1,d2⟩:=h.tok3 a ha
 obtain ⟨i1,i2⟩:=hX a ha
 have hSz:S.size=X.l.length:=by rw [Lib.size_eq,h.str]
 have HST:Hid (∀ p e:Nat,p<=e->(S.extract p e).data.toList=(X.l.drop p).take (e - p)):=Lib.hid (fun p e hpe=>by
  rw [<-h.str];simp [ByteArray.data_extract,List.drop_take])
 have hob:=h.obj
 have hRl:=(Array.getElem?_eq_some_iff.1 hob).1
 have r0:(0:Int)<=(a:Int):=by omega
 have r1:(a:Int)<(X.T.length:Int):=by omega
 have r2:(a:Int).toNat=a:=rfl
 obtain ⟨K,hK⟩:∃ K,X.kind a=K:=⟨_,rfl⟩
 obtain ⟨p,hp⟩:∃ p,X.pos a=p:=⟨_,rfl⟩
 obtain ⟨e,he⟩:∃ e,X.end_ a=e:=⟨_,rfl⟩
 obtain ⟨N,hN⟩:∃ N,X.T.length=N:=⟨_,rfl⟩
 have HPOST:Hid (∀ w' (t:ByteArray),Below w.heap.size w w'->t.data.toList=(X.l.drop p).take (e - p)->TokPost X a w (.returned (.tuple #[.string t,.agg #[.int .i64 K,.int .i64 p,.int .i64 e]])) w'):=Lib.hid (fun w' t hb ht=>⟨hb,t,by unfold TS.bytes;rw [hp,he];exact ht,by rw [hK,hp,he]⟩)
 rw [hK] at d0
 rw [hp] at d1 i1
 rw [he] at d2 i1 i2
 rw [hN] at r1 hob
 have q0:w.cell? ⟨R,0,none⟩=some (.string S):=by simp [World.cell?,hob]
 have q1:w.cell? ⟨R,1,none⟩=some (.slice (some ⟨b,0,none⟩) N tc):=by simp [World.cell?,hob]
 have b0:(0:Int)<=(p:Int):=by omega
 have b1:(p:Int)<=(e:Int):=by omega
 have b2:(e:Int)<=(S.size:Int):=by omega
 clear hK hp he hN hob h hX hna ha
 go_enter Tryz.func75,Tryz.ntmps75
 go_upto_region 1 with fail
 obtain ⟨w1,hw1⟩:∃ w1,w1=(w.alloc (.cells #[.int .i64 n.k,.int .i64 a,.int .i64 n.b,.slice so sn sc] 53)).alloc (.cells #[.int .i64 0,.int .i64 0,.int .i64 0] 40):=⟨_,rfl⟩
 have hb1:Below w.heap.size w w1:=by rw [hw1];exact ((Below.refl w.heap.size w).alloc (Nat.le_refl _) _).alloc (by simp) _
 have hsz:w1.heap.size=w.heap.size+1+1:=by rw [hw1];simp
 have hn1:w1.heap[w.heap.size]?=some (.cells #[.int .i64 n.k,.int .i64 a,.int .i64 n.b,.slice so sn sc] 53):=by rw [hw1];exact (alloc_old_gx _ _ (by simp)).trans (heap_alloc_new w _)
 have hr1:w1.heap[w.heap.size+1]?=some (.cells #[.int .i64 0,.int .i64 0,.int .i64 0] 40):=by
  have:=heap_alloc_new (w.alloc (.cells #[.int .i64 n.k,.int .i64 a,.int .i64 n.b,.slice so sn sc] 53)) (.cells #[.int .i64 0,.int .i64 0,.int .i64 0] 40)
  rw [World.size_alloc] at this
  rw [hw1];exact this
 rw [<-hw1]
 have na:w1.cell? ⟨w.heap.size,1,none⟩=some (.int .i64 a):=by simp [World.cell?,hn1]
 have q0':=(hb1.cell (p:=⟨R,0,none⟩) hRl).trans q0
 have q1':=(hb1.cell (p:=⟨R,1,none⟩) hRl).trans q1
 have d0':=(hb1.cell (p:=⟨b,a * 3,none⟩) hbl).trans d0
 have d1':=(hb1.cell (p:=⟨b,a * 3+1,none⟩) hbl).trans d1
 have d2':=(hb1.cell (p:=⟨b,a * 3+2,none⟩) hbl).trans d2
 clear hw1 q0 q1 d0 d1 d2
 go_region_held3 (fun w'=>w'.cell? ⟨R,1,none⟩=some (.slice (some ⟨b,0,none⟩) N tc)/\w'.cell? ⟨w.heap.size,1,none⟩=some (.int .i64 a)/\w'.cell? ⟨b,a * 3,none⟩=some (.int .i64 K)/\w'.cell? ⟨b,a * 3+1,none⟩=some (.int .i64 p)/\w'.cell? ⟨b,a * 3+2,none⟩=some (.int .i64 e)) (first|exact ⟨q1',na,d0',d1',d2'⟩|go_keep) (fail)
 have HBX:Hid (Below w.heap.size w (w1.alloc (.cells #[.int .i64 K,.int .i64 p,.int .i64 e] 40)).drew):=Lib.hid ((hb1.alloc hb1.size _).trans (Gx.drewN_below _ 1 _))
 have hx1:(w1.alloc (.cells #[.int .i64 K,.int .i64 p,.int .i64 e] 40)).drew.heap[w.heap.size+1+1]?=some (.cells #[.int .i64 K,.int .i64 p,.int .i64 e] 40):=by rw [<-hsz];exact heap_alloc_new w1 _
 have hx2:(w1.alloc (.cells #[.int .i64 K,.int .i64 p,.int .i64 e] 40)).drew.heap[w.heap.size+1]?=some (.cells #[.int .i64 0,.int .i64 0,.int .i64 0] 40):=(alloc_old_gx w1 _ (by omega)).trans hr1
 have hx3:(w1.alloc (.cells #[.int .i64 K,.int .i64 p,.int .i64 e] 40)).drew.cell? ⟨R,0,none⟩=some (.string S):=(World.cell?_alloc_past _ R 0 (by have:=hb1.size;omega)).trans q0'
 generalize (w1.alloc (.cells #[.int .i64 K,.int .i64 p,.int .i64 e] 40)).drew=w2 at HBX hx1 hx2 hx3 ⊢
 clear q0' q1' d0' d1' d2' na hn1 hr1 hb1 hsz
 have x0:w2.cell? ⟨w.heap.size+1+1,0,none⟩=some (.int .i64 K):=by simp [World.cell?,hx1]
 have x1:w2.cell? ⟨w.heap.size+1+1,1,none⟩=some (.int .i64 p):=by simp [World.cell?,hx1]
 have x2:w2.cell? ⟨w.heap.size+1+1,2,none⟩=some (.int .i64 e):=by simp [World.cell?,hx1]
 have y0:w2.cell? ⟨w.heap.size+1,0,none⟩=some (.int .i64 0):=by simp [World.cell?,hx2]
 have y1:w2.cell? ⟨w.heap.size+1,1,none⟩=some (.int .i64 0):=by simp [World.cell?,hx2]
 have y2:w2.cell? ⟨w.heap.size+1,2,none⟩=some (.int .i64 0):=by simp [World.cell?,hx2]
 have yf0:w2.frozen? ⟨w.heap.size+1,0,none⟩=false:=by simp [World.frozen?,hx2]
 have yf1:w2.frozen? ⟨w.heap.size+1,1,none⟩=false:=by simp [World.frozen?,hx2]
 have yf2:w2.frozen? ⟨w.heap.size+1,2,none⟩=false:=by simp [World.frozen?,hx2]
 have hne1:¬ R=w.heap.size+1:=by omega
 have hne2:¬ w.heap.size+1=R:=by omega
 clear hx1
 go_upto_region 2 with fail
 go_region_held3 (fun w'=>w'.cell? ⟨R,0,none⟩=some (.string S)/\w'.cell? ⟨w.heap.size+1+1,0,none⟩=some (.int .i64 K)/\w'.cell? ⟨w.heap.size+1+1,1,none⟩=some (.int .i64 p)/\w'.cell? ⟨w.heap.size+1+1,2,none⟩=some (.int .i64 e)) (first|exact ⟨hx3,x0,x1,x2⟩|go_keep) (fail)
 obtain ⟨W9,hW9,h9,hb9⟩:=three_all hx2 (.int .i64 K) (.int .i64 p) (.int .i64 e)
 rw [<-hW9]
 have HP9:=Lib.hid (HPOST.out W9 (S.extract p e) (hb9 _ _ HBX.out (by omega)) (HST.out p e i1))
 have z0:W9.cell? ⟨w.heap.size+1,0,none⟩=some (.int .i64 K):=by simp [World.cell?,h9]
 have z1:W9.cell? ⟨w.heap.size+1,1,none⟩=some (.int .i64 p):=by simp [World.cell?,h9]
 have z2:W9.cell? ⟨w.heap.size+1,2,none⟩=some (.int .i64 e):=by simp [World.cell?,h9]
 clear hW9 h9 hb9 hx2 hx3 x0 x1 x2 y0 y1 y2 yf0 yf1 yf2 HBX HPOST HST
 go_wp2_with fail
 exact bodyPost_ret (v:=.tuple #[.string (S.extract p e),.agg #[.int .i64 K,.int .i64 p,.int .i64 e]]) (by simp [results,Tryz.results75,go_sem,z0,z1,z2]) rfl HP9.out
set_option maxRecDepth 100000
structure QTabs (w:World):Prop where
 u:Tabs w
 n:NTabs w
theorem QTabs.keep {w w':World} (h:QTabs w) (hb:Below w.heap.size w w'):QTabs w':=⟨h.u.keep hb,h.n.keep hb⟩
def StrErr (x:List UInt8) (c:Int) (w:World) (e:Ending) (w':World):Prop:=e=.returned (.tuple #[.string ⟨x.toArray⟩,.int .i64 c])/\Below w.heap.size w w'
theorem quotes_snoc (a:List Int) (r:Int):quotes (a++[r])=quotes a++quoteR r:=by unfold quotes;rw [List.flatMap_append];simp
theorem encs_snoc (a:List Int) (r:Int):encs (a++[r])=encs a++Lib.encodeRune r:=by rw [encs_append];simp [encs]
def QI (B I:Nat) (s:ByteArray) (rs a b:List Int) (wr:World):Prop:=rs=a++b/\YtldhmfkojaekfaaGreatDoor.Bld B ([34]++quotes a) wr/\wr.heap[I]?=some (.stringIter s (encs a).length)
theorem QI.next {B I:Nat} {s:ByteArray} {rs a b:List Int} {r:Int} {wr w':World} (h:QI B I s rs a (r::b) wr) (hb:YtldhmfkojaekfaaGreatDoor.Bld B ([34]++quotes (a++[r])) w') (hi:w'.heap[I]?=some (.stringIter s (encs (a++[r])).length)):QI B I s rs (a++[r]) b w' :=
 ⟨by rw [h.1];simp,hb,hi⟩
set_option maxHeartbeats 16000000 in
theorem quote_yes (s:ByteArray) (rs:List Int) (w:World) (hT:QTabs w) (hs:s.size<=100000000) (hg:rs.all good=true) (hl:s.data.toList=encs rs):Calls Tryz.prog 94 #[.string s] w (StrErr (quoteOf rs) 0 w):=by
 have HB:=Lib.hid (bad_any s w hT.u (by omega))
 unfold BadPost at HB
 have HT:=Lib.hid hT
 have HOK:=Lib.hid (show okText s.data.toList from ⟨rs,hg,hl⟩)
 have hsz:s.size=(encs rs).length:=by rw [Lib.size_eq,hl]
 have HSZ:=Lib.hid hsz
 have HL:=Lib.hid hl
 have HG:=Lib.hid hg
 have hfin:∀ (S:ByteArray) w',S=⟨(quoteOf rs).toArray⟩->Below w.heap.size w w'->StrErr (quoteOf rs) 0 w (.returned (.tuple #[.string S,.int .i64 0])) w':=by
  rintro S w' rfl hb;exact ⟨rfl,hb⟩
 have HFIN:=Lib.hid hfin
 generalize StrErr (quoteOf rs) 0 w=POST at *
 clear hT hg hl hsz hfin
 go_enter Tryz.func94,Tryz.ntmps94
 go_wp2_with fail
 refine HB.out.mono ?_
 rintro e0 w1 ⟨i,rfl,hi,hb⟩
 have B1:=Lib.hid hb
 have h0:i<0:=hi.2 HOK.out
 have t0:decide (0<=i)=false:=decide_eq_false (by omega)
 have HFR:=Lib.hid (YtldhmfkojaekfaaGreatDoor.fresh w1)
 have hal:=(Below.refl w1.heap.size w1).alloc (Nat.le_refl _) (.cells #[.pointer none,.slice none 0 0] 74)
 have HW0:=Lib.hid (YtldhmfkojaekfaaGreatDoor.writeByte w1.heap.size [] 34 _ HFR.out (by decide) hal.size)
 unfold YtldhmfkojaekfaaGreatDoor.WrotePost at HW0
 rw [show ((34:UInt8).toNat:Nat)=34 from rfl] at HW0
 have BA:=Lib.hid hal
 clear hb hi hal
 go_wp2_with fail
 refine HW0.out.mono ?_
 rintro e0 w2 ⟨rfl,hB2,hb2,-⟩
 have hlt2:w1.heap.size<w2.heap.size:=Nat.lt_of_lt_of_le (show w1.heap.size<(w1.alloc (.cells #[.pointer none,.slice none 0 0] 74)).heap.size by simp) hb2.size
 have B2:=Lib.hid (B1.out.trans ((BA.out.trans hb2).mono B1.out.size))
 have hit0:=World.iter_heap w2 s 0
 have hbl0:=(Below.refl w2.heap.size w2).alloc (Nat.le_refl _) (.stringIter s 0)
 have HQ0:Hid (QI w1.heap.size w2.heap.size s rs [] rs (w2.alloc (.stringIter s 0))):=⟨rfl,Lib.IsBuilderF.alloc hB2 _,hit0⟩
 have B3:=Lib.hid (B2.out.trans (hbl0.mono B2.out.size))
 obtain ⟨I,hI⟩:∃ I,I=w2.heap.size:=⟨_,rfl⟩
 obtain ⟨B,hBB⟩:∃ B,B=w1.heap.size:=⟨_,rfl⟩
 have hBI:B<I:=by omega
 have hI0:I<(w2.alloc (.stringIter s 0)).heap.size:=by
  have:w2.heap.size<(w2.alloc (.stringIter s 0)).heap.size:=by simp
  omega
 have HI:=Lib.hid hI
 have HBB:=Lib.hid hBB
 have hwB:w.heap.size<=B:=by rw [hBB];exact B1.out.size
 clear hB2 hb2 hit0 hbl0 HFR HW0 hlt2 hI hBB
 go_wp2_with fail
 simp only [<-HI.out,<-HBB.out] at HQ0 ⊢
 go_loopw [] (fun wr=>∃ (a b:List Int),Hid (QI B I s rs a b wr)/\(encs a).length<=s.size/\Hid (Below w.heap.size w wr)/\I<wr.heap.size) (fun wr=>s.size - wr.iterPos I)
 case atStart=>exact ⟨[],rs,HQ0.out,Nat.zero_le _,B3.out,hI0⟩
 case round =>
  obtain ⟨a,b,hq,hps,hbw,hIw⟩:=hrel
  obtain ⟨q1,q2,hit⟩:=hq.out
  have QA:=Lib.hid q1
  have QB:=Lib.hid q2
  clear q1 q2
  obtain ⟨pos,hpos⟩:∃ pos,pos=(encs a).length:=⟨_,rfl⟩
  rw [<-hpos] at hit hps
  have HPOS:=Lib.hid hpos
  have hql:(quotes a).length<=6 * pos:=by
   rw [hpos]
   refine quotes_le a ?_
   have:=HG.out
   rw [QA.out,List.all_append,Bool.and_eq_true] at this
   exact this.1
  clear hpos
  by_cases hp:pos<s.size
  ·have hnx:∀ ty,(Instr.next (.pointer (some ⟨I,0,none⟩)) true ty).run Tryz.prog wr=_:=fun ty=>Lib.run_next_any_at wr I s pos ty hit hp
   have hdd:=Lib.decodeL_drop s pos
   have hrest:s.data.toList.drop pos=encs b:=by
    rw [HL.out,QA.out,encs_append,HPOS.out,List.drop_left]
   rw [hrest] at hdd
   rw [<-hdd] at hnx
   cases b with
   | nil =>
     exfalso
     have:=congrArg List.length hrest
     rw [List.length_drop,<-Lib.size_eq] at this
     simp [encs] at this
     omega
   | cons r b =>
     have hgr:good r=true:=by
      have:=HG.out
      rw [QA.out,List.all_append,List.all_cons,Bool.and_eq_true,Bool.and_eq_true] at this
      exact this.2.1
     have hgr2:=hgr
     rw [good_iff] at hgr2
     obtain ⟨R,rfl⟩:=Int.eq_ofNat_of_zero_le hgr2.1
     rw [encs_cons,decode_enc _ hgr] at hnx
     rw [Int.toNat_natCast] at hnx
     have hdl:=congrArg List.length hrest
     rw [List.length_drop,<-Lib.size_eq,encs_cons,List.length_append] at hdl
     obtain ⟨n,hn⟩:∃ n,n=(Lib.encodeRune (R:Int)).length:=⟨_,rfl⟩
     rw [<-hn] at hnx hdl
     have hen:1<=n/\n<=4:=by rw [hn];exact enc_len _
     obtain ⟨R0,R1,-⟩:=hgr2
     have hit2:=Lib.iterAt_heap wr I s pos (pos+n) hit
     have hIB:=Lib.IsBuilderF.iterAt QB.out hit (pos+n)
     have hbw2:=Lib.below_iterAt hbw.out (k:=I) (by omega) s (pos+n)
     have hsz2:I<(wr.iterAt I s (pos+n)).heap.size:=by rw [Lib.iterAt_size];exact hIw
     obtain ⟨wx,hwx⟩:∃ wx,wx=wr.iterAt I s (pos+n):=⟨_,rfl⟩
     rw [<-hwx] at hit2 hIB hbw2 hsz2
     have HWX:=Lib.hid hwx
     have XB:Hid (YtldhmfkojaekfaaGreatDoor.Bld B ([34]++quotes a) wx):=hIB
     have XI:=Lib.hid hit2
     have XW:=Lib.hid hbw2
     have HN:=Lib.hid hn
     have hpn:pos+n<=s.size:=by omega
     have HEL:Hid ((encs (a++[(R:Int)])).length=pos+n):=by
      show _=_
      rw [encs_snoc,List.length_append,<-HPOS.out,<-HN.out]
     have hfwd:∀ w',YtldhmfkojaekfaaGreatDoor.Bld B ([34]++quotes (a++[(R:Int)])) w'->w'.heap[I]?=some (.stringIter s (pos+n))->QI B I s rs (a++[(R:Int)]) b w' :=
      fun w' h1 h2=>hq.out.next h1 (by rw [HEL.out];exact h2)
     have HF:=Lib.hid hfwd
     have hmeas:∀ w':World,w'.heap[I]?=some (.stringIter s (pos+n))->s.size - w'.iterPos I<s.size - wr.iterPos I:=by
      intro w' h
      simp only [World.iterPos,h,hit]
      omega
     have HM:=Lib.hid hmeas
     have hl0:([34]++quotes a).length<=700000000:=by rw [List.length_append];simp;omega
     have hqs:=quotes_snoc a (R:Int)
     have hqr:quoteR (R:Int)=if (R:Int)=34\/(R:Int)=92 then 92::Lib.encodeRune (R:Int) else if (R:Int)=10 then [92,110] else if (R:Int)=9 then [92,116] else if (R:Int)=13 then [92,114] else if (R:Int)<32\/(R:Int)=127 then [92,117,123]++hexText R++[125] else Lib.encodeRune (R:Int):=rfl
     clear hdd hrest hdl hn hq hit hIB hbw2 hit2 hgr hfwd hmeas hbw QA HPOS QB hwx hps hp hql
     have ht34:((R:Int)==34)=decide (R=34):=by rw [Bool.eq_iff_iff,beq_iff_eq,decide_eq_true_eq];omega
     have ht92:((R:Int)==92)=decide (R=92):=by rw [Bool.eq_iff_iff,beq_iff_eq,decide_eq_true_eq];omega
     have ht10:((R:Int)==10)=decide (R=10):=by rw [Bool.eq_iff_iff,beq_iff_eq,decide_eq_true_eq];omega
     have ht9:((R:Int)==9)=decide (R=9):=by rw [Bool.eq_iff_iff,beq_iff_eq,decide_eq_true_eq];omega
     have ht13:((R:Int)==13)=decide (R=13):=by rw [Bool.eq_iff_iff,beq_iff_eq,decide_eq_true_eq];omega
     have ht127:((R:Int)==127)=decide (R=127):=by rw [Bool.eq_iff_iff,beq_iff_eq,decide_eq_true_eq];omega
     by_cases c34:R=34\/R=92
     ·rcases c34 with c|c
      ·have hqr:=hqr.trans (if_pos (show (R:Int)=34\/(R:Int)=92 by omega))
       simp only [c] at ht34 ht92
       have t34:((R:Int)==34)=true:=by rw [c];rfl
       have t92:((R:Int)==92)=false:=by rw [c];rfl
       clear ht34 ht92 ht10 ht9 ht13 ht127 c
       have HW0:=Lib.hid (YtldhmfkojaekfaaGreatDoor.writeByte B ([34]++quotes a) 92 wx XB.out (by simp only [List.length_append,List.length_cons,List.length_nil] at hl0 ⊢;omega) (by omega))
       unfold YtldhmfkojaekfaaGreatDoor.WrotePost at HW0
       go_wp2_with fail
       try rw [<-HWX.out]
       refine HW0.out.mono ?_
       rintro e0 y1 ⟨rfl,z1,z2,z3⟩
       have YB1:Hid (YtldhmfkojaekfaaGreatDoor.Bld B (([34]++quotes a)++[92]) y1):=z1
       have YI1:Hid (y1.heap[I]?=some (.stringIter s (pos+n))):=z3.iter XI.out (by omega)
       have YW1:=Lib.hid (Below.trans XW.out (z2.mono hwB))
       have hs1:I<y1.heap.size:=Nat.lt_of_lt_of_le hsz2 z2.size
       clear z1 z2 z3
       have HW1:=Lib.hid (YtldhmfkojaekfaaGreatDoor.writeRune B (([34]++quotes a)++[92]) (R:Int) (by omega) (by omega) y1 YB1.out (by simp only [List.length_append,List.length_cons,List.length_nil] at hl0 ⊢;omega) (by omega))
       unfold YtldhmfkojaekfaaGreatDoor.WrotePost at HW1
       go_wp2_with fail
       try rw [<-HWX.out]
       refine HW1.out.mono ?_
       rintro e0 y2 ⟨rfl,z1,z2,z3⟩
       have YB2:Hid (YtldhmfkojaekfaaGreatDoor.Bld B ((([34]++quotes a)++[92])++Lib.encodeRune (R:Int)) y2):=z1
       have YI2:Hid (y2.heap[I]?=some (.stringIter s (pos+n))):=z3.iter YI1.out (by omega)
       have YW2:=Lib.hid (Below.trans YW1.out (z2.mono hwB))
       have hs2:I<y2.heap.size:=Nat.lt_of_lt_of_le hs1 z2.size
       clear z1 z2 z3
       have ZB:Hid (YtldhmfkojaekfaaGreatDoor.Bld B ([34]++quotes (a++[(R:Int)])) y2):=by
        show YtldhmfkojaekfaaGreatDoor.Bld _ _ _
        rw [hqs,hqr]
        have:=YB2.out
        simpa using this
       have ZI:=Lib.hid YI2.out
       have ZW:=Lib.hid YW2.out
       have hzs:=hs2
       clear hqs hqr
       go_wp2_with fail
       go_roundw
       case rel=>exact ⟨a++[(R:Int)],b,HF.out _ ZB.out ZI.out,by rw [HEL.out];exact hpn,ZW.out,hzs⟩
       case measure=>exact HM.out _ ZI.out
      ·have hqr:=hqr.trans (if_pos (show (R:Int)=34\/(R:Int)=92 by omega))
       simp only [c] at ht34 ht92
       have t34:((R:Int)==34)=false:=by rw [c];rfl
       have t92:((R:Int)==92)=true:=by rw [c];rfl
       clear ht34 ht92 ht10 ht9 ht13 ht127 c
       have HW0:=Lib.hid (YtldhmfkojaekfaaGreatDoor.writeByte B ([34]++quotes a) 92 wx XB.out (by simp only [List.length_append,List.length_cons,List.length_nil] at hl0 ⊢;omega) (by omega))
       unfold YtldhmfkojaekfaaGreatDoor.WrotePost at HW0
       go_wp2_with fail
       try rw [<-HWX.out]
       refine HW0.out.mono ?_
       rintro e0 y1 ⟨rfl,z1,z2,z3⟩
       have YB1:Hid (YtldhmfkojaekfaaGreatDoor.Bld B (([34]++quotes a)++[92]) y1):=z1
       have YI1:Hid (y1.heap[I]?=some (.stringIter s (pos+n))):=z3.iter XI.out (by omega)
       have YW1:=Lib.hid (Below.trans XW.out (z2.mono hwB))
       have hs1:I<y1.heap.size:=Nat.lt_of_lt_of_le hsz2 z2.size
       clear z1 z2 z3
       have HW1:=Lib.hid (YtldhmfkojaekfaaGreatDoor.writeRune B (([34]++quotes a)++[92]) (R:Int) (by omega) (by omega) y1 YB1.out (by simp only [List.length_append,List.length_cons,List.length_nil] at hl0 ⊢;omega) (by omega))
       unfold YtldhmfkojaekfaaGreatDoor.WrotePost at HW1
       go_wp2_with fail
       try rw [<-HWX.out]
       refine HW1.out.mono ?_
       rintro e0 y2 ⟨rfl,z1,z2,z3⟩
       have YB2:Hid (YtldhmfkojaekfaaGreatDoor.Bld B ((([34]++quotes a)++[92])++Lib.encodeRune (R:Int)) y2):=z1
       have YI2:Hid (y2.heap[I]?=some (.stringIter s (pos+n))):=z3.iter YI1.out (by omega)
       have YW2:=Lib.hid (Below.trans YW1.out (z2.mono hwB))
       have hs2:I<y2.heap.size:=Nat.lt_of_lt_of_le hs1 z2.size
       clear z1 z2 z3
       have ZB:Hid (YtldhmfkojaekfaaGreatDoor.Bld B ([34]++quotes (a++[(R:Int)])) y2):=by
        show YtldhmfkojaekfaaGreatDoor.Bld _ _ _
        rw [hqs,hqr]
        have:=YB2.out
        simpa using this
       have ZI:=Lib.hid YI2.out
       have ZW:=Lib.hid YW2.out
       have hzs:=hs2
       clear hqs hqr
       go_wp2_with fail
       go_roundw
       case rel=>exact ⟨a++[(R:Int)],b,HF.out _ ZB.out ZI.out,by rw [HEL.out];exact hpn,ZW.out,hzs⟩
       case measure=>exact HM.out _ ZI.out
     have d34:¬ ((R:Int)=34\/(R:Int)=92):=by omega
     replace hqr:=hqr.trans (if_neg d34)
     have t34:((R:Int)==34)=false:=by rw [beq_eq_false_iff_ne];omega
     have t92:((R:Int)==92)=false:=by rw [beq_eq_false_iff_ne];omega
     clear ht34 ht92
     by_cases c10:R=10
     ·have hqr:=hqr.trans (if_pos (show (R:Int)=10 by omega))
      have t10:((R:Int)==10)=true:=by rw [c10];rfl
      clear d34 c34 ht10 ht9 ht13 ht127 c10
      have HW0:=Lib.hid (YtldhmfkojaekfaaGreatDoor.writeStr B ([34]++quotes a) ⟨#[92,110]⟩ wx XB.out (by rw [show (⟨#[92,110]⟩:ByteArray).size=2 from rfl];omega) (by omega))
      unfold YtldhmfkojaekfaaGreatDoor.WrotePost at HW0
      go_wp2_with fail
      try rw [<-HWX.out]
      refine HW0.out.mono ?_
      rintro e0 y1 ⟨rfl,z1,z2,z3⟩
      have YB1:Hid (YtldhmfkojaekfaaGreatDoor.Bld B (([34]++quotes a)++(⟨#[92,110]⟩:ByteArray).data.toList) y1):=z1
      have YI1:Hid (y1.heap[I]?=some (.stringIter s (pos+n))):=z3.iter XI.out (by omega)
      have YW1:=Lib.hid (Below.trans XW.out (z2.mono hwB))
      have hs1:I<y1.heap.size:=Nat.lt_of_lt_of_le hsz2 z2.size
      clear z1 z2 z3
      have ZB:Hid (YtldhmfkojaekfaaGreatDoor.Bld B ([34]++quotes (a++[(R:Int)])) y1):=by
       show YtldhmfkojaekfaaGreatDoor.Bld _ _ _
       rw [hqs,hqr]
       have:=YB1.out
       simpa using this
      have ZI:=Lib.hid YI1.out
      have ZW:=Lib.hid YW1.out
      have hzs:=hs1
      clear hqs hqr
      go_wp2_with fail
      go_roundw
      case rel=>exact ⟨a++[(R:Int)],b,HF.out _ ZB.out ZI.out,by rw [HEL.out];exact hpn,ZW.out,hzs⟩
      case measure=>exact HM.out _ ZI.out
     replace hqr:=hqr.trans (if_neg (show ¬ (R:Int)=10 by omega))
     have t10:((R:Int)==10)=false:=by rw [beq_eq_false_iff_ne];omega
     clear ht10
     by_cases c9:R=9
     ·have hqr:=hqr.trans (if_pos (show (R:Int)=9 by omega))
      have t9:((R:Int)==9)=true:=by rw [c9];rfl
      clear d34 c34 ht9 ht13 ht127 c9
      have HW0:=Lib.hid (YtldhmfkojaekfaaGreatDoor.writeStr B ([34]++quotes a) ⟨#[92,116]⟩ wx XB.out (by rw [show (⟨#[92,116]⟩:ByteArray).size=2 from rfl];omega) (by omega))
      unfold YtldhmfkojaekfaaGreatDoor.WrotePost at HW0
      go_wp2_with fail
      try rw [<-HWX.out]
      refine HW0.out.mono ?_
      rintro e0 y1 ⟨rfl,z1,z2,z3⟩
      have YB1:Hid (YtldhmfkojaekfaaGreatDoor.Bld B (([34]++quotes a)++(⟨#[92,116]⟩:ByteArray).data.toList) y1):=z1
      have YI1:Hid (y1.heap[I]?=some (.stringIter s (pos+n))):=z3.iter XI.out (by omega)
      have YW1:=Lib.hid (Below.trans XW.out (z2.mono hwB))
      have hs1:I<y1.heap.size:=Nat.lt_of_lt_of_le hsz2 z2.size
      clear z1 z2 z3
      have ZB:Hid (YtldhmfkojaekfaaGreatDoor.Bld B ([34]++quotes (a++[(R:Int)])) y1):=by
       show YtldhmfkojaekfaaGreatDoor.Bld _ _ _
       rw [hqs,hqr]
       have:=YB1.out
       simpa using this
      have ZI:=Lib.hid YI1.out
      have ZW:=Lib.hid YW1.out
      have hzs:=hs1
      clear hqs hqr
      go_wp2_with fail
      go_roundw
      case rel=>exact ⟨a++[(R:Int)],b,HF.out _ ZB.out ZI.out,by rw [HEL.out];exact hpn,ZW.out,hzs⟩
      case measure=>exact HM.out _ ZI.out
     replace hqr:=hqr.trans (if_neg (show ¬ (R:Int)=9 by omega))
     have t9:((R:Int)==9)=false:=by rw [beq_eq_false_iff_ne];omega
     clear ht9
     by_cases c13:R=13
     ·have hqr:=hqr.trans (if_pos (show (R:Int)=13 by omega))
      have t13:((R:Int)==13)=true:=by rw [c13];rfl
      clear d34 c34 ht13 ht127 c13
      have HW0:=Lib.hid (YtldhmfkojaekfaaGreatDoor.writeStr B ([34]++quotes a) ⟨#[92,114]⟩ wx XB.out (by rw [show (⟨#[92,114]⟩:ByteArray).size=2 from rfl];omega) (by omega))
      unfold YtldhmfkojaekfaaGreatDoor.WrotePost at HW0
      go_wp2_with fail
      try rw [<-HWX.out]
      refine HW0.out.mono ?_
      rintro e0 y1 ⟨rfl,z1,z2,z3⟩
      have YB1:Hid (YtldhmfkojaekfaaGreatDoor.Bld B (([34]++quotes a)++(⟨#[92,114]⟩:ByteArray).data.toList) y1):=z1
      have YI1:Hid (y1.heap[I]?=some (.stringIter s (pos+n))):=z3.iter XI.out (by omega)
      have YW1:=Lib.hid (Below.trans XW.out (z2.mono hwB))
      have hs1:I<y1.heap.size:=Nat.lt_of_lt_of_le hsz2 z2.size
      clear z1 z2 z3
      have ZB:Hid (YtldhmfkojaekfaaGreatDoor.Bld B ([34]++quotes (a++[(R:Int)])) y1):=by
       show YtldhmfkojaekfaaGreatDoor.Bld _ _ _
       rw [hqs,hqr]
       have:=YB1.out
       simpa using this
      have ZI:=Lib.hid YI1.out
      have ZW:=Lib.hid YW1.out
      have hzs:=hs1
      clear hqs hqr
      go_wp2_with fail
      go_roundw
      case rel=>exact ⟨a++[(R:Int)],b,HF.out _ ZB.out ZI.out,by rw [HEL.out];exact hpn,ZW.out,hzs⟩
      case measure=>exact HM.out _ ZI.out
     replace hqr:=hqr.trans (if_neg (show ¬ (R:Int)=13 by omega))
     have t13:((R:Int)==13)=false:=by rw [beq_eq_false_iff_ne];omega
     clear ht13
     by_cases c5:R<32\/R=127
     ·have hqr:=hqr.trans (if_pos (show (R:Int)<32\/(R:Int)=127 by omega))
      have R128:(R:Int)<128:=by omega
      have hxt:=(hexText_facts R (by omega)).2.2.1
      have hcase:decide ((R:Int)<32)=true\/(decide ((R:Int)<32)=false/\((R:Int)==127)=true):=by
       by_cases h:R<32
       ·exact .inl (decide_eq_true (by omega))
       ·exact .inr ⟨decide_eq_false (by omega),by rw [ht127];exact decide_eq_true (by omega)⟩
      have hr128:R<128:=by omega
      clear ht127 c5 d34 c34 c10 c9 c13
      rcases hcase with t32|⟨t32,t127⟩
      all_goals
       have hesz:(⟨#[92,117,123]⟩++⟨(hexText R).toArray⟩++⟨#[125]⟩:ByteArray).size=(hexText R).length+4:=by
        rw [Lib.size_eq];simp
       have HX:=Lib.hid (hex_any R (by omega) wx (HT.out.keep XW.out).n)
       unfold StrPost at HX
       go_wp2_with fail
       try rw [<-HWX.out]
       refine HX.out.mono ?_
       rintro e0 y1 ⟨rfl,hh⟩
       have YB1:Hid (YtldhmfkojaekfaaGreatDoor.Bld B ([34]++quotes a) y1):=Lib.IsBuilderF.below XB.out hh
       have YI1:Hid (y1.heap[I]?=some (.stringIter s (pos+n))):=by show _=_;rw [hh.block _ hsz2];exact XI.out
       have YW1:=Lib.hid (Below.trans XW.out (hh.mono (XW.out).size))
       have hs1:I<y1.heap.size:=Nat.lt_of_lt_of_le hsz2 hh.size
       clear hh
       have HW1:=Lib.hid (YtldhmfkojaekfaaGreatDoor.writeStr B ([34]++quotes a) (⟨#[92,117,123]⟩++⟨(hexText R).toArray⟩++⟨#[125]⟩) y1 YB1.out (by rw [hesz];omega) (by omega))
       unfold YtldhmfkojaekfaaGreatDoor.WrotePost at HW1
       go_wp2_with fail
       try rw [<-HWX.out]
       refine HW1.out.mono ?_
       rintro e0 y2 ⟨rfl,z1,z2,z3⟩
       have YB2:Hid (YtldhmfkojaekfaaGreatDoor.Bld B (([34]++quotes a)++((⟨#[92,117,123]⟩++⟨(hexText R).toArray⟩++⟨#[125]⟩):ByteArray).data.toList) y2):=z1
       have YI2:Hid (y2.heap[I]?=some (.stringIter s (pos+n))):=z3.iter YI1.out (by omega)
       have YW2:=Lib.hid (Below.trans YW1.out (z2.mono hwB))
       have hs2:I<y2.heap.size:=Nat.lt_of_lt_of_le hs1 z2.size
       clear z1 z2 z3
       have ZB:Hid (YtldhmfkojaekfaaGreatDoor.Bld B ([34]++quotes (a++[(R:Int)])) y2):=by
        show YtldhmfkojaekfaaGreatDoor.Bld _ _ _
        rw [hqs,hqr]
        have:=YB2.out
        simpa using this
       have ZI:=Lib.hid YI2.out
       have ZW:=Lib.hid YW2.out
       have hzs:=hs2
       clear hqs hqr
       go_wp2_with fail
       go_roundw
       case rel=>exact ⟨a++[(R:Int)],b,HF.out _ ZB.out ZI.out,by rw [HEL.out];exact hpn,ZW.out,hzs⟩
       case measure=>exact HM.out _ ZI.out
     ·replace hqr:=hqr.trans (if_neg (show ¬ ((R:Int)<32\/(R:Int)=127) by omega))
      have t32:decide ((R:Int)<32)=false:=decide_eq_false (by omega)
      have t127:((R:Int)==127)=false:=by rw [beq_eq_false_iff_ne];omega
      clear ht127 c5 d34 c34 c10 c9 c13
      have HW0:=Lib.hid (YtldhmfkojaekfaaGreatDoor.writeRune B ([34]++quotes a) (R:Int) (by omega) (by omega) wx XB.out (by omega) (by omega))
      unfold YtldhmfkojaekfaaGreatDoor.WrotePost at HW0
      go_wp2_with fail
      try rw [<-HWX.out]
      refine HW0.out.mono ?_
      rintro e0 y1 ⟨rfl,z1,z2,z3⟩
      have YB1:Hid (YtldhmfkojaekfaaGreatDoor.Bld B (([34]++quotes a)++Lib.encodeRune (R:Int)) y1):=z1
      have YI1:Hid (y1.heap[I]?=some (.stringIter s (pos+n))):=z3.iter XI.out (by omega)
      have YW1:=Lib.hid (Below.trans XW.out (z2.mono hwB))
      have hs1:I<y1.heap.size:=Nat.lt_of_lt_of_le hsz2 z2.size
      clear z1 z2 z3
      have ZB:Hid (YtldhmfkojaekfaaGreatDoor.Bld B ([34]++quotes (a++[(R:Int)])) y1):=by
       show YtldhmfkojaekfaaGreatDoor.Bld _ _ _
       rw [hqs,hqr]
       have:=YB1.out
       simpa using this
      have ZI:=Lib.hid YI1.out
      have ZW:=Lib.hid YW1.out
      have hzs:=hs1
      clear hqs hqr
      go_wp2_with fail
      go_roundw
      case rel=>exact ⟨a++[(R:Int)],b,HF.out _ ZB.out ZI.out,by rw [HEL.out];exact hpn,ZW.out,hzs⟩
      case measure=>exact HM.out _ ZI.out
  ·have hnx:∀ ty,(Instr.next (.pointer (some ⟨I,0,none⟩)) true ty).run Tryz.prog wr=_:=fun ty=>Lib.run_next_end_at wr I s pos ty hit hp
   have hb0:b=[]:=by
    have h1:=HSZ.out
    rw [QA.out,encs_append,List.length_append,<-HPOS.out] at h1
    exact encs_nil (List.eq_nil_of_length_eq_zero (by omega))
   have hra:rs=a:=by rw [QA.out,hb0,List.append_nil]
   have HRA:=Lib.hid hra
   have HW:=Lib.hid (YtldhmfkojaekfaaGreatDoor.writeByte B ([34]++quotes a) 34 wr QB.out (by rw [List.length_append];simp;omega) (by omega))
   unfold YtldhmfkojaekfaaGreatDoor.WrotePost at HW
   rw [show ((34:UInt8).toNat:Nat)=34 from rfl] at HW
   clear hb0 hra hq QA hit HPOS
   go_wp2_with fail
   refine HW.out.mono ?_
   rintro e0 y1 ⟨rfl,z1,z2,-⟩
   have HB2:=Lib.hid (YtldhmfkojaekfaaGreatDoor.built B _ y1 z1 (Nat.le_trans (by omega) z2.size))
   have YW:=Lib.hid (hbw.out.trans (z2.mono hwB))
   clear z1 z2
   go_wp2_with fail
   refine HB2.out.mono ?_
   rintro e0 y2 ⟨rfl,z2⟩
   have N:=Lib.hid (fun S h=>HFIN.out S y2 h (YW.out.trans (z2.mono hwB)))
   clear z2
   go_wp2_with fail
   try go_ret2
   exact N.out _ (by rw [HRA.out];rfl)
end Go.Proofs.YtldhmfkojaekfaaGreatDoor
