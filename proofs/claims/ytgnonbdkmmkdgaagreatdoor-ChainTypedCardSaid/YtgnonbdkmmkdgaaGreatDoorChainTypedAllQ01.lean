/-
  Lemmas for the statement: plain laws, and what functions answer; the conditions stand in each.
-/
import Derived.Laws.BitsAllLaws
import Derived.Test.YtgnonbdkmmkdgaaGreatDoorChainTypedAllPartH
set_option linter.unusedVariables false
set_option linter.unusedSimpArgs false
set_option maxHeartbeats 16000000
set_option maxRecDepth 100000
open Go.Lib (hid)
namespace Go.Proofs.YtgnonbdkmmkdgaaGreatDoor
open Go.RowKit Gx
def Ft.setT (p:Ft) (y:Lt):Ft:=⟨p.n,p.o,p.h,y,p.d⟩
theorem set_shift (a b:List Value) (n m:Nat) (hn:a.length=n) (u:Value):(a++b).set (n+m) u=a++b.set m u:=by
 subst hn
 rw [List.set_append_right _ _ (Nat.le_add_right _ _),Nat.add_sub_cancel_left]
theorem flat_set7 (t:Bool) (y:Lt):∀ (ps:List Ft) (i:Nat) (p:Ft),ps[i]?=some p ->
 (((((((ps.flatMap (cellsF t)).set (i * sw t+so t) (.int .i64 y.v.k)).set (i * sw t+so t+1) (.int .i64 y.v.lo)).set (i * sw t+so t+2) (.int .i64 y.v.hi)).set (i * sw t+so t+3) (.slice y.xd y.v.x.length y.xc)).set (i * sw t+so t+4) (.slice y.td y.v.t.length y.tc)).set (i * sw t+so t+5) (.slice y.fd y.v.f.length y.fc)).set (i * sw t+so t+6) (.string y.v.n)=(ps.set i (p.setT y)).flatMap (cellsF t)
 | [],i,p,h=>by simp at h
 | q::ps,0,p,h=>by
   obtain rfl:q=p:=by simpa using h
   cases t<;>rfl
 | q::ps,i+1,p,h=>by
   have h':ps[i]?=some p:=by simpa using h
   have ih:=flat_set7 t y ps i p h'
   have e:∀ j,(i+1) * sw t+so t+j=sw t+(i * sw t+so t+j):=fun j=>by rw [Nat.add_mul,Nat.one_mul];omega
   have e0:(i+1) * sw t+so t=sw t+(i * sw t+so t):=e 0
   have hl:=cellsF_len t q
   rw [List.set_cons_succ,List.flatMap_cons,List.flatMap_cons,e0]
   have e':∀ j,sw t+(i * sw t+so t)+j=sw t+(i * sw t+so t+j):=fun j=>by omega
   rw [e',e',e',e',e',e',set_shift _ _ _ _ hl,set_shift _ _ _ _ hl,set_shift _ _ _ _ hl,set_shift _ _ _ _ hl,set_shift _ _ _ _ hl,set_shift _ _ _ _ hl,set_shift _ _ _ _ hl,ih]
theorem own_set7 {t:Bool} {e:TypeId} {w:World} {vb:Nat} {g n cap:Nat} {ps:List Ft} (h:w.ownsRow (vb+1) e (sw t) (.slice (some ⟨g,0,none⟩) n cap) n (ps.flatMap (cellsF t))) (i:Nat) (p:Ft) (hi:ps[i]?=some p) (y:Lt) (o:Nat) (ho:o=i * sw t+so t) :
 ∃ W,W=((((((w.setCell ⟨g,o,none⟩ (.int .i64 y.v.k)).setCell ⟨g,o+1,none⟩ (.int .i64 y.v.lo)).setCell ⟨g,o+2,none⟩ (.int .i64 y.v.hi)).setCell ⟨g,o+3,none⟩ (.slice y.xd y.v.x.length y.xc)).setCell ⟨g,o+4,none⟩ (.slice y.td y.v.t.length y.tc)).setCell ⟨g,o+5,none⟩ (.slice y.fd y.v.f.length y.fc)).setCell ⟨g,o+6,none⟩ (.string y.v.n)/\W.ownsRow (vb+1) e (sw t) (.slice (some ⟨g,0,none⟩) n cap) n ((ps.set i (p.setT y)).flatMap (cellsF t))/\w.grownBy W (some g):=by
 subst ho
 obtain ⟨o0,g0⟩:=h.stored (i * sw t+so t) (.int .i64 y.v.k)
 obtain ⟨o1,g1⟩:=o0.stored (i * sw t+so t+1) (.int .i64 y.v.lo)
 obtain ⟨o2,g2⟩:=o1.stored (i * sw t+so t+2) (.int .i64 y.v.hi)
 obtain ⟨o3,g3⟩:=o2.stored (i * sw t+so t+3) (.slice y.xd y.v.x.length y.xc)
 obtain ⟨o4,g4⟩:=o3.stored (i * sw t+so t+4) (.slice y.td y.v.t.length y.tc)
 obtain ⟨o5,g5⟩:=o4.stored (i * sw t+so t+5) (.slice y.fd y.v.f.length y.fc)
 obtain ⟨o6,g6⟩:=o5.stored (i * sw t+so t+6) (.string y.v.n)
 have hg:=grown_trans (grown_trans (grown_trans (grown_trans (grown_trans (grown_trans g0 g1) g2) g3) g4) g5) g6
 rw [flat_set7 t y ps i p hi] at o6
 exact ⟨_,rfl,o6,hg⟩
theorem row_set7 {t:Bool} {e:TypeId} {w:World} {vb:Nat} {B:Nat->Prop} {g n cap:Nat} {ps:List Ft} (h:AccT w vb B t e (.slice (some ⟨g,0,none⟩) n cap) ps) (hn:ps.length=n) (i:Nat) (p:Ft) (hi:ps[i]?=some p) (y:Lt) (hy:TyAt w (fun b=>B b/\b≠g) y) (o:Nat) (ho:o=i * sw t+so t) :
 ∃ W,W=((((((w.setCell ⟨g,o,none⟩ (.int .i64 y.v.k)).setCell ⟨g,o+1,none⟩ (.int .i64 y.v.lo)).setCell ⟨g,o+2,none⟩ (.int .i64 y.v.hi)).setCell ⟨g,o+3,none⟩ (.slice y.xd y.v.x.length y.xc)).setCell ⟨g,o+4,none⟩ (.slice y.td y.v.t.length y.tc)).setCell ⟨g,o+5,none⟩ (.slice y.fd y.v.f.length y.fc)).setCell ⟨g,o+6,none⟩ (.string y.v.n) /\
  AccT W vb B t e (.slice (some ⟨g,0,none⟩) n cap) (ps.set i (p.setT y))/\w.grownBy W (some g):=by
 subst ho
 subst hn
 obtain ⟨W,hW,o6,hg⟩:=own_set7 h.own i p hi y _ rfl
 refine ⟨W,hW,?_,hg⟩
 have hin:=List.mem_of_getElem? hi
 have hT:∀ q:Lt,TyAt w (fun b=>B b/\(Value.slice (some ⟨g,0,none⟩) ps.length cap).ownBlock≠some b) q->TyAt _ (fun b=>B b/\(Value.slice (some ⟨g,0,none⟩) ps.length cap).ownBlock≠some b) q:=fun q hq=>hq.grow hg (fun b e hb=>hb.2 e)
 have hD:∀ q:Loc,VAt w (fun b=>B b/\(Value.slice (some ⟨g,0,none⟩) ps.length cap).ownBlock≠some b) q->VAt _ (fun b=>B b/\(Value.slice (some ⟨g,0,none⟩) ps.length cap).ownBlock≠some b) q:=fun q hq=>hq.grow hg (fun b e hb=>hb.2 e)
 refine ⟨?_,fun q hq=>?_,fun q hq=>?_,fun q hq=>?_⟩
 ·rw [List.length_set];exact o6
 ·rcases List.mem_or_eq_of_mem_set hq with hq|rfl
  ·exact hT _ (h.at_ q hq)
  ·exact hT _ (hy.weak (fun b hb _=>⟨hb.1,fun e=>hb.2 (Option.some.inj e).symm⟩))
 ·rcases List.mem_or_eq_of_mem_set hq with hq|rfl
  ·exact hD _ (h.ad q hq)
  ·exact hD _ (h.ad p hin)
 ·rcases List.mem_or_eq_of_mem_set hq with hq|rfl
  ·exact h.key q hq
  ·exact h.key p hin
theorem AccT.tc {t:Bool} {e:TypeId} {w:World} {vb:Nat} {B:Nat->Prop} {g n cap:Nat} {ps:List Ft} (h:AccT w vb B t e (.slice (some ⟨g,0,none⟩) n cap) ps) (i:Nat) (p:Ft) (hi:ps[i]?=some p):TcAt w g (i * sw t+so t) p.t:=by
 have hcell:=h.own.cells (g:=g) rfl
 have hsw:so t+6<sw t:=by cases t<;>decide
 have hc:∀ j u,j<7->(cellsF t p)[so t+j]?=some u->w.cell? ⟨g,i * sw t+so t+j,none⟩=some u:=fun j u hj hu=>by
  have:=hcell (i * sw t+(so t+j)) u ((flat_get (cellsF_len t) ps i p hi (so t+j) (by omega)).trans hu)
  rw [Addr.add_lit,Nat.zero_add] at this
  rw [Nat.add_assoc];exact this
 exact ⟨hc 0 _ (by decide) (by cases t<;>rfl),hc 1 _ (by decide) (by cases t<;>rfl),hc 2 _ (by decide) (by cases t<;>rfl),hc 3 _ (by decide) (by cases t<;>rfl),hc 4 _ (by decide) (by cases t<;>rfl),hc 5 _ (by decide) (by cases t<;>rfl),hc 6 _ (by decide) (by cases t<;>rfl)⟩
structure KpS (S:Nat->Prop) (w w':World):Prop where
 os:w'.os=w.os
 tape:w'.tape=w.tape
 output:w'.output=w.output
 size:w.heap.size<=w'.heap.size
 block:∀ k,k<w.heap.size->¬ S k->w'.heap[k]?=w.heap[k]?
namespace KpS
variable {S:Nat->Prop} {w w' w'':World}
theorem of_below (h:Below w.heap.size w w'):KpS S w w':=⟨h.os,h.tape,h.output,h.size,fun k hk _=>h.block k hk⟩
theorem refl:KpS S w w:=⟨rfl,rfl,rfl,Nat.le_refl _,fun _ _ _=>rfl⟩
theorem trans {T:Nat->Prop} (h:KpS S w w') (g:KpS T w' w'') (hT:∀ b,b<w.heap.size->T b->S b):KpS S w w'' :=
 ⟨g.os.trans h.os,g.tape.trans h.tape,g.output.trans h.output,Nat.le_trans h.size g.size,fun k hk hn=>(g.block k (Nat.lt_of_lt_of_le hk h.size) (fun ht=>hn (hT k hk ht))).trans (h.block k hk hn)⟩
theorem below (h:KpS S w w') {n:Nat} (hn:n<=w.heap.size) (hS:∀ b,S b->n<=b):Below n w w' :=
 ⟨h.os,h.tape,h.output,h.size,fun k hk=>h.block k (Nat.lt_of_lt_of_le hk hn) (fun hs=>by have:=hS k hs;omega)⟩
theorem grown (h:KpS S w w') {r:Option Nat} (hg:w'.grownBy w'' r) (hr:∀ b,r=some b->b<w.heap.size->S b):KpS S w w'' :=
 ⟨hg.os.trans h.os,hg.tape.trans h.tape,hg.output.trans h.output,Nat.le_trans h.size hg.size,fun k hk hn=>(hg.block k (Nat.lt_of_lt_of_le hk h.size) (fun e=>hn (hr k e.symm hk))).trans (h.block k hk hn)⟩
theorem ty (h:KpS S w w') {B:Nat->Prop} {q:Lt} (hq:TyAt w B q) (hB:∀ b,B b->¬ S b):TyAt w' B q:=hq.through h.size (fun b hb hl=>h.block b hl (hB b hb)) (fun _ h _=>h)
end KpS
def TypedPost (R:Ty->Prop) (S C:Nat->Prop) (w:World) (e:Ending) (w':World):Prop :=
 ∃ (x:Lt) (code:Int),e=.returned (.tuple #[x.val,.int .i64 code])/\(code=0->R x.v/\TyAt w' C x)/\KpS S w w'
theorem fpos_some {l:List (Fd Ty)} {s:ByteArray} {f:Fd Ty} (h:fdOf l s=some f):fpos s l<l.length/\l[fpos s l]?=some f:=by
 rw [fdOf_fpos] at h
 exact ⟨(List.getElem?_eq_some_iff.1 h).1,h⟩
theorem fpos_cons (s:ByteArray) (f:Fd Ty) (l:List (Fd Ty)):fpos s (f::l)=if f.n=s then 0 else fpos s l+1:=by
 unfold fpos
 rw [List.findIdx_cons]
 by_cases h:f.n=s
 ·simp [h]
 ·simp [h]
theorem delF_eq:∀ (l:List (Fd Ty)) (s:ByteArray),delF l s=l.take (fpos s l)++l.drop (fpos s l+1)
 | [],s=>rfl
 | f::l,s=>by
   rw [delF,fpos_cons]
   by_cases h:f.n=s
   ·rw [if_pos h,if_pos h];rfl
   ·rw [if_neg h,if_neg h,delF_eq l s,List.take_succ_cons,List.drop_succ_cons,List.cons_append]
theorem modF_eq:∀ (l:List (Fd Ty)) (s:ByteArray) (y:Ty) (f:Fd Ty),fdOf l s=some f->modF l s (fun _=>y)=l.set (fpos s l) { f with t:=y }
 | [],s,y,f,h=>by unfold fdOf at h;simp at h
 | g::l,s,y,f,h=>by
   rw [modF,fpos_cons]
   unfold fdOf at h
   rw [List.find?_cons] at h
   by_cases hg:g.n=s
   ·rw [if_pos hg,if_pos hg,List.set_cons_zero]
    rw [decide_eq_true hg] at h
    obtain rfl:=Option.some.inj h
    rfl
   ·rw [if_neg hg,if_neg hg,List.set_cons_succ]
    rw [decide_eq_false hg] at h
    rw [modF_eq l s y f h]
theorem flat_del (t:Bool):∀ (ps:List Ft) (i:Nat),i<ps.length->(ps.flatMap (cellsF t)).take (i * sw t)++(ps.flatMap (cellsF t)).drop ((i+1) * sw t)=(ps.take i++ps.drop (i+1)).flatMap (cellsF t)
 | [],i,h=>by simp at h
 | q::ps,0,h=>by
   have hl:=cellsF_len t q
   rw [List.flatMap_cons,Nat.zero_mul,List.take_zero,List.nil_append,Nat.zero_add,Nat.one_mul,<-hl,List.drop_left]
   rfl
 | q::ps,i+1,h=>by
   have hl:=cellsF_len t q
   have ih:=flat_del t ps i (by simpa using h)
   rw [List.flatMap_cons,List.take_succ_cons,List.drop_succ_cons,List.cons_append,List.flatMap_cons,<-ih]
   have e1:(i+1) * sw t=(cellsF t q).length+i * sw t:=by rw [hl,Nat.add_mul,Nat.one_mul,Nat.add_comm]
   have e2:(i+1+1) * sw t=(cellsF t q).length+(i+1) * sw t:=by rw [hl,Nat.add_mul (i+1),Nat.one_mul,Nat.add_comm]
   rw [e1,List.take_length_add_append,<-e1,e2,List.drop_length_add_append,List.append_assoc]
theorem AccT.del {t:Bool} {e:TypeId} {w w':World} {vb:Nat} {B:Nat->Prop} {g n cap:Nat} {ps:List Ft} (h:AccT w vb B t e (.slice (some ⟨g,0,none⟩) n cap) ps) (hn:ps.length=n) (i:Nat) (hi:i<n)
 (ho:w'.ownsRow (vb+1) e (sw t) (.slice (some ⟨g,0,none⟩) (n - 1) cap) (n - 1) ((ps.flatMap (cellsF t)).take (i * sw t)++(ps.flatMap (cellsF t)).drop ((i+1) * sw t))) (hg:w.grownBy w' (some g)):AccT w' vb B t e (.slice (some ⟨g,0,none⟩) (n - 1) cap) (ps.take i++ps.drop (i+1)):=by
 subst hn
 rw [flat_del t ps i hi] at ho
 have hsub:∀ p∈ps.take i++ps.drop (i+1),p∈ps:=fun p hp=>by
  rcases List.mem_append.1 hp with hp|hp
  ·exact List.mem_of_mem_take hp
  ·exact List.mem_of_mem_drop hp
 have hlen:(ps.take i++ps.drop (i+1)).length=ps.length - 1:=by rw [List.length_append,List.length_take,List.length_drop];omega
 exact ⟨by rw [hlen];exact ho,fun p hp=>(h.at_ p (hsub p hp)).grow hg (fun b e hb=>hb.2 e),fun p hp=>(h.ad p (hsub p hp)).grow hg (fun b e hb=>hb.2 e),fun p hp=>h.key p (hsub p hp)⟩
end Go.Proofs.YtgnonbdkmmkdgaaGreatDoor
namespace Go.Proofs.YtgnonbdkmmkdgaaGreatDoor
open Go.RowKit Gx
def AccS (w:World) (lo:Nat) (v:Value) (l:List ByteArray):Prop:=w.ownsRow lo 9 1 v l.length (l.map .string)
def ClonesS (l:List ByteArray) (w:World) (e:Ending) (w':World):Prop:=∃ ao c,e=.returned (.slice ao l.length c)/\AccS w' w.heap.size (.slice ao l.length c) l/\Below w.heap.size w w'
theorem AccS.append {w:World} {lo:Nat} {v:Value} {l:List ByteArray} (h:AccS w lo v l) (s:ByteArray) (sb:Nat) (hs:w.cell? ⟨sb,0,none⟩=some (.string s)) (hlo:lo<=w.heap.size) (n:Nat) (hn:l.length=n) (hl:n<=100000) :
 ∃ ao c w',(Builtin.append_ #[23,23] 23 #[v,.slice (some ⟨sb,0,none⟩) 1 1]).run Tryz.prog w=.ok (.slice ao (n+1) c) w'/\AccS w' lo (.slice ao (n+1) c) (l++[s])/\w.grownBy w' v.ownBlock:=by
 subst hn
 obtain ⟨i0,hi,hz0,hz1,hz2⟩:=info_parts (show (Tryz.prog.info? 9).map (fun i=>(i.zero,i.size,i.bytes))=some (some (.string ⟨#[]⟩),1,16) from rfl)
 obtain ⟨v',w',hr,ho2,hg,hm,hnn⟩:=run_append_moved (P:=Tryz.prog) w lo 23 23 9 i0 (.string ⟨#[]⟩) 1 16 (by kernel_rfl) hi hz0 hz1 hz2 rfl (by decide) v l.length (l.map .string)
  h ⟨sb,0,none⟩ 1 1 [.string s] rfl
  (fun j u hj=>by
    match j,hj with
    | 0,hj=>rw [Addr.add_lit];cases hj;exact hs)
  (fun u hu=>by rw [List.mem_singleton.1 hu];rfl) (by have:(l.length+1) * 16<=1600016:=by omega
                                                      exact Nat.le_trans this (by decide)) (by unfold maxLen;omega) (by omega)
 obtain ⟨ao,c,rfl⟩:=own_form ho2
 refine ⟨ao,c,w',hr,?_,hg⟩
 unfold AccS
 rw [List.map_append,List.length_append]
 exact ho2
theorem AccS.keep {w w':World} {lo:Nat} {v:Value} {l:List ByteArray} (h:AccS w lo v l) (hb:Below w.heap.size w w'):AccS w' lo v l:=by
 refine ⟨h.1,?_⟩
 rcases h.2 with h2|⟨g,cap,cur,h1,h2,h3,h4⟩
 ·exact .inl h2
 ·exact .inr ⟨g,cap,cur,h1,h2,(hb.block g (Array.getElem?_eq_some_iff.1 h3).1).trans h3,h4⟩
theorem AccS.low {w:World} {a b:Nat} {v:Value} {l:List ByteArray} (h:AccS w a v l) (hab:b<=a):AccS w b v l:=by
 refine ⟨h.1,?_⟩
 rcases h.2 with h2|⟨g,cap,cur,h1,h2,h3⟩
 ·exact .inl h2
 ·exact .inr ⟨g,cap,cur,h1,Nat.le_trans hab h2,h3⟩
theorem AccS.above {w:World} {lo:Nat} {v:Value} {l:List ByteArray} (h:AccS w lo v l) {b:Nat} (e:v.ownBlock=some b):lo<=b:=by
 have:=World.ownsRow.lt h b e
 omega
theorem AccS.cell {w:World} {lo:Nat} {v:Value} {l:List ByteArray} (h:AccS w lo v l) {i:Nat} {s:ByteArray} (hi:l[i]?=some s):∃ g c,v=.slice (some ⟨g,0,none⟩) l.length c/\lo<=g/\g<w.heap.size/\w.cell? ⟨g,i,none⟩=some (.string s):=by
 obtain ⟨g,c,hv,g1,g2,g3,g4⟩:=own_cell h (List.length_pos_iff.2 (by rintro rfl;simp at hi))
 exact ⟨g,c,hv,g1,g3,g4 i _ (by rw [List.getElem?_map,hi];rfl)⟩
theorem clonesS_any {B:Nat->Prop} (ad:Option Addr) (cap:Nat) (l:List ByteArray) (w:World) (h:SRow w B l (.slice ad l.length cap)):Calls Tryz.prog 26 #[.slice ad l.length cap] w (ClonesS l w):=by
 generalize hv:Value.slice ad l.length cap=v at h
 cases h with
 | nil ad2 cap2 =>
   cases ad2 with
   | none=>exact (Tryz.slices_Clone_string_nil 0 cap2 w).mono fun e w' ⟨h1,h2⟩=>⟨none,0,h1,⟨rfl,.inl ⟨rfl,rfl⟩⟩,by rw [h2];exact Below.refl _ _⟩
   | some a =>
     refine (Tryz.slices_Clone_string_zero a cap2 w).mono ?_
     rintro e w' ⟨v',h1,h2,h3,h4⟩
     obtain ⟨ao,c,rfl⟩:=own_form h2
     exact ⟨ao,c,h1,h2,h4⟩
 | row xs blk off cap2 hne hn hB hlt hc =>
   refine (Tryz.slices_Clone_string blk off l.length cap2 l w (Nat.le_refl _) (by omega) (fun j hj=>?_)).mono (fun e w' h=>?_)
   ·rw [List.getD_eq_getElem?_getD,List.getElem?_eq_getElem hj]
    exact (hc j _ (List.getElem?_eq_getElem hj)).1
   ·obtain ⟨v',h1,h2,h3,h4⟩:=h
    rw [List.take_of_length_le (Nat.le_refl _)] at h2
    obtain ⟨ao,c,rfl⟩:=own_form h2
    exact ⟨ao,c,h1,h2,h4⟩
open Classical in
noncomputable def keyCode (k:ByteArray):Nat:=if 100<k.size then 2 else if okText k.data.toList then 0 else 3
noncomputable def keysCode:List ByteArray->Nat
 | []=>0
 | k::l=>if keyCode k≠0 then keyCode k else keysCode l
def mvKeys (m:Mv):List ByteArray:=m.p++[m.key]++if m.k=1 then [m.dst] else []
noncomputable def checkM (m:Mv):Nat :=
 if m.k<1\/7<m.k then 1 else if 20<=m.p.length then 5 else if keysCode (mvKeys m)≠0 then keysCode (mvKeys m) else if m.k=3 then chkV m.v else 0
theorem keysCode_zero:∀ {l:List ByteArray},keysCode l=0->∀ k∈l,keyCode k=0
 | [],_,k,hk=>absurd hk List.not_mem_nil
 | x::l,h,k,hk=>by
   rw [keysCode] at h
   split at h
   ·rename_i h1;exact absurd h h1
   ·rename_i h1
    rcases List.mem_cons.1 hk with rfl|hk
    ·omega
    ·exact keysCode_zero h k hk
theorem keyCode_zero {k:ByteArray} (h:keyCode k=0):k.size<=100/\okText k.data.toList:=by
 unfold keyCode at h
 split at h
 ·cases h
 ·rename_i h1
  split at h
  ·rename_i h2;exact ⟨by omega,h2⟩
  ·cases h
theorem checkM_ok {m:Mv} (h:checkM m=0):MvOk m/\1<=m.k/\m.k<=7/\m.p.length<20:=by
 unfold checkM at h
 split at h
 ·cases h
 rename_i h1
 split at h
 ·cases h
 rename_i h2
 split at h
 ·rename_i h3;exact absurd h h3
 rename_i h3
 have hz:=keysCode_zero (l:=mvKeys m) (by omega)
 have hk:∀ k∈mvKeys m,okText k.data.toList:=fun k hk=>(keyCode_zero (hz k hk)).2
 refine ⟨⟨fun s hs=>hk s ?_,hk _ ?_,fun e=>hk _ ?_,fun e=>?_⟩,by omega,by omega,by omega⟩
 ·unfold mvKeys;simp [hs]
 ·unfold mvKeys;simp
 ·unfold mvKeys;simp [e]
 ·rw [if_pos e] at h;exact h
end Go.Proofs.YtgnonbdkmmkdgaaGreatDoor
namespace Go.Proofs.YtgnonbdkmmkdgaaGreatDoor
open Go.RowKit Go.Shelf Gx
attribute [local go_sem] Oper.semAt_some
theorem take_succ' {α:Type} {l:List α} {k:Nat} {x:α} (h:l[k]?=some x):l.take (k+1)=l.take k++[x]:=by
 obtain ⟨hl,rfl⟩:=List.getElem?_eq_some_iff.1 h
 exact List.take_succ_eq_append_getElem hl
def ItPost {α:Type} (xs:List α) (J Jx:List α->World->Prop) (e:Ending) (w':World):Prop :=
 (∃ v,e=.returned v)/\((∃ ys,ys=xs/\J ys w')\/(∃ pre,pre <+: xs/\Jx pre w'))
theorem parts1_in (n:Nat) (hn:1<=n) (l Bn n₀ M:Nat) (w0:World) (q:Loc) (ls es:List (LocAt w0 n₀ M)) (hBn:Bw n₀ M Bn)
 (hls:LsAt w0 n₀ M q ls) (hes:EsAt w0 n₀ M q es) (hlb:ls.length<=1000000000000000) (heb:es.length<=1000000000000000)
 (J Jx:List (LocAt w0 n₀ M)->World->Prop) (W:World) (hW:KeM n₀ M w0 W) (hJ:AbidesFrom W.heap.size J)
 (hY:∀ pre x W,J pre W->pre.length<ls.length+es.length->YieldAt Fence.wide (n - 1) Tryz.prog l #[x.1.val] W fun e W' =>
   (e=.returned (.bool true)/\J (pre++[x]) W'/\KeM n₀ M W W')\/(e=.returned (.bool false)/\Jx (pre++[x]) W'))
 (hb:W.heap[Bn]?=some (.cells #[.int .i64 q.v.k,.int .i64 q.v.n,.int .u64 q.v.f,.string q.v.s,.slice q.ad q.v.l.length q.cap,.slice q.bd q.v.e.length q.dap] 32)) (h0:J [] W) :
 CallsIn Fence.wide n Tryz.prog 84 #[.func (.yield l) #[] #[],.pointer (some ⟨Bn,0,none⟩)] W (ItPost (ls++es) J Jx):=by
 unfold Loc.val at hY
 have hBl:Bn<W.heap.size:=(Array.getElem?_eq_some_iff.1 hb).1
 have c4:W.cell? ⟨Bn,4,none⟩=some (.slice q.ad ls.length q.cap):=by rw [hls.len];simp [World.cell?,hb]
 have c5:∀ w,KeM n₀ M W w->w.cell? ⟨Bn,5,none⟩=some (.slice q.bd es.length q.dap):=fun w hk=>(hk.cell hBn hBl).trans (by rw [hes.len];simp [World.cell?,hb])
 have hls:=hls.2
 have hes:=hes.2
 obtain ⟨v,ad,cap,bd,dap⟩:=q
 simp only at c4 c5 hls hes
 have C5:=hid c5
 have HJ:=hid hJ
 have HY:=hid hY
 have HLS:=hid hls
 have HES:=hid hes
 have HW:=hid hW
 have H0:=hid h0
 obtain ⟨nl,hnl⟩:∃ nl,ls.length=nl:=⟨_,rfl⟩
 obtain ⟨ne,hne⟩:∃ ne,es.length=ne:=⟨_,rfl⟩
 rw [hnl] at c4 hlb
 rw [hne] at C5 heb
 have HNL:=hid hnl
 have HNE:=hid hne
 clear hb c5 hJ hY hls hes hW h0 hnl hne
 refine callsIn_of_wp Tryz.func84 rfl trivial ?_ rfl
 simp only [Tryz.ntmps84,List.size_toArray,List.length_cons,List.length_nil,Nat.reduceAdd,Nat.reduceSub,Array.replicate_succ,Array.replicate_zero,List.push_toArray,List.append_toArray,List.nil_append,List.cons_append]
 gi_wp2
 gi_loopw [10] (fun i wr=>∃ k:Nat,k<=nl/\i=.int .i64 k/\Hid (J (ls.take k) wr)/\Hid (KeM n₀ M W wr))
  (fun i _=>nl - (intOf i).toNat)
 case atStart=>exact ⟨0,Nat.zero_le _,rfl,H0,hid (KeM.refl _ _ _)⟩
 case round =>
  obtain ⟨k,hk,rfl,hJs,hke⟩:=hrel
  by_cases hlt:k<nl
  ·obtain ⟨x,hx⟩:∃ x,ls[k]?=some x:=⟨_,List.getElem?_eq_getElem (by rw [HNL.out];exact hlt)⟩
   obtain ⟨b,off,rfl,hbb,hbl,g0,g1,g2,g3,g4,g5⟩:=HLS.out k x hx
   have hkk:=HW.out.trans hke.out
   have q0:=(hkk.cell hbb hbl).trans g0
   have q1:=(hkk.cell hbb hbl).trans g1
   have q2:=(hkk.cell hbb hbl).trans g2
   have q3:=(hkk.cell hbb hbl).trans g3
   have q4:=(hkk.cell hbb hbl).trans g4
   have q5:=(hkk.cell hbb hbl).trans g5
   clear g0 g1 g2 g3 g4 g5 hkk
   have hJ2:J (ls.take k) (wr.alloc (.cells #[.int .i64 x.1.v.k,.int .i64 x.1.v.n,.int .u64 x.1.v.f,.string x.1.v.s,.slice x.1.ad x.1.v.l.length x.1.cap,.slice x.1.bd x.1.v.e.length x.1.dap] 32)):=HJ.out _ _ _ none hJs.out (World.grownBy_alloc _ _ none) (fun r e=>by cases e)
   have HX:=hid hx
   obtain ⟨fn,tmps,assign,body,hy,hR⟩:=HY.out _ x _ hJ2 (by rw [List.length_take,HNL.out];omega)
   have HR:=hid hR
   clear hx hJ2 hR
   gi_wp2
   refine HR.out.mono ?_
   rintro e W3 (⟨rfl,hJ3,hk3⟩|⟨rfl,hJx3⟩)
   ·have hke3:=(hke.out.trans (KeM.alloc n₀ M wr _)).trans hk3
    have HJ3:=hid hJ3
    have HKE3:=hid hke3
    clear hJ3 hke3 hk3
    gi_wp2
    go_roundw
    case rel=>exact ⟨k+1,by omega,by go_num,by rw [take_succ' HX.out];exact HJ3,HKE3⟩
    case measure=>simp [intOf];omega
   ·have HJX:=hid hJx3
    clear hJx3
    gi_wp2
    refine bodyPost_ret (results_none rfl _ _ _) rfl ?_
    exact ⟨⟨_,rfl⟩,.inr ⟨_,(by rw [<-take_succ' HX.out];exact (List.take_prefix _ _).trans (List.prefix_append _ _)),HJX.out⟩⟩
  ·obtain rfl:k=nl:=by omega
   have hJ1:J ls wr:=by have:=hJs.out;rwa [List.take_of_length_le (by rw [HNL.out];exact Nat.le_refl _)] at this
   have HJ1:=hid hJ1
   have c5:=C5.out wr hke.out
   clear hJ1 hJs hk hlt
   obtain ⟨wo,hwo⟩:∃ wo:World,wo=wr:=⟨_,rfl⟩
   rw [<-hwo] at hke HJ1 c5 ⊢
   clear hwo wr
   gi_wp2
   gi_loopw [22] (fun i wr=>∃ j:Nat,j<=ne/\i=.int .i64 j/\Hid (J (ls++es.take j) wr)/\Hid (KeM n₀ M wo wr))
    (fun i _=>ne - (intOf i).toNat)
   case atStart=>exact ⟨0,Nat.zero_le _,rfl,(by rw [List.take_zero,List.append_nil];exact HJ1),hid (KeM.refl _ _ _)⟩
   case round =>
    obtain ⟨j,hj,rfl,hJs,hke2⟩:=hrel
    by_cases hlt:j<ne
    ·obtain ⟨x,hx⟩:∃ x,es[j]?=some x:=⟨_,List.getElem?_eq_getElem (by rw [HNE.out];exact hlt)⟩
     obtain ⟨b,off,key,rfl,hbb,hbl,gk,gs⟩:=HES.out j x hx
     obtain ⟨g0,g1,g2,g3,g4,g5⟩:=gs.seven
     have hkk:=(HW.out.trans hke.out).trans hke2.out
     have qk:=(hkk.cell hbb hbl).trans gk
     have q0:=(hkk.cell hbb hbl).trans g0
     have q1:=(hkk.cell hbb hbl).trans g1
     have q2:=(hkk.cell hbb hbl).trans g2
     have q3:=(hkk.cell hbb hbl).trans g3
     have q4:=(hkk.cell hbb hbl).trans g4
     have q5:=(hkk.cell hbb hbl).trans g5
     clear gk gs g0 g1 g2 g3 g4 g5 hkk c5
     have hJ2:J (ls++es.take j) (wr.alloc (.cells #[.string key,.int .i64 x.1.v.k,.int .i64 x.1.v.n,.int .u64 x.1.v.f,.string x.1.v.s,.slice x.1.ad x.1.v.l.length x.1.cap,.slice x.1.bd x.1.v.e.length x.1.dap] 96)):=HJ.out _ _ _ none hJs.out (World.grownBy_alloc _ _ none) (fun r e=>by cases e)
     have HX:=hid hx
     obtain ⟨fn,tmps,assign,body,hy,hR⟩:=HY.out _ x _ hJ2 (by rw [List.length_append,List.length_take,HNL.out,HNE.out];omega)
     have HR:=hid hR
     clear hx hJ2 hR
     gi_wp2
     refine HR.out.mono ?_
     rintro e W3 (⟨rfl,hJ3,hk3⟩|⟨rfl,hJx3⟩)
     ·have hke3:=(hke2.out.trans (KeM.alloc n₀ M wr _)).trans hk3
      have HJ3:=hid hJ3
      have HKE3:=hid hke3
      clear hJ3 hke3 hk3
      gi_wp2
      go_roundw
      case rel=>exact ⟨j+1,by omega,by go_num,by rw [take_succ' HX.out,<-List.append_assoc];exact HJ3,HKE3⟩
      case measure=>simp [intOf];omega
     ·have HJX:=hid hJx3
      clear hJx3
      gi_wp2
      refine bodyPost_ret (results_none rfl _ _ _) rfl ?_
      exact ⟨⟨_,rfl⟩,.inr ⟨_,(by rw [List.append_assoc,<-take_succ' HX.out];exact List.prefix_append_right_inj _ |>.2 (List.take_prefix _ _)),HJX.out⟩⟩
    ·obtain rfl:j=ne:=by omega
     have hJ4:J (ls++es) wr:=by have:=hJs.out;rwa [List.take_of_length_le (by rw [HNE.out];exact Nat.le_refl _)] at this
     have HJ4:=hid hJ4
     clear hJ4 hJs c5
     gi_wp2
     go_end0
     exact ⟨⟨_,rfl⟩,.inl ⟨_,rfl,HJ4.out⟩⟩
end Go.Proofs.YtgnonbdkmmkdgaaGreatDoor
namespace Go.Proofs.YtgnonbdkmmkdgaaGreatDoor
open Go.RowKit Gx
section
variable {P:Program} {w:World} {ops:Array Oper} {rest:List Oper} {o:Oper} {ac:Act} {Q:Exit->Act->World->Prop}
theorem wpl_faddr (hgd:o.guard=none) (s:TypeId) (x:Operand) (f:Nat) (ho:o.op=.fieldAddr s x f) (v:Value) (hx:ac.eval x=v) {r:Value} (hr:(Instr.fieldAt s v f).run P w=.ok r w) (h:wpList P ops Q rest (ac.put o.dst r) w):wpList P ops Q (o::rest) ac w:=by
 refine wpList_plain hgd fun K hK=>?_
 unfold Oper.wp execOp
 simp only [ho,Sem.run_bind,Sem.run_pure,Result.andThen_ok,hx,hr]
 exact hK _ _ h
theorem wpl_load (hgd:o.guard=none) (t:TypeId) (x:Operand) (ho:o.op=.load t x) (v:Value) (hx:ac.eval x=v) {r:Value} (hr:(Instr.loadAt t v).run P w=.ok r w) (h:wpList P ops Q rest (ac.put o.dst r) w):wpList P ops Q (o::rest) ac w:=by
 refine wpList_plain hgd fun K hK=>?_
 unfold Oper.wp execOp
 simp only [ho,Sem.run_bind,Sem.run_pure,Result.andThen_ok,hx,hr]
 exact hK _ _ h
theorem wpl_store (hgd:o.guard=none) (t:TypeId) (a x:Operand) (ho:o.op=.store t a x) (v u:Value) (ha:ac.eval a=v) (hx:ac.eval x=u) {w':World} (hr:(Instr.storeAt t v u).run P w=.ok () w') (h:wpList P ops Q rest (ac.put o.dst undef) w'):wpList P ops Q (o::rest) ac w:=by
 refine wpList_plain hgd fun K hK=>?_
 unfold Oper.wp execOp
 simp only [ho,Sem.run_bind,Sem.run_pure,Result.andThen_ok,ha,hx,hr]
 exact hK _ _ h
theorem wpl_move (hgd:o.guard=none) (x:Operand) (ho:o.op=.move x) (v:Value) (hx:ac.eval x=v) (h:wpList P ops Q rest (ac.put o.dst v) w):wpList P ops Q (o::rest) ac w:=by
 refine wpList_plain hgd fun K hK=>?_
 unfold Oper.wp execOp
 simp only [ho,Sem.run_bind,Sem.run_pure,Result.andThen_ok,hx]
 exact hK _ _ h
end
theorem faddr_ty (w:World) (g f:Nat) (hf:f<7):(Instr.fieldAt 27 (.pointer (some ⟨g,0,none⟩)) f).run Tryz.prog w=.ok (.pointer (some ⟨g,f,none⟩)) w:=by
 have:f=0\/f=1\/f=2\/f=3\/f=4\/f=5\/f=6:=by omega
 rcases this with rfl|rfl|rfl|rfl|rfl|rfl|rfl<;>(unfold Instr.fieldAt;go_simp)
theorem load_fd (w:World) (g:Nat) (q:Ft) (h:FcAt w g 0 q):(Instr.loadAt 65 (.pointer (some ⟨g,0,none⟩))).run Tryz.prog w=.ok q.val w:=by
 obtain ⟨z0,z1,z2,z3,z4,z5,z6,z7,z8,z9,z10,z11,z12,z13,z14,z15⟩:=h
 unfold Instr.loadAt Ft.val
 go_simp
theorem load_fs (w:World) (g j:Nat) (v:Value) (h:w.cell? ⟨g,j,none⟩=some v):(Instr.loadAt 25 (.pointer (some ⟨g,j,none⟩))).run Tryz.prog w=.ok v w:=by
 unfold Instr.loadAt
 go_simp
theorem store_fs (w:World) (g j:Nat) (vo:Option Addr) (n c:Nat) (u:Value) (h:w.cell? ⟨g,j,none⟩=some u) (hf:w.frozen? ⟨g,j,none⟩=false):(Instr.storeAt 25 (.pointer (some ⟨g,j,none⟩)) (.slice vo n c)).run Tryz.prog w=.ok () (w.setCell ⟨g,j,none⟩ (.slice vo n c)):=by
 unfold Instr.storeAt
 go_simp
end Go.Proofs.YtgnonbdkmmkdgaaGreatDoor
namespace Go.Proofs.YtgnonbdkmmkdgaaGreatDoor
open Go.RowKit Gx
theorem step_append_eq {P:Program} {w:World} {ops:Array Oper} {o:Oper} {ac:Act} {K:Act->World->Prop} {Q:Exit->Act->World->Prop} {F:Prop} (hgd:o.guard=none) (d x:Operand) (dT sT:TypeId) (ho:o.op=.call { callee:=.builtin .append,args:=#[d,x],argTypes:=#[dT,sT] })
 (v u:Value) (hd:ac.eval d=v) (hx:ac.eval x=u) {r:Value} {w':World} (hr:(Builtin.append_ #[dT,sT] o.type #[v,u]).run P w=.ok r w') (hK:K (ac.put o.dst r) w') :
 if Region.wanted o (yielded ops ac.tmps)=true then Oper.wp P o ac w K Q else F:=by
 rw [if_pos (by simp [Region.wanted,hgd])]
 unfold Oper.wp execOp
 simp only [ho,resolve,invoke,builtin,Sem.run_bind,Sem.run_pure,Result.andThen_ok,List.map_toArray,List.map_cons,List.map_nil,hd,hx,hr]
 exact hK
theorem del_row {w:World} {base g n cap i:Nat} {xs:List Value} (h:w.ownsRow base 65 16 (.slice (some ⟨g,0,none⟩) n cap) n xs) (hi:i<n) (a:Addr) (ha:i+1<n->a=⟨g,(i+1) * 16,none⟩) (c:Nat) (h1:∀ u∈xs,u.oneCell'=true) :
 ∃ w2 w3,(Builtin.append_ #[25,25] 25 #[.slice (some ⟨g,0,none⟩) i cap,.slice (some a) (n - (i+1)) c]).run Tryz.prog w=.ok (.slice (some ⟨g,0,none⟩) (n - 1) cap) w2 /\
  (Builtin.clear_ #[25] 0 #[.slice (some ⟨g,(n - 1) * 16,none⟩) 1 (cap - (n - 1))]).run Tryz.prog w2=.ok (.tuple #[]) w3 /\
  w3.ownsRow base 65 16 (.slice (some ⟨g,0,none⟩) (n - 1) cap) (n - 1) (xs.take (i * 16)++xs.drop ((i+1) * 16))/\w.grownBy w3 (some g):=by
 have hxl:=h.1
 have hcell:=h.cells (g:=g) rfl
 rcases h.2 with ⟨h0,-⟩|⟨g2,cap2,cur,hv,hb,hg,hn,hm,hcs,htk⟩
 ·cases h0
 rw [Value.slice.injEq] at hv
 obtain ⟨hg2,-,rfl⟩:=hv
 obtain rfl:g=g2:=by simpa using hg2
 obtain ⟨i0,hi0,hz0,hz1,hz2⟩:=info_parts Tryz.info_fd
 have hnl:(xs.drop ((i+1) * 16)).length=(n - (i+1)) * 16:=by rw [List.length_drop,hxl];omega
 have hr:=run_append_room (P:=Tryz.prog) w 25 25 65 i0 Tryz.underlying25 hi0 g i cap cur hg a (n - (i+1)) c (xs.drop ((i+1) * 16)) (by rw [hz1];exact hnl) (fun j u hj=>by
  have hjl:=(List.getElem?_eq_some_iff.1 hj).1
  rw [hnl] at hjl
  rw [ha (by omega),Addr.add_lit]
  rw [List.getElem?_drop] at hj
  have:=hcell _ u hj
  rw [Addr.add_lit,Nat.zero_add] at this
  exact this) (fun u hu=>h1 u (List.mem_of_mem_drop hu)) (by omega) (by rw [hz1,hnl,hcs];omega)
 rw [show i+(n - (i+1))=n - 1 by omega,hz1,hnl] at hr
 obtain ⟨cs2,hcs2⟩:∃ cs2,(cur.toList.take (i * 16)++xs.drop ((i+1) * 16)++cur.toList.drop (i * 16+(n - (i+1)) * 16)).toArray=cs2:=⟨_,rfl⟩
 rw [hcs2] at hr
 have hclen:cur.toList.length=cap * 16:=by rw [Array.length_toList];exact hcs
 have hsz2:cs2.size=cap * 16:=by
  rw [<-hcs2]
  simp only [List.size_toArray,List.length_append,List.length_take,List.length_drop,hclen,hxl]
  omega
 have hg2':=setRow_heap w g cur cs2 65 (0,0) hg
 obtain ⟨ZL,hZL⟩:∃ ZL:List Value,ZL=[.string ⟨#[]⟩,.bool false,.bool false,.int .i64 0,.int .i64 0,.int .i64 0,.slice none 0 0,.slice none 0 0,.slice none 0 0,.string ⟨#[]⟩,.int .i64 0,.int .i64 0,.int .u64 0,.string ⟨#[]⟩,.slice none 0 0,.slice none 0 0]:=⟨_,rfl⟩
 have hze:(Builtin.zeroCells zeroFd.cells 1).toList=ZL:=by rw [hZL];kernel_rfl
 have hzl:ZL.length=16:=by rw [hZL];rfl
 have hz16:∀ v∈ZL,v.oneCell'=true:=by
  rw [hZL]
  intro v hv
  simp only [List.mem_cons,List.not_mem_nil,or_false] at hv
  rcases hv with rfl|rfl|rfl|rfl|rfl|rfl|rfl|rfl|rfl|rfl|rfl|rfl|rfl|rfl|rfl|rfl<;>rfl
 have hst:=run_storeCells_at Tryz.prog g ((n - 1) * 16) 65 ZL 0 cs2 (w.setRow g cs2) hg2' (by rw [hzl,hsz2];omega) hz16
 obtain ⟨cs3,hcs3⟩:∃ cs3,(cs2.toList.take ((n - 1) * 16+0)++ZL++cs2.toList.drop ((n - 1) * 16+0+ZL.length)).toArray=cs3:=⟨_,rfl⟩
 rw [hcs3] at hst
 have hcl:(Builtin.clear_ #[25] 0 #[.slice (some ⟨g,(n - 1) * 16,none⟩) 1 (cap - (n - 1))]).run Tryz.prog (w.setRow g cs2)=.ok (.tuple #[]) ((w.setRow g cs2).setRow g cs3):=by
  have hzv:∀ w,(zeroValue 65).run Tryz.prog w=.ok zeroFd w:=Tryz.zeroValue65
  simp [Builtin.clear_,run_underlying Tryz.underlying25,hzv,hze,hst]
 have hg3:=setRow_heap (w.setRow g cs2) g cs2 cs3 65 (0,0) hg2'
 have hc2l:cs2.toList.length=cap * 16:=by rw [Array.length_toList];exact hsz2
 refine ⟨_,_,hr,hcl,⟨?_,.inr ⟨g,cap,cs3,rfl,hb,hg3,by omega,hm,?_,?_⟩⟩,grown_trans (setRow_grown w g cs2) (setRow_grown _ g cs3)⟩
 ·rw [List.length_append,hnl,List.length_take,hxl];omega
 ·rw [<-hcs3]
  simp only [List.size_toArray,List.length_append,List.length_take,List.length_drop,hc2l,hzl]
  omega
 ·rw [<-hcs3,List.toList_toArray,List.append_assoc,List.take_append_of_le_length (by rw [List.length_take,hc2l];omega),List.take_take,Nat.add_zero,Nat.min_self,<-hcs2,List.toList_toArray]
  have hti:cur.toList.take (i * 16)=xs.take (i * 16):=by
   rw [<-htk,List.take_take,Nat.min_eq_left (by omega)]
  rw [hti,List.take_append_of_le_length (by rw [List.length_append,List.length_take,hnl,hxl];omega),List.take_of_length_le (by rw [List.length_append,List.length_take,hnl,hxl];omega)]
theorem xor_all (b:Nat) (h:b<18446744073709551616):18446744073709551615 ^^^ b=18446744073709551615 - b:=by
 have h1:=congrArg BitVec.toNat (BitVec.allOnes_xor (x:=BitVec.ofNat 64 b))
 rw [BitVec.toNat_xor,BitVec.toNat_not,BitVec.toNat_allOnes,BitVec.toNat_ofNat,Nat.mod_eq_of_lt (show b<2 ^ 64 from h)] at h1
 exact h1
theorem ixor_all (f:Int) (h0:0<=f) (h1:f<=18446744073709551615):bits .xor .u64 IntKind.u64.max f=18446744073709551615 - f:=by
 obtain ⟨b,rfl⟩:∃ b:Nat,f=(b:Int):=⟨f.toNat,by omega⟩
 have:=u64_xor_nat 18446744073709551615 b (by omega) (by omega)
 rw [show ((18446744073709551615:Nat):Int)=IntKind.u64.max from rfl] at this
 rw [this,xor_all b (by omega)]
 show _=(18446744073709551615:Int) - _
 omega
structure Two (w:World) (q p:Loc) (W:World):Prop where
 a:CellsAt W w.heap.size 0 q
 b:CellsAt W (w.heap.size+1) 0 p
 g:Below w.heap.size w W
 s:w.heap.size+2<=W.heap.size
theorem Two.start (q p:Loc) (w:World):Two w q p ((w.alloc (.cells #[.int .i64 q.v.k,.int .i64 q.v.n,.int .u64 q.v.f,.string q.v.s,.slice q.ad q.v.l.length q.cap,.slice q.bd q.v.e.length q.dap] 32)).alloc
 (.cells #[.int .i64 p.v.k,.int .i64 p.v.n,.int .u64 p.v.f,.string p.v.s,.slice p.ad p.v.l.length p.cap,.slice p.bd p.v.e.length p.dap] 32)):=by
 refine ⟨?_,?_,((Below.refl _ w).alloc (Nat.le_refl _) _).alloc (by simp) _,by simp⟩
 ·refine CellsAt.box (ty:=32) ?_
  rw [Below.heap_alloc _ _ _ (by simp)]
  exact heap_alloc_new w _
 ·refine CellsAt.box (ty:=32) ?_
  have:=heap_alloc_new (w.alloc (.cells #[.int .i64 q.v.k,.int .i64 q.v.n,.int .u64 q.v.f,.string q.v.s,.slice q.ad q.v.l.length q.cap,.slice q.bd q.v.e.length q.dap] 32)) (.cells #[.int .i64 p.v.k,.int .i64 p.v.n,.int .u64 p.v.f,.string p.v.s,.slice p.ad p.v.l.length p.cap,.slice p.bd p.v.e.length p.dap] 32)
  rwa [World.size_alloc] at this
theorem Two.keep {w:World} {q p:Loc} {W W':World} (h:Two w q p W) (hb:Below W.heap.size W W'):Two w q p W':=by
 have hs:=h.s
 exact ⟨h.a.through (hb.block _ (by omega)),h.b.through (hb.block _ (by omega)),h.g.trans (hb.mono h.g.size),by have:=hb.size;omega⟩
def fbits (f:Int):Int:=if f<9223372036854775808 then f+9223372036854775808 else 18446744073709551615 - f
def sgn (x y:Int):Int:=if x<y then -1 else if y<x then 1 else 0
def sgnB (a b:ByteArray):Int:=if Op.bytesLess a.toList b.toList then -1 else if (Op.bytesLess a.toList b.toList || a.toList==b.toList) then 0 else 1
def CmpPost (c:Int) (w:World) (e:Ending) (w':World):Prop:=e=.returned (.int .i64 c)/\w=w'
theorem cmpInt_any (x y:Int) (w:World):Calls Tryz.prog 32 #[.int .i64 x,.int .i64 y] w (CmpPost (sgn x y) w):=by
 by_cases h1:x<y
 ·have e:sgn x y=-1:=by unfold sgn;rw [if_pos h1]
  go_enter Tryz.func32,Tryz.ntmps32
  go_wp2
  go_ret
  exact ⟨by first|rfl|(rw [e];rfl),rfl⟩
 by_cases h2:y<x
 ·have e:sgn x y=1:=by unfold sgn;rw [if_neg h1,if_pos h2]
  go_enter Tryz.func32,Tryz.ntmps32
  go_wp2
  go_ret
  exact ⟨by first|rfl|(rw [e];rfl),rfl⟩
 ·have e:sgn x y=0:=by unfold sgn;rw [if_neg h1,if_neg h2]
  go_enter Tryz.func32,Tryz.ntmps32
  go_wp2
  go_ret
  exact ⟨by first|rfl|(rw [e];rfl),rfl⟩
theorem cmpI64_any (x y:Int) (w:World):Calls Tryz.prog 33 #[.int .i64 x,.int .i64 y] w (CmpPost (sgn x y) w):=by
 by_cases h1:x<y
 ·have e:sgn x y=-1:=by unfold sgn;rw [if_pos h1]
  go_enter Tryz.func33,Tryz.ntmps33
  go_wp2
  go_ret
  exact ⟨by first|rfl|(rw [e];rfl),rfl⟩
 by_cases h2:y<x
 ·have e:sgn x y=1:=by unfold sgn;rw [if_neg h1,if_pos h2]
  go_enter Tryz.func33,Tryz.ntmps33
  go_wp2
  go_ret
  exact ⟨by first|rfl|(rw [e];rfl),rfl⟩
 ·have e:sgn x y=0:=by unfold sgn;rw [if_neg h1,if_neg h2]
  go_enter Tryz.func33,Tryz.ntmps33
  go_wp2
  go_ret
  exact ⟨by first|rfl|(rw [e];rfl),rfl⟩
theorem cmpU64_any (x y:Int) (w:World):Calls Tryz.prog 34 #[.int .u64 x,.int .u64 y] w (CmpPost (sgn x y) w):=by
 by_cases h1:x<y
 ·have e:sgn x y=-1:=by unfold sgn;rw [if_pos h1]
  go_enter Tryz.func34,Tryz.ntmps34
  go_wp2
  go_ret
  exact ⟨by first|rfl|(rw [e];rfl),rfl⟩
 by_cases h2:y<x
 ·have e:sgn x y=1:=by unfold sgn;rw [if_neg h1,if_pos h2]
  go_enter Tryz.func34,Tryz.ntmps34
  go_wp2
  go_ret
  exact ⟨by first|rfl|(rw [e];rfl),rfl⟩
 ·have e:sgn x y=0:=by unfold sgn;rw [if_neg h1,if_neg h2]
  go_enter Tryz.func34,Tryz.ntmps34
  go_wp2
  go_ret
  exact ⟨by first|rfl|(rw [e];rfl),rfl⟩
theorem cmpStr_any (a b:ByteArray) (w:World):Calls Tryz.prog 36 #[.string a,.string b] w (CmpPost (sgnB a b) w):=by
 obtain ⟨x,hx⟩:∃ x,Op.bytesLess a.toList b.toList=x:=⟨_,rfl⟩
 obtain ⟨y,hy⟩:∃ y,(a.toList==b.toList)=y:=⟨_,rfl⟩
 have e:sgnB a b=if x=true then -1 else if (x || y)=true then 0 else 1:=by unfold sgnB;rw [hx,hy]
 have E:=hid e
 clear e
 cases x with
 | true =>
   go_enter Tryz.func36,Tryz.ntmps36
   go_wp2
   go_ret
   exact ⟨by rw [E.out];rfl,rfl⟩
 | false =>
   cases y with
   | true =>
     go_enter Tryz.func36,Tryz.ntmps36
     go_wp2
     go_ret
     exact ⟨by rw [E.out];rfl,rfl⟩
   | false =>
     go_enter Tryz.func36,Tryz.ntmps36
     go_wp2
     go_ret
     exact ⟨by rw [E.out];rfl,rfl⟩
def RankPost (n:Int) (w:World) (e:Ending) (w':World):Prop:=e=.returned (.int .u64 n)/\w=w'
theorem ior_top (f:Int) (h0:0<=f) (h1:f<9223372036854775808):bits .or .u64 f 9223372036854775808=f+9223372036854775808:=by
 obtain ⟨b,rfl⟩:∃ b:Nat,f=(b:Int):=⟨f.toNat,by omega⟩
 have:=u64_or_nat b 9223372036854775808 (by omega) (by omega)
 rw [show ((9223372036854775808:Nat):Int)=9223372036854775808 from rfl] at this
 rw [this]
 have h2:b ||| 9223372036854775808=9223372036854775808+b:=by
  have:=Nat.two_pow_add_eq_or_of_lt (i:=63) (b:=b) (by omega) 1
  rw [Nat.mul_one,show 2 ^ 63=9223372036854775808 from rfl] at this
  rw [Nat.or_comm];exact this.symm
 rw [h2];omega
theorem rank_any (f:Int) (w:World) (h0:0<=f) (h1:f<=18446744073709551615):Calls Tryz.prog 35 #[.int .u64 f] w (RankPost (fbits f) w):=by
 obtain ⟨N,hN⟩:∃ N,fbits f=N:=⟨_,rfl⟩
 rw [hN]
 by_cases hf:f<9223372036854775808
 ·have hb:bits .or .u64 f 9223372036854775808=N:=by rw [ior_top f h0 hf,<-hN];unfold fbits;rw [if_pos hf]
  have t1:(f / 9223372036854775808==1)=false:=by simp;omega
  clear hN
  go_enter Tryz.func35,Tryz.ntmps35
  go_wp2
  go_ret
  exact ⟨rfl,rfl⟩
 ·have hb:bits .xor .u64 IntKind.u64.max f=N:=by rw [ixor_all f h0 h1,<-hN];unfold fbits;rw [if_neg hf]
  have t1:(f / 9223372036854775808==1)=true:=by simp;omega
  clear hN
  go_enter Tryz.func35,Tryz.ntmps35
  go_wp2
  go_ret
  exact ⟨rfl,rfl⟩
def orL:List Int->Int
 | []=>0
 | x::xs=>if x≠0 then x else orL xs
theorem orL_drop {zs:List Int} {k:Nat} {x:Int} (h:zs[k]?=some x):orL (zs.drop k)=if x≠0 then x else orL (zs.drop (k+1)):=by
 obtain ⟨hl,hx⟩:=List.getElem?_eq_some_iff.1 h
 rw [List.drop_eq_getElem_cons hl,hx,orL]
theorem or_any (b:Nat) (c:Nat) (zs:List Int) (w:World) (hc:∀ k x,zs[k]?=some x->w.cell? ⟨b,k,none⟩=some (.int .i64 x)) (hl:zs.length<=100):Calls Tryz.prog 31 #[.slice (some ⟨b,0,none⟩) zs.length c] w (CmpPost (orL zs) w):=by
 obtain ⟨n,hn⟩:∃ n,zs.length=n:=⟨_,rfl⟩
 rw [hn] at hl ⊢
 have HN:=hid hn
 have HC:=hid hc
 clear hn hc
 go_enter Tryz.func31,Tryz.ntmps31
 go_wp2
 go_loop [8] (fun i=>∃ k:Nat,k<=n/\i=.int .i64 k/\Hid (orL (zs.drop k)=orL zs)) (fun i=>n - (intOf i).toNat)
 case atStart=>exact ⟨0,Nat.zero_le _,rfl,rfl⟩
 case round =>
  obtain ⟨k,hk,rfl,hr⟩:=hrel
  by_cases hlt:k<n
  ·obtain ⟨x,hx⟩:∃ x,zs[k]?=some x:=⟨_,List.getElem?_eq_getElem (by rw [HN.out];exact hlt)⟩
   have hcx:=HC.out k x hx
   have hd:=orL_drop hx
   rw [hr.out] at hd
   have HD:=hid hd
   clear hx hd
   by_cases h0:x=0
   ·subst h0
    have HD2:Hid (orL (zs.drop (k+1))=orL zs):=hid (by rw [HD.out];rfl)
    go_wp2
    go_round
    case rel=>exact ⟨k+1,by omega,by go_num,HD2⟩
    case measure=>simp [intOf];omega
   ·have t1:(x != 0)=true:=by simpa using h0
    have HD2:Hid (orL zs=x):=hid (by rw [HD.out,if_pos h0])
    clear h0
    go_wp2
    go_ret
    exact ⟨by rw [HD2.out];rfl,rfl⟩
  ·obtain rfl:k=n:=by omega
   have h0:orL zs=0:=by rw [<-hr.out,List.drop_of_length_le (Nat.le_of_eq HN.out)];rfl
   have H0:=hid h0
   clear h0
   go_wp2
   go_ret
   exact ⟨by rw [H0.out];rfl,rfl⟩
end Go.Proofs.YtgnonbdkmmkdgaaGreatDoor
