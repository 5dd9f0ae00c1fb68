/-
  Lemmas for the statement: plain laws, and what functions answer; the conditions stand in each.
-/
import Derived.Deep.Upon
import Derived.Laws.IdiomStrings
import Derived.Test.YtgnonbdkmmkdgaaGreatDoorChainTypedAllPartE
set_option linter.unusedVariables false
set_option linter.unusedSimpArgs false
set_option maxHeartbeats 16000000
set_option maxRecDepth 100000
open Go.Lib (hid)
namespace Go.Proofs.YtgnonbdkmmkdgaaGreatDoor
open Go.RowKit Gx
structure OfR (v:V) (a:Ty):Prop where
 n:Nm a
 k:a.k≠11
 f:Fit false a v
theorem of_leaf {a:Ty} {v:V} (hp:Prt a.k) (h8:a.k≠8) (h10:a.k≠10) (ht:tells a.k v.k=true) (h4:a.k=4->a.lo=v.n/\a.hi=v.n) (h6:a.k=6->a.lo=runeN v.s.data.toList/\a.hi=runeN v.s.data.toList):OfR v a:=by
 obtain ⟨n1,n2,n3,n4⟩:=hp.ne
 refine ⟨.leaf a hp h8 h10,n1,mk_plain n1 ht (fun h=>?_) (fun h=>?_) n3 n4 h10 (fun h=>absurd h h8)⟩
 ·have:=h4 h;omega
 ·have:=h6 h;omega
theorem of_list {a b:Ty} {v:V} (hk:a.k=8) (hv:v.k=5) (hlo:a.lo=v.l.length) (hhi:a.hi=v.l.length) (ht:a.t=[b]) (hb:Nm b) (hf:∀ c∈v.l,Fit false b c):OfR v a:=by
 refine ⟨.list a b hk ht hb,by omega,mk_plain (by omega) (by rw [hk,hv];rfl) (fun h=>by omega) (fun h=>by omega) (by omega) (by omega) (by omega) (fun _=>⟨by omega,fun c hc=>?_⟩)⟩
 rw [ht];exact hf c hc
def EntF (e:ByteArray×V) (f:Fd Ty):Prop:=f.n=e.1/\f.o=false/\f.h=false/\OfR e.2 f.t
theorem entF_names {l:List (ByteArray×V)} {m:List (Fd Ty)} (h:AllF EntF l m):m.map Fd.n=l.map Prod.fst:=by
 induction h with
 | nil=>rfl
 | cons x y l m h hl ih=>rw [List.map_cons,List.map_cons,ih,h.1]
theorem rise_nodup:∀ {e:List (ByteArray×V)},Rise e->(e.map Prod.fst).Nodup
 | [],_=>by simp
 | x::e,h=>by
   unfold Rise at h
   rw [List.pairwise_cons] at h
   rw [List.map_cons,List.nodup_cons]
   refine ⟨fun hm=>?_,rise_nodup h.2⟩
   obtain ⟨y,hy,e1⟩:=List.mem_map.1 hm
   have:=h.1 y hy
   rw [e1,bl_no] at this;cases this
theorem nodup_key:∀ {e:List (ByteArray×V)} {x y:ByteArray×V},(e.map Prod.fst).Nodup->x∈e->y∈e->x.1=y.1->x=y
 | [],_,_,_,h,_,_=>absurd h List.not_mem_nil
 | a::l,b,c,hn,hb,hc,e=>by
   rw [List.map_cons,List.nodup_cons] at hn
   rcases List.mem_cons.1 hb with h1|h1
   ·rcases List.mem_cons.1 hc with h2|h2
    ·rw [h1,h2]
    ·exact absurd (List.mem_map.2 ⟨c,h2,by rw [<-e,h1]⟩) hn.1
   ·rcases List.mem_cons.1 hc with h2|h2
    ·exact absurd (List.mem_map.2 ⟨b,h1,by rw [e,h2]⟩) hn.1
    ·exact nodup_key hn.2 h1 h2 e
theorem of_table {a:Ty} {v:V} (hk:a.k=10) (hv:v.k=6) (hr:Rise v.e) (hf:AllF EntF v.e a.f):OfR v a:=by
 have hn:=entF_names hf
 have hnd:=rise_nodup hr
 refine ⟨.record a hk (by rw [hn];exact hnd) (fun f h=>?_) (fun f h=>?_),by omega,record_fit hk hv (fun c hc=>?_) (fun c hc f h=>?_) (fun f h _=>?_)⟩
 ·obtain ⟨e,-,h1⟩:=hf.right f h;exact h1.2.2.1
 ·obtain ⟨e,-,h1⟩:=hf.right f h;exact h1.2.2.2.n
 ·rw [hn];exact List.mem_map.2 ⟨c,hc,rfl⟩
 ·obtain ⟨h1,h2⟩:=fdOf_mem h
  obtain ⟨e,he,r1,-,-,r2⟩:=hf.right f h1
  obtain rfl:e=c:=nodup_key hnd he hc (r1.symm.trans h2)
  exact r2.f
 ·obtain ⟨e,he,r1,-⟩:=hf.right f h
  rw [r1];exact List.mem_map.2 ⟨e,he,rfl⟩
def MvOk (m:Mv):Prop:=(∀ s∈m.p,okText s.data.toList)/\okText m.key.data.toList/\(m.k=1->okText m.dst.data.toList)/\(m.k=3->chkV m.v=0)
def stepV (m:Mv) (v:V):Except Int V:=alongV (tableM m) m.p v
theorem step_fit {m:Mv} {a u:Ty} {v:V} (h:TypedR m m.p a u) (hq:Uq a) (hx:Fit false a v) (hw:∀ d,WfD d v) (hv:chkV v=0) (hm:MvOk m):∃ z,stepV m v=.ok z/\Fit false u z/\(chkV z=0\/chkV z=2\/chkV z=5):=by
 obtain ⟨z,h1,h2⟩:=along_fit m.p a u v h hq hx hw
 obtain ⟨m1,m2,m3,m4⟩:=hm
 exact ⟨z,h1,h2,shape_good (along_shape (fun v z h hk hs=>table_shape h hk hs (fun e=>good_shape (m4 e)) m2 m3) m.p v z h1 (good_shape hv) m1)⟩
inductive KOk:Ty->Prop
 | mk (a:Ty) (h1:1<=a.k) (h2:a.k<=11) (ht:∀ b∈a.t,KOk b) (hf:∀ b∈a.f,KOk b.t):KOk a
theorem KOk.k1 {a:Ty} (h:KOk a):1<=a.k:=by cases h;assumption
theorem KOk.k2 {a:Ty} (h:KOk a):a.k<=11:=by cases h;assumption
theorem KOk.t {a:Ty} (h:KOk a):∀ b∈a.t,KOk b:=by cases h;assumption
structure Kep (n0 b:Nat) (A B:World):Prop where
 os:B.os=A.os
 tape:B.tape=A.tape
 output:B.output=A.output
 k:KeM n0 b A B
theorem Kep.size {n0 b:Nat} {A B:World} (h:Kep n0 b A B):A.heap.size<=B.heap.size:=h.k.size
theorem Kep.trans {n0 b:Nat} {A B C:World} (h:Kep n0 b A B) (g:Kep n0 b B C):Kep n0 b A C:=⟨g.os.trans h.os,g.tape.trans h.tape,g.output.trans h.output,h.k.trans g.k⟩
theorem Kep.below {n0 b:Nat} {A B:World} (h:Below A.heap.size A B):Kep n0 b A B:=⟨h.os,h.tape,h.output,⟨h.size,fun k _ hl=>h.block k hl⟩⟩
theorem Kep.ty {n0 b:Nat} {A B:World} {q:Lt} (h:Kep n0 b A B) (hq:TyAt A (Bw n0 b) q):TyAt B (Bw n0 b) q:=hq.through h.size (fun k hb hl=>h.k.block k hb hl) (fun _ h _=>h)
theorem Kep.to_below {n0 b n:Nat} {w A B:World} (h:Kep n0 b A B) (hw:Below n w A) (hn:n<=n0) (hb:n<=b) (hA:n<=A.heap.size):Below n w B :=
 ⟨h.os.trans hw.os,h.tape.trans hw.tape,h.output.trans hw.output,Nat.le_trans hw.size h.size,fun i hi=>(h.k.block i ⟨by omega,by omega⟩ (by omega)).trans (hw.block i hi)⟩
def ComePost (n0 b:Nat) (I:List Ty->World->Prop) (l:List Ty) (w:World) (e:Ending) (w':World):Prop:=e=.returned (.tuple #[])/\I l w'/\Kep n0 b w w'
theorem come_step (N:Nat) (fn:FuncId) (hfn:fn=103\/fn=93) (b n0:Nat) (c sv:Value) (I:List Ty->World->Prop) (hI:∀ pre W W',I pre W->Below W.heap.size W W'->I pre W')
 (hcall:∀ pre (x:Lt) W,I pre W->TyAt W (Bw n0 b) x->n0<=W.heap.size->KOk x.v->x.v.k≠11->pre.length+1<=N->Calls Tryz.prog fn #[x.val,.pointer (some ⟨b,0,none⟩)] W (ComePost n0 b I (pre++[x.v]) W))
 (v:Ty) (xd td fd:Option Addr) (xc tc fc:Nat) (pre:List Ty) (w:World) (hp:I pre w) (hq:TyAt w (Bw n0 b) ⟨v,xd,xc,td,tc,fd,fc⟩) (hn:n0<=w.heap.size) (hk:KOk v) (hN:(pre++v.flat).length<=N)
 (ih:∀ (q:Lt) (pre:List Ty) (w:World),SizeOf.sizeOf q.v<SizeOf.sizeOf v->I pre w->TyAt w (Bw n0 b) q->n0<=w.heap.size->KOk q.v->(pre++q.v.flat).length<=N ->
   Calls Tryz.prog 68 #[c,q.val,sv,.func (.func fn) #[] #[.pointer (some ⟨b,0,none⟩)]] w (ComePost n0 b I (pre++q.v.flat) w)) :
 Calls Tryz.prog 68 #[c,.agg #[.int .i64 v.k,.int .i64 v.lo,.int .i64 v.hi,.slice xd v.x.length xc,.slice td v.t.length tc,.slice fd v.f.length fc,.string v.n],sv,.func (.func fn) #[] #[.pointer (some ⟨b,0,none⟩)]] w (ComePost n0 b I (pre++v.flat) w):=by
 have hb1:=(Below.refl w.heap.size w).alloc (Nat.le_refl _) (.cells #[.int .i64 v.k,.int .i64 v.lo,.int .i64 v.hi,.slice xd v.x.length xc,.slice td v.t.length tc,.slice fd v.f.length fc,.string v.n] 27)
 have hc:=heap_alloc_new w (.cells #[.int .i64 v.k,.int .i64 v.lo,.int .i64 v.hi,.slice xd v.x.length xc,.slice td v.t.length tc,.slice fd v.f.length fc,.string v.n] 27)
 have HI1:=hid (hI _ _ _ hp hb1)
 have HK1:=hid (Kep.below (n0:=n0) (b:=b) hb1)
 have HQ1:=hid (hq.keep hb1)
 have HN1:=hid (Nat.le_trans hn hb1.size)
 have HI:=hid hI
 have HC:=hid hcall
 have IH:=hid ih
 have HK:=hid hk
 have HNN:=hid hN
 have hk1:=hk.k1
 have hk2:=hk.k2
 have htl:v.t.length * 8<=140737488351232:=by have:=hq.t.bound;rw [tf_len] at this;exact this
 clear hb1 hp hq hn hI hcall ih hk hN
 go_enter Tryz.func68,Tryz.ntmps68
 go_upto_region 1 with fail
 generalize World.alloc w _=w1 at hc HI1 HK1 HQ1 HN1 ⊢
 obtain ⟨c0,c1,c2,c3,c4,c5,c6,-⟩:=ty_cells hc
 clear hc
 have t12:(v.k==12)=false:=beq_eq_false_iff_ne.2 (by omega)
 by_cases h11:v.k=11
 rotate_left
 ·have t11:(v.k==11)=false:=beq_eq_false_iff_ne.2 h11
  have hcl:=HC.out pre ⟨v,xd,xc,td,tc,fd,fc⟩ w1 HI1.out HQ1.out HN1.out HK.out h11 (by have:=HNN.out;rw [Ty.flat_one h11] at this;simpa using this)
  unfold Lt.val at hcl
  have HCL:=hid hcl
  have HFL:Hid (v.flat=[v]):=hid (Ty.flat_one h11)
  clear hcl h11 hk1 hk2
  rcases hfn with rfl|rfl
  all_goals
   go_wp2_with fail
   (with_reducible refine HCL.out.mono ?_)
   rintro e w2 ⟨rfl,hi2,hk2⟩
   have HR:Hid (ComePost n0 b I (pre++v.flat) w (.returned (.tuple #[])) w2):=hid ⟨rfl,by rw [HFL.out];exact hi2,HK1.out.trans hk2⟩
   clear hi2 hk2 HCL HFL
   go_wp2_with fail
   exact bodyPost_ret (v:=.tuple #[]) (by simp [results,Tryz.results68,go_sem]) rfl HR.out
 ·have t11:(v.k==11)=true:=beq_iff_eq.2 h11
  have HFL:Hid (v.flat=v.t.flatMap Ty.flat):=hid (Ty.flat_union h11)
  obtain ⟨nl,hnl⟩:∃ nl,v.t.length=nl:=⟨_,rfl⟩
  rw [hnl] at c4 htl ⊢
  have HNL:=hid hnl
  clear h11 hk1 hk2 hnl
  go_wp2_with fail
  clear c0 c1 c2 c3 c4 c5 c6
  go_loopw [46] (fun v46 wr=>∃ k:Nat,k<=nl/\v46=.int .i64 k/\Hid (I (pre++(v.t.take k).flatMap Ty.flat) wr)/\Hid (Kep n0 b w wr)/\Hid (TyAt wr (Bw n0 b) ⟨v,xd,xc,td,tc,fd,fc⟩)/\Hid (n0<=wr.heap.size)) (fun v46 _=>nl - (intOf v46).toNat)
  case atStart=>exact ⟨0,Nat.zero_le _,rfl,hid (by simpa using HI1.out),HK1,HQ1,HN1⟩
  case round =>
   obtain ⟨k,hk,rfl,HIr,HKr,HQr,HNr⟩:=hrel
   clear HI1 HK1 HQ1 HN1
   by_cases hlt:k<nl
   ·obtain ⟨x,hx⟩:∃ x,v.t[k]?=some x:=⟨_,List.getElem?_eq_getElem (by rw [HNL.out];exact hlt)⟩
    obtain ⟨b1,o1,hd1,-,hbl1,hcs1⟩:=HQr.out.t.elem (by show 0<v.t.length;rw [HNL.out];omega)
    simp only at hd1
    subst hd1
    obtain ⟨q1,hq1,hv1,hg1⟩:=hcs1 k x hx
    obtain ⟨e0,e1,e2,e3,e4,e5,e6⟩:=hg1
    have r1:(0:Int)<=(k:Int):=by omega
    have r2:(k:Int)<(nl:Int):=by omega
    have r4:(k:Int).toNat=k:=rfl
    have hba:=(Below.refl wr.heap.size wr).alloc (Nat.le_refl _) (.cells #[.int .i64 q1.v.k,.int .i64 q1.v.lo,.int .i64 q1.v.hi,.slice q1.xd q1.v.x.length q1.xc,.slice q1.td q1.v.t.length q1.tc,.slice q1.fd q1.v.f.length q1.fc,.string q1.v.n] 27)
    have hcb:=heap_alloc_new wr (.cells #[.int .i64 q1.v.k,.int .i64 q1.v.lo,.int .i64 q1.v.hi,.slice q1.xd q1.v.x.length q1.xc,.slice q1.td q1.v.t.length q1.tc,.slice q1.fd q1.v.f.length q1.fc,.string q1.v.n] 27)
    have hmem:x∈v.t:=List.mem_of_getElem? hx
    have HIa:=hid (HI.out _ _ _ HIr.out hba)
    have HKa:=hid (HKr.out.trans (Kep.below (n0:=n0) (b:=b) hba))
    have HQa:=hid (HQr.out.keep hba)
    have HNa:=hid (Nat.le_trans HNr.out hba.size)
    have hih:=IH.out q1 _ _ (by rw [hq1];exact Ty.lt_t hmem) HIa.out (hv1.keep hba) HNa.out (by rw [hq1];exact HK.out.t x hmem)
    have HSN:Hid (pre++(v.t.take (k+1)).flatMap Ty.flat=pre++(v.t.take k).flatMap Ty.flat++q1.v.flat):=hid (by
     rw [take_snoc hx,List.flatMap_append,hq1];simp)
    have hih:=hih (by
     rw [<-HSN.out]
     refine Nat.le_trans ?_ HNN.out
     rw [HFL.out]
     have e:v.t.flatMap Ty.flat=(v.t.take (k+1)).flatMap Ty.flat++(v.t.drop (k+1)).flatMap Ty.flat:=by rw [<-List.flatMap_append,List.take_append_drop]
     rw [e]
     simp only [List.length_append]
     omega)
    rw [<-HSN.out] at hih
    unfold Lt.val at hih
    have HIH:=hid hih
    clear hih hx hq1 hv1 hcs1 hba hmem HIr HKr HQr HNr
    go_upto_region 11 with fail
    generalize World.alloc wr _=wx at hcb HIa HKa HQa HNa HIH ⊢
    obtain ⟨d0,d1,d2,d3,d4,d5,d6,-⟩:=ty_cells hcb
    clear hcb e0 e1 e2 e3 e4 e5 e6
    go_wp2_with fail
    (with_reducible refine HIH.out.mono ?_)
    rintro e w2 ⟨rfl,hi2,hk2⟩
    have H1:=hid hi2
    have H2:=hid (HKa.out.trans hk2)
    have H3:=hid (Kep.ty hk2 HQa.out)
    have H4:=hid (Nat.le_trans HNa.out hk2.size)
    clear hi2 hk2 HIH d0 d1 d2 d3 d4 d5 d6 HIa HKa HQa HNa HSN
    go_wp2_with fail
    go_roundw
    case rel=>exact ⟨k+1,by omega,by go_num,H1,H2,H3,H4⟩
    case measure=>simp [intOf];omega
   ·obtain rfl:k=nl:=by omega
    have HR:Hid (ComePost n0 b I (pre++v.flat) w (.returned (.tuple #[])) wr):=hid ⟨rfl,by
     have:=HIr.out
     rw [HFL.out]
     rwa [List.take_of_length_le (by rw [HNL.out];exact Nat.le_refl _)] at this,HKr.out⟩
    clear HIr HKr HQr HNr
    go_wp2_with fail
    exact bodyPost_ret (v:=.tuple #[]) (by simp [results,Tryz.results68,go_sem]) rfl HR.out
theorem come_any (N:Nat) (fn:FuncId) (hfn:fn=103\/fn=93) (b n0:Nat) (c sv:Value) (I:List Ty->World->Prop) (hI:∀ pre W W',I pre W->Below W.heap.size W W'->I pre W')
 (hcall:∀ pre (x:Lt) W,I pre W->TyAt W (Bw n0 b) x->n0<=W.heap.size->KOk x.v->x.v.k≠11->pre.length+1<=N->Calls Tryz.prog fn #[x.val,.pointer (some ⟨b,0,none⟩)] W (ComePost n0 b I (pre++[x.v]) W))
 (q:Lt) (pre:List Ty) (w:World) (hp:I pre w) (hq:TyAt w (Bw n0 b) q) (hn:n0<=w.heap.size) (hk:KOk q.v) (hN:(pre++q.v.flat).length<=N) :
 Calls Tryz.prog 68 #[c,q.val,sv,.func (.func fn) #[] #[.pointer (some ⟨b,0,none⟩)]] w (ComePost n0 b I (pre++q.v.flat) w):=by
 have key:∀ (n:Nat) (q:Lt) (pre:List Ty) (w:World),SizeOf.sizeOf q.v<=n->I pre w->TyAt w (Bw n0 b) q->n0<=w.heap.size->KOk q.v->(pre++q.v.flat).length<=N ->
  Calls Tryz.prog 68 #[c,q.val,sv,.func (.func fn) #[] #[.pointer (some ⟨b,0,none⟩)]] w (ComePost n0 b I (pre++q.v.flat) w):=by
  intro n
  induction n with
  | zero=>intro q pre w h;obtain ⟨v,_⟩:=q;cases v;simp at h
  | succ n ih=>exact fun q pre w h hp hq hn hk hN=>come_step N fn hfn b n0 c sv I hI hcall q.v q.xd q.td q.fd q.xc q.tc q.fc pre w hp hq hn hk hN (fun q' pre' w' h' hp' hq' hn' hk' hN'=>ih q' pre' w' (by omega) hp' hq' hn' hk' hN')
 exact key _ q pre w (Nat.le_refl _) hp hq hn hk hN
structure RecFit (full:Bool) (l:List (Fd Ty)) (e:List (ByteArray×V)):Prop where
 r:∀ c∈e,(fdOf l c.1).isSome=true
 f:∀ c∈e,∀ f,fdOf l c.1=some f->Fit full f.t c.2
 a:∀ f∈l,askF full f=true->f.n∈e.map Prod.fst
structure PartFit (full:Bool) (b:Ty) (v:V):Prop where
 i:b.k=4->b.lo<=v.n/\v.n<=b.hi
 s:b.k=6->b.lo<=runeN v.s.data.toList/\(runeN v.s.data.toList:Int)<=b.hi
 o:b.k=7->v.s∈b.x
 n:b.k=8->b.lo<=v.l.length/\(v.l.length:Int)<=b.hi
 l:b.k=8->∀ c∈v.l,Fit full (b.t.getD 0 default) c
 m:b.k=9->∀ c∈v.e,Fit full (b.t.getD 0 default) c.2
 r:b.k=10->RecFit full b.f v.e
theorem fit_iff {full:Bool} {a:Ty} {v:V}:Fit full a v↔∃ b,a.pick v.k=some b/\PartFit full b v:=by
 constructor
 ·rintro ⟨_,_,b,hb,hi,hs,ho,hn,hl,hm,hr,hf,ha⟩
  exact ⟨b,hb,hi,hs,ho,hn,hl,hm,fun h=>⟨hr h,hf h,ha h⟩⟩
 ·rintro ⟨b,hb,hi,hs,ho,hn,hl,hm,hr⟩
  exact .mk a v b hb hi hs ho hn hl hm (fun h=>(hr h).r) (fun h=>(hr h).f) (fun h=>(hr h).a)
theorem fit_none {full:Bool} {a:Ty} {v:V} (h:a.pick v.k=none):¬ Fit full a v:=fun hf=>by
 obtain ⟨b,hb,-⟩:=fit_iff.1 hf
 rw [h] at hb;cases hb
theorem fit_some {full:Bool} {a b:Ty} {v:V} (h:a.pick v.k=some b):Fit full a v↔PartFit full b v:=by
 rw [fit_iff]
 exact ⟨fun ⟨c,hc,hp⟩=>by rw [h] at hc;cases hc;exact hp,fun hp=>⟨b,h,hp⟩⟩
inductive TOk:Ty->Prop
 | mk (a:Ty) (hk:KOk a) (h1:a.k=8\/a.k=9->a.t.length=1) (hx:a.k=7->0<a.x.length) (hl:a.flat.length<=100000000000) (ht:∀ b∈a.t,TOk b) (hf:∀ b∈a.f,TOk b.t):TOk a
theorem TOk.k {a:Ty} (h:TOk a):KOk a:=by cases h;assumption
theorem TOk.one {a:Ty} (h:TOk a):a.k=8\/a.k=9->a.t.length=1:=by cases h;assumption
theorem TOk.x {a:Ty} (h:TOk a):a.k=7->0<a.x.length:=by cases h;assumption
theorem TOk.l {a:Ty} (h:TOk a):a.flat.length<=100000000000:=by cases h;assumption
theorem TOk.t {a:Ty} (h:TOk a):∀ b∈a.t,TOk b:=by cases h;assumption
theorem TOk.f {a:Ty} (h:TOk a):∀ b∈a.f,TOk b.t:=by cases h;assumption
theorem TOk.flat {a:Ty} (h:TOk a):∀ b∈a.flat,TOk b/\b.k≠11:=by
 induction h with
 | mk a hk h1 hx hl ht hf iht ihf =>
   intro b hb
   by_cases hk2:a.k=11
   ·rw [Ty.flat_union hk2,List.mem_flatMap] at hb
    obtain ⟨c,hc,hb⟩:=hb
    exact iht c hc b hb
   ·rw [Ty.flat_one hk2,List.mem_singleton] at hb
    subst hb
    exact ⟨.mk b hk h1 hx hl ht hf,hk2⟩
def toldI (l:List Ty):Int:=l.foldl (fun a t=>bits .or .i64 a (kindsN t.k:Int)) 0
theorem toldI_snoc (l:List Ty) (t:Ty):toldI (l++[t])=bits .or .i64 (toldI l) (kindsN t.k:Int):=by simp [toldI]
def ToldI (b:Nat) (l:List Ty) (W:World):Prop:=W.heap[b]?=some (.cells #[.int .i64 (toldI l)] 3)
theorem ToldI.keep {b:Nat} {l:List Ty} {W W':World} (h:ToldI b l W) (hb:Below W.heap.size W W'):ToldI b l W':=(hb.block b (Array.getElem?_eq_some_iff.1 h).1).trans h
theorem cell_one {w:World} {b:Nat} {ty:TypeId} {a0:Value} (h:w.heap[b]?=some (.cells #[a0] ty)):w.cell? ⟨b,0,none⟩=some a0/\w.frozen? ⟨b,0,none⟩=false :=
 ⟨by simp [World.cell?,h],by simp [World.frozen?,h]⟩
theorem cell_set {w:World} {b:Nat} {ty:TypeId} {a0:Value} (h:w.heap[b]?=some (.cells #[a0] ty)) (u:Value):(w.setCell ⟨b,0,none⟩ u).heap[b]?=some (.cells #[u] ty):=by
 simp [World.setCell,Array.getElem?_modify,h]
theorem Kep.set (n0 b:Nat) (W:World) (u:Value):Kep n0 b W (W.setCell ⟨b,0,none⟩ u):=by
 have hg:=grown_cell W b 0 u
 exact ⟨hg.os,hg.tape,hg.output,⟨hg.size,fun k hk hl=>hg.block k hl (fun e=>hk.2 (Option.some.inj e))⟩⟩
theorem told1_any (b n0:Nat) (pre:List Ty) (x:Lt) (W:World) (hI:ToldI b pre W) (hk1:1<=x.v.k) (hk2:x.v.k<=12) :
 Calls Tryz.prog 93 #[x.val,.pointer (some ⟨b,0,none⟩)] W (ComePost n0 b (ToldI b) (pre++[x.v]) W):=by
 have hb1:=(Below.refl W.heap.size W).alloc (Nat.le_refl _) (.cells #[.int .i64 x.v.k,.int .i64 x.v.lo,.int .i64 x.v.hi,.slice x.xd x.v.x.length x.xc,.slice x.td x.v.t.length x.tc,.slice x.fd x.v.f.length x.fc,.string x.v.n] 27)
 have hc:=heap_alloc_new W (.cells #[.int .i64 x.v.k,.int .i64 x.v.lo,.int .i64 x.v.hi,.slice x.xd x.v.x.length x.xc,.slice x.td x.v.t.length x.tc,.slice x.fd x.v.f.length x.fc,.string x.v.n] 27)
 have HI1:=hid (hI.keep hb1)
 have HB1:=hid hb1
 have HKD:Hid (∀ W',Calls Tryz.prog 78 #[x.val] W' (IntB (kindsN x.v.k) W')):=hid (fun W'=>kinds_any x W' hk1 hk2)
 unfold Lt.val at HKD ⊢
 clear hb1 hI hk1 hk2
 obtain ⟨n,hn⟩:∃ n:Nat,kindsN x.v.k=n:=⟨_,rfl⟩
 rw [hn] at HKD
 have HN:=hid hn
 clear hn
 go_enter Tryz.func93,Tryz.ntmps93
 go_upto_region 1 with fail
 generalize World.alloc W _=w1 at hc HI1 HB1 ⊢
 obtain ⟨c0,c1,c2,c3,c4,c5,c6,-⟩:=ty_cells hc
 have HC:=hid hc
 obtain ⟨i0,if0⟩:=cell_one HI1.out
 obtain ⟨m,hm⟩:∃ m,toldI pre=m:=⟨_,rfl⟩
 rw [hm] at i0
 have HM:=hid hm
 have HI2:Hid (ToldI b pre w1.drew):=hid (HI1.out.keep (Gx.drewN_below w1 1 _))
 have HB2:Hid (Below W.heap.size W w1.drew):=hid (HB1.out.trans ((Gx.drewN_below w1 1 _).mono HB1.out.size))
 clear hm hc HC HI1 HB1
 go_region_law (first
  | (go_simp;(with_reducible refine (HKD.out _).mono ?_);rintro e w2 ⟨rfl,hb2⟩;have HI3:=hid (HI2.out.keep hb2);have HB3:=hid (HB2.out.trans (hb2.mono HB2.out.size));obtain ⟨i2,if2⟩:=cell_one HI3.out;rw [HM.out] at i2;clear hb2))
 all_goals
  have HR:Hid (ComePost n0 b (ToldI b) (pre++[x.v]) W (.returned (.tuple #[])) (w2.setCell ⟨b,0,none⟩ (.int .i64 (bits .or .i64 m (n:Int))))):=hid (by
   refine ⟨rfl,?_,(Kep.below HB3.out).trans (Kep.set n0 b w2 _)⟩
   unfold ToldI
   rw [toldI_snoc,HM.out,HN.out]
   exact cell_set HI3.out _)
  go_wp2_with fail
  exact bodyPost_ret (v:=.tuple #[]) (by simp [results,Tryz.results93,go_sem]) rfl HR.out
theorem told_any (c:Value) (q:Lt) (w:World) (hq:TyAt w (fun _=>True) q) (hk:KOk q.v):Calls Tryz.prog 70 #[c,q.val] w (IntB (toldI q.v.flat) w):=by
 obtain ⟨w2,hw2⟩:∃ w2,w2=(w.alloc (.cells #[.int .i64 q.v.k,.int .i64 q.v.lo,.int .i64 q.v.hi,.slice q.xd q.v.x.length q.xc,.slice q.td q.v.t.length q.tc,.slice q.fd q.v.f.length q.fc,.string q.v.n] 27)).alloc (.cells #[.int .i64 0] 3):=⟨_,rfl⟩
 obtain ⟨b,hb⟩:∃ b,b=w.heap.size+1:=⟨_,rfl⟩
 have hB2:Below w.heap.size w w2:=by rw [hw2];exact ((Below.refl w.heap.size w).alloc (Nat.le_refl _) _).alloc (by simp) _
 have hsz:w2.heap.size=b+1:=by rw [hw2,hb];simp
 have hc:w2.heap[w.heap.size]?=some (.cells #[.int .i64 q.v.k,.int .i64 q.v.lo,.int .i64 q.v.hi,.slice q.xd q.v.x.length q.xc,.slice q.td q.v.t.length q.tc,.slice q.fd q.v.f.length q.fc,.string q.v.n] 27):=by rw [hw2,Below.heap_alloc _ _ _ (by simp)];exact heap_alloc_new w _
 have hI:ToldI b [] w2:=by
  unfold ToldI
  have:=heap_alloc_new (w.alloc (.cells #[.int .i64 q.v.k,.int .i64 q.v.lo,.int .i64 q.v.hi,.slice q.xd q.v.x.length q.xc,.slice q.td q.v.t.length q.tc,.slice q.fd q.v.f.length q.fc,.string q.v.n] 27)) (.cells #[.int .i64 0] 3)
  rw [World.size_alloc] at this
  rw [hw2,hb];exact this
 have hqb:TyAt w (Bw (b+1) b) q:=hq.weak (fun k _ hk=>⟨by omega,by omega⟩)
 have hcome:∀ (sv:Value) (W:World),Below w2.heap.size w2 W->Calls Tryz.prog 68 #[c,q.val,sv,.func (.func 93) #[] #[.pointer (some ⟨b,0,none⟩)]] W (fun e w'=>e=.returned (.tuple #[])/\ToldI b q.v.flat w'/\Below w.heap.size w w'):=fun sv W hW=>by
  have hWq:TyAt W (Bw (b+1) b) q:=hqb.keep (hB2.trans (hW.mono hB2.size))
  refine (come_any _ 93 (.inr rfl) b (b+1) c sv (ToldI b) (fun _ _ _ h hb=>h.keep hb) (fun pre x W h _ _ hx _ _=>told1_any b (b+1) pre x W h hx.k1 (by have:=hx.k2;omega)) q [] W (hI.keep hW) hWq (by have:=hW.size;omega) hk (Nat.le_refl _)).mono ?_
  rintro e w' ⟨rfl,h1,h2⟩
  exact ⟨rfl,by simpa using h1,h2.to_below (hB2.trans (hW.mono hB2.size)) (by omega) (by omega) (by have:=hW.size;omega)⟩
 obtain ⟨c0,c1,c2,c3,c4,c5,c6,-⟩:=ty_cells hc
 unfold Lt.val at hcome ⊢
 have HC:=hid hcome
 have HW:=hid hw2
 have HB:=hid hb
 clear hcome hI hw2 hb hqb hq hc hk hsz hB2
 have hmm:=@run_makeMap Tryz.prog
 go_enter Tryz.func70,Tryz.ntmps70
 go_upto_region 2 with fail
 rw [<-HW.out,<-HB.out]
 clear HW HB
 go_wp2_with fail
 (with_reducible refine (HC.out _ _ ?_).mono ?_)
 ·exact (Below.refl _ w2).alloc (Nat.le_refl _) _
 rintro e w3 ⟨rfl,hi,hb3⟩
 obtain ⟨i0,-⟩:=cell_one hi
 have HB3:=hid hb3
 clear hb3 hi HC c0 c1 c2 c3 c4 c5 c6
 go_wp2_with fail
 try go_ret
 exact ⟨rfl,HB3.out⟩
theorem step_zeroT {ops:Array Oper} {o:Oper} {ac:Act} {K:Act->World->Prop} {Q:Exit->Act->World->Prop} {F:Prop} {w:World} {vb:Nat} {B:Nat->Prop} {v:Value} {ps:List Ft} (hgd:o.guard=none) (s x:Operand)
 (ho:o.op=.call { callee:=.builtin .append,args:=#[s,x],argTypes:=#[24,24] }) (h:AccT w vb B false 27 v ps) (hb:vb+1<=w.heap.size)
 (W:World) (hW:W=w.alloc (.cells zeroTy.cells 27)) (hs:ac.eval s=v) (hx:ac.eval x=.slice (some ⟨w.heap.size,0,none⟩) 1 1) (n:Nat) (hn:ps.length=n) (h63:n<=100000000000)
 (hK:∀ g c w',g<w'.heap.size->w'.ownsRow (vb+1) 27 7 (.slice (some ⟨g,0,none⟩) (n+1) c) (n+1) (ps.flatMap (cellsF false)++zeroTy.cells.toList)->w.grownBy w' v.ownBlock->Moved v (.slice (some ⟨g,0,none⟩) (n+1) c) w.heap.size->K (ac.put o.dst (.slice (some ⟨g,0,none⟩) (n+1) c)) w') :
 if Region.wanted o (yielded ops ac.tmps)=true then Oper.wp Tryz.prog o ac W K Q else F:=by
 subst hW
 subst hn
 obtain ⟨i0,hi,hz0,hz1,hz2⟩:=info_parts Tryz.info_ty
 have hw:Region.wanted o (yielded ops ac.tmps)=true:=by simp [Region.wanted,hgd]
 rw [if_pos hw]
 obtain ⟨v',w',hr,ho2,hg,hm,hnn⟩:=run_append_moved (P:=Tryz.prog) (w.alloc (.cells zeroTy.cells 27)) (vb+1) 24 o.type 27 i0 zeroTy 7 112 Tryz.underlying24 hi hz0 hz1 hz2 rfl (by decide) v ps.length (ps.flatMap (cellsF false))
  (h.own.alloc _) ⟨w.heap.size,0,none⟩ 1 1 zeroTy.cells.toList rfl
  (fun j u hj=>by
    rw [Addr.add_lit]
    have:=World.cell?_alloc_mark w zeroTy.cells 27 (0,0) (0+j)
    rw [this];simpa using hj)
  (fun u hu=>by
    unfold zeroTy at hu
    simp only [Value.cells,List.mem_cons,List.not_mem_nil,or_false] at hu
    rcases hu with rfl|rfl|rfl|rfl|rfl|rfl|rfl<;>rfl) (by omega) (by unfold maxLen;omega) (by simp;omega)
 have hg':=grown_alloc' (.cells zeroTy.cells 27) hg
 have hm':Moved v v' w.heap.size:=by
  rcases hm with hm|⟨g,hm,hgl⟩
  ·exact .inl hm
  ·exact .inr ⟨g,hm,by simp at hgl;omega⟩
 have hne:v'≠.slice none 0 0:=fun e=>by have:=(hnn.1 e).2;omega
 have hlt2:=ho2.lt
 rcases ho2.2 with ⟨rfl,-⟩|⟨g,cap,cur,rfl,-⟩
 ·exact absurd rfl hne
 ·unfold Oper.wp execOp
  simp only [ho,resolve,invoke,builtin,Sem.run_bind,Sem.run_pure,Result.andThen_ok,List.map_toArray,List.map_cons,List.map_nil,hs,hx,hr]
  exact hK g cap w' (hlt2 g rfl).2 ho2 hg' hm'
theorem store7 {w:World} {base g n c:Nat} {xs:List Value} (h:w.ownsRow base 27 7 (.slice (some ⟨g,0,none⟩) (n+1) c) (n+1) (xs++zeroTy.cells.toList)) (hl:xs.length=n * 7) (u0 u1 u2 u3 u4 u5 u6:Value) :
 (((((((w.setCell ⟨g,n * 7,none⟩ u0).setCell ⟨g,n * 7+1,none⟩ u1).setCell ⟨g,n * 7+2,none⟩ u2).setCell ⟨g,n * 7+3,none⟩ u3).setCell ⟨g,n * 7+4,none⟩ u4).setCell ⟨g,n * 7+5,none⟩ u5).setCell ⟨g,n * 7+6,none⟩ u6).ownsRow base 27 7 (.slice (some ⟨g,0,none⟩) (n+1) c) (n+1) (xs++[u0,u1,u2,u3,u4,u5,u6]) /\
 w.grownBy (((((((w.setCell ⟨g,n * 7,none⟩ u0).setCell ⟨g,n * 7+1,none⟩ u1).setCell ⟨g,n * 7+2,none⟩ u2).setCell ⟨g,n * 7+3,none⟩ u3).setCell ⟨g,n * 7+4,none⟩ u4).setCell ⟨g,n * 7+5,none⟩ u5).setCell ⟨g,n * 7+6,none⟩ u6) (some g):=by
 have hz:zeroTy.cells.toList=[.int .i64 0,.int .i64 0,.int .i64 0,.slice none 0 0,.slice none 0 0,.slice none 0 0,.string ⟨#[]⟩]:=rfl
 rw [hz] at h
 have s:∀ (j:Nat) (zs:List Value) (u:Value),(xs++zs).set (n * 7+j) u=xs++zs.set j u:=fun j zs u=>by
  rw [List.set_append_right _ _ (by omega),hl,Nat.add_sub_cancel_left]
 have h0:=h.stored (n * 7+0) u0
 rw [s,Nat.add_zero] at h0
 have h1:=h0.1.stored (n * 7+1) u1
 rw [s] at h1
 have h2:=h1.1.stored (n * 7+2) u2
 rw [s] at h2
 have h3:=h2.1.stored (n * 7+3) u3
 rw [s] at h3
 have h4:=h3.1.stored (n * 7+4) u4
 rw [s] at h4
 have h5:=h4.1.stored (n * 7+5) u5
 rw [s] at h5
 have h6:=h5.1.stored (n * 7+6) u6
 rw [s] at h6
 exact ⟨h6.1,h0.2.trans (h1.2.trans (h2.2.trans (h3.2.trans (h4.2.trans (h5.2.trans h6.2)))))⟩
theorem flat_len7 (ps:List Ft):(ps.flatMap (cellsF false)).length=ps.length * 7:=by
 induction ps with
 | nil=>rfl
 | cons p ps ih=>rw [List.flatMap_cons,List.length_append,ih,cellsF_len,List.length_cons];simp [sw];omega
theorem cells7 {w:World} {base g n c:Nat} {xs:List Value} (h:w.ownsRow base 27 7 (.slice (some ⟨g,0,none⟩) (n+1) c) (n+1) (xs++zeroTy.cells.toList)) (hl:xs.length=n * 7) :
 w.cell? ⟨g,n * 7,none⟩=some (.int .i64 0)/\w.cell? ⟨g,n * 7+1,none⟩=some (.int .i64 0)/\w.cell? ⟨g,n * 7+2,none⟩=some (.int .i64 0)/\w.cell? ⟨g,n * 7+3,none⟩=some (.slice none 0 0)/\w.cell? ⟨g,n * 7+4,none⟩=some (.slice none 0 0)/\w.cell? ⟨g,n * 7+5,none⟩=some (.slice none 0 0)/\w.cell? ⟨g,n * 7+6,none⟩=some (.string ⟨#[]⟩):=by
 have hz:zeroTy.cells.toList=[.int .i64 0,.int .i64 0,.int .i64 0,.slice none 0 0,.slice none 0 0,.slice none 0 0,.string ⟨#[]⟩]:=rfl
 have key:∀ (j:Nat) (u:Value),j<7->zeroTy.cells.toList[j]?=some u->w.cell? ⟨g,n * 7+j,none⟩=some u:=fun j u hj hu=>by
  rw [h.cellAt (n * 7+j) (by omega),List.getElem?_append_right (by omega),hl,Nat.add_sub_cancel_left]
  exact hu
 exact ⟨key 0 _ (by omega) rfl,key 1 _ (by omega) rfl,key 2 _ (by omega) rfl,key 3 _ (by omega) rfl,key 4 _ (by omega) rfl,key 5 _ (by omega) rfl,key 6 _ (by omega) rfl⟩
def PartsI (b:Nat) (l:List Ty) (W:World):Prop:=∃ (v:Value) (ps:List Ft),W.heap[b]?=some (.cells #[v] 24)/\AccT W b (fun k=>k<b) false 27 v ps/\ps.map Ft.fd=tf l
theorem PartsI.keep {b:Nat} {l:List Ty} {W W':World} (h:PartsI b l W) (hb:Below W.heap.size W W'):PartsI b l W':=by
 obtain ⟨v,ps,h1,h2,h3⟩:=h
 exact ⟨v,ps,(hb.block b (Array.getElem?_eq_some_iff.1 h1).1).trans h1,h2.keep hb,h3⟩
theorem parts_fin {w0 w1 w2 W3:World} {b n g c:Nat} {v:Value} {ps:List Ft} {x:Lt} {pre:List Ty} (h0:Below w0.heap.size w0 w1) (hA:AccT w1 b (fun k=>k<b) false 27 v ps) (hn:ps.length=n) (hP:ps.map Ft.fd=tf pre) (hx:TyAt w1 (Bw (b+1) b) x)
 (hg:w1.grownBy w2 v.ownBlock) (hm:Moved v (.slice (some ⟨g,0,none⟩) (n+1) c) w1.heap.size) (hbl:b<w1.heap.size) (ho:∀ k,v.ownBlock=some k->b<k) (hgb:b<g)
 (h3:W3.ownsRow (b+1) 27 7 (.slice (some ⟨g,0,none⟩) (n+1) c) (n+1) (ps.flatMap (cellsF false)++x.cs)) (hb3:W3.heap[b]?=some (.cells #[.slice (some ⟨g,0,none⟩) (n+1) c] 24))
 (hos:W3.os=w2.os) (htp:W3.tape=w2.tape) (hot:W3.output=w2.output) (hs:w2.heap.size<=W3.heap.size) (hk:∀ k,k≠g->k≠b->k<w2.heap.size->W3.heap[k]?=w2.heap[k]?):ComePost (b+1) b (PartsI b) (pre++[x.v]) w0 (.returned (.tuple #[])) W3:=by
 have keep:∀ k,k<b->k<w1.heap.size->W3.heap[k]?=w1.heap[k]?:=fun k h1 h2 =>
  (hk k (by omega) (by omega) (Nat.lt_of_lt_of_le h2 hg.size)).trans (hg.block k h2 (fun e=>by have:=ho k e.symm;omega))
 refine ⟨rfl,⟨.slice (some ⟨g,0,none⟩) (n+1) c,ps++[Ft.one x],hb3,?_,?_⟩,?_⟩
 ·refine hA.push (p:=Ft.one x) (hx.weak (fun k hk _=>⟨by have h1:=hk.1;have h2:=hk.2;omega,fun e=>by have h3:=ho k e;have h1:=hk.1;omega⟩)) (VAt.zero _ _ _ _ _ _) (by show (0:Nat)<=140737488351232;omega) (by rw [hn];exact h3) (Nat.le_trans hg.size hs) (fun k hkb _ hl=>keep k hkb hl) hm
 ·rw [List.map_append,hP]
  unfold tf
  rw [List.map_append];rfl
 ·refine (Kep.below h0).trans ⟨hos.trans hg.os,htp.trans hg.tape,hot.trans hg.output,⟨Nat.le_trans hg.size hs,fun k hk1 hl=>keep k ?_ hl⟩⟩
  have h1:=hk1.1
  have h2:=hk1.2
  omega
theorem fin7A {w0 w1 w2:World} {b n g c:Nat} {v:Value} {ps:List Ft} {x:Lt} {pre:List Ty} (h0:Below w0.heap.size w0 w1) (hA:AccT w1 b (fun k=>k<b) false 27 v ps) (hn:ps.length=n) (hP:ps.map Ft.fd=tf pre) (hx:TyAt w1 (Bw (b+1) b) x)
 (hg:w1.grownBy w2 v.ownBlock) (hm:Moved v (.slice (some ⟨g,0,none⟩) (n+1) c) w1.heap.size) (hbl:b<w1.heap.size) (ho:∀ k,v.ownBlock=some k->b<k) (hgb:b<g)
 (ho2:w2.ownsRow (b+1) 27 7 (.slice (some ⟨g,0,none⟩) (n+1) c) (n+1) (ps.flatMap (cellsF false)++zeroTy.cells.toList)) (hbc:w2.heap[b]?=some (.cells #[v] 24)) :
 ComePost (b+1) b (PartsI b) (pre++[x.v]) w0 (.returned (.tuple #[])) ((((((((w2.setCell ⟨g,n * 7,none⟩ (.int .i64 x.v.k)).setCell ⟨g,n * 7+1,none⟩ (.int .i64 x.v.lo)).setCell ⟨g,n * 7+2,none⟩ (.int .i64 x.v.hi)).setCell ⟨g,n * 7+3,none⟩ (.slice x.xd x.v.x.length x.xc)).setCell ⟨g,n * 7+4,none⟩ (.slice x.td x.v.t.length x.tc)).setCell ⟨g,n * 7+5,none⟩ (.slice x.fd x.v.f.length x.fc)).setCell ⟨g,n * 7+6,none⟩ (.string x.v.n)).setCell ⟨b,0,none⟩ (.slice (some ⟨g,0,none⟩) (n+1) c)):=by
 have hl7:(ps.flatMap (cellsF false)).length=n * 7:=by rw [flat_len7,hn]
 obtain ⟨s1,s2⟩:=store7 ho2 hl7 (.int .i64 x.v.k) (.int .i64 x.v.lo) (.int .i64 x.v.hi) (.slice x.xd x.v.x.length x.xc) (.slice x.td x.v.t.length x.tc) (.slice x.fd x.v.f.length x.fc) (.string x.v.n)
 generalize (((((((w2.setCell ⟨g,n * 7,none⟩ (.int .i64 x.v.k)).setCell ⟨g,n * 7+1,none⟩ (.int .i64 x.v.lo)).setCell ⟨g,n * 7+2,none⟩ (.int .i64 x.v.hi)).setCell ⟨g,n * 7+3,none⟩ (.slice x.xd x.v.x.length x.xc)).setCell ⟨g,n * 7+4,none⟩ (.slice x.td x.v.t.length x.tc)).setCell ⟨g,n * 7+5,none⟩ (.slice x.fd x.v.f.length x.fc)).setCell ⟨g,n * 7+6,none⟩ (.string x.v.n))=w3 at s1 s2 ⊢
 have ne1:g≠b:=by omega
 have hcb:=grown_cell w3 b 0 (.slice (some ⟨g,0,none⟩) (n+1) c)
 have hbb:=(s2.block b (Array.getElem?_eq_some_iff.1 hbc).1 (fun e=>ne1 (Option.some.inj e).symm)).trans hbc
 exact parts_fin h0 hA hn hP hx hg hm hbl ho hgb (s1.kept hcb (.inr (fun e=>ne1 (by have:=Option.some.inj e;exact this)))) (cell_set hbb _) (hcb.os.trans s2.os) (hcb.tape.trans s2.tape) (hcb.output.trans s2.output) (Nat.le_trans s2.size hcb.size)
  (fun k k1 k2 k3=>(hcb.block k (Nat.lt_of_lt_of_le k3 s2.size) (fun e=>k2 (Option.some.inj e))).trans (s2.block k k3 (fun e=>k1 (Option.some.inj e))))
theorem fin7B {w0 w1 w2:World} {b n g c:Nat} {v:Value} {ps:List Ft} {x:Lt} {pre:List Ty} (h0:Below w0.heap.size w0 w1) (hA:AccT w1 b (fun k=>k<b) false 27 v ps) (hn:ps.length=n) (hP:ps.map Ft.fd=tf pre) (hx:TyAt w1 (Bw (b+1) b) x)
 (hg:w1.grownBy w2 v.ownBlock) (hm:Moved v (.slice (some ⟨g,0,none⟩) (n+1) c) w1.heap.size) (hbl:b<w1.heap.size) (ho:∀ k,v.ownBlock=some k->b<k) (hgb:b<g)
 (ho2:w2.ownsRow (b+1) 27 7 (.slice (some ⟨g,0,none⟩) (n+1) c) (n+1) (ps.flatMap (cellsF false)++zeroTy.cells.toList)) (hbc:w2.heap[b]?=some (.cells #[v] 24)) :
 ComePost (b+1) b (PartsI b) (pre++[x.v]) w0 (.returned (.tuple #[])) ((((((((w2.setCell ⟨b,0,none⟩ (.slice (some ⟨g,0,none⟩) (n+1) c)).setCell ⟨g,n * 7,none⟩ (.int .i64 x.v.k)).setCell ⟨g,n * 7+1,none⟩ (.int .i64 x.v.lo)).setCell ⟨g,n * 7+2,none⟩ (.int .i64 x.v.hi)).setCell ⟨g,n * 7+3,none⟩ (.slice x.xd x.v.x.length x.xc)).setCell ⟨g,n * 7+4,none⟩ (.slice x.td x.v.t.length x.tc)).setCell ⟨g,n * 7+5,none⟩ (.slice x.fd x.v.f.length x.fc)).setCell ⟨g,n * 7+6,none⟩ (.string x.v.n)):=by
 have hl7:(ps.flatMap (cellsF false)).length=n * 7:=by rw [flat_len7,hn]
 have ne1:g≠b:=by omega
 have hcb:=grown_cell w2 b 0 (.slice (some ⟨g,0,none⟩) (n+1) c)
 have hbb0:=cell_set hbc (.slice (some ⟨g,0,none⟩) (n+1) c)
 have ho3:=ho2.kept hcb (.inr (fun e=>ne1 (by have:=Option.some.inj e;exact this)))
 have hbl2:=(Array.getElem?_eq_some_iff.1 hbc).1
 generalize w2.setCell ⟨b,0,none⟩ (.slice (some ⟨g,0,none⟩) (n+1) c)=w3 at hcb hbb0 ho3 ⊢
 obtain ⟨s1,s2⟩:=store7 ho3 hl7 (.int .i64 x.v.k) (.int .i64 x.v.lo) (.int .i64 x.v.hi) (.slice x.xd x.v.x.length x.xc) (.slice x.td x.v.t.length x.tc) (.slice x.fd x.v.f.length x.fc) (.string x.v.n)
 generalize (((((((w3.setCell ⟨g,n * 7,none⟩ (.int .i64 x.v.k)).setCell ⟨g,n * 7+1,none⟩ (.int .i64 x.v.lo)).setCell ⟨g,n * 7+2,none⟩ (.int .i64 x.v.hi)).setCell ⟨g,n * 7+3,none⟩ (.slice x.xd x.v.x.length x.xc)).setCell ⟨g,n * 7+4,none⟩ (.slice x.td x.v.t.length x.tc)).setCell ⟨g,n * 7+5,none⟩ (.slice x.fd x.v.f.length x.fc)).setCell ⟨g,n * 7+6,none⟩ (.string x.v.n))=w4 at s1 s2 ⊢
 have hbb:=(s2.block b (Nat.lt_of_lt_of_le hbl2 hcb.size) (fun e=>ne1 (Option.some.inj e).symm)).trans hbb0
 exact parts_fin h0 hA hn hP hx hg hm hbl ho hgb s1 hbb (s2.os.trans hcb.os) (s2.tape.trans hcb.tape) (s2.output.trans hcb.output) (Nat.le_trans hcb.size s2.size)
  (fun k k1 k2 k3=>(s2.block k (Nat.lt_of_lt_of_le k3 hcb.size) (fun e=>k1 (Option.some.inj e))).trans (hcb.block k k3 (fun e=>k2 (Option.some.inj e))))
theorem parts1T_any (b:Nat) (pre:List Ty) (x:Lt) (W:World) (hI:PartsI b pre W) (hx:TyAt W (Bw (b+1) b) x) (hl:pre.length<=100000000000) :
 Calls Tryz.prog 103 #[x.val,.pointer (some ⟨b,0,none⟩)] W (ComePost (b+1) b (PartsI b) (pre++[x.v]) W):=by
 obtain ⟨v,ps,h1,h2,h3⟩:=hI
 have hpl:ps.length=pre.length:=by have:=congrArg List.length h3;rwa [List.length_map,tf_len] at this
 have hbl:=(Array.getElem?_eq_some_iff.1 h1).1
 obtain ⟨ao,cp,rfl⟩:=h2.form
 have hb1:=(Below.refl W.heap.size W).alloc (Nat.le_refl _) (.cells #[.int .i64 x.v.k,.int .i64 x.v.lo,.int .i64 x.v.hi,.slice x.xd x.v.x.length x.xc,.slice x.td x.v.t.length x.tc,.slice x.fd x.v.f.length x.fc,.string x.v.n] 27)
 have hc:=heap_alloc_new W (.cells #[.int .i64 x.v.k,.int .i64 x.v.lo,.int .i64 x.v.hi,.slice x.xd x.v.x.length x.xc,.slice x.td x.v.t.length x.tc,.slice x.fd x.v.f.length x.fc,.string x.v.n] 27)
 have hsz1:(W.alloc (.cells #[.int .i64 x.v.k,.int .i64 x.v.lo,.int .i64 x.v.hi,.slice x.xd x.v.x.length x.xc,.slice x.td x.v.t.length x.tc,.slice x.fd x.v.f.length x.fc,.string x.v.n] 27)).heap.size=W.heap.size+1:=by simp
 have h1':=(hb1.block b hbl).trans h1
 have HA1:=hid (h2.keep hb1)
 have HX1:=hid (hx.keep hb1)
 have HB1:=hid hb1
 have HP:=hid h3
 obtain ⟨n,hn⟩:∃ n,ps.length=n:=⟨_,rfl⟩
 have HN:=hid hn
 have hn63:n<=100000000000:=by omega
 rw [hn] at h1' HA1
 unfold Lt.val
 have hol:=h2.own.lt
 clear h1 h2 h3 hb1 hx hpl
 go_enter Tryz.func103,Tryz.ntmps103
 go_upto_region 1 with fail
 generalize hw1:World.alloc W _=w1 at hc hsz1 h1' HA1 HX1 HB1 ⊢
 generalize hxb:W.heap.size=xb at hc hsz1 hbl HB1 ⊢
 obtain ⟨c0,c1,c2,c3,c4,c5,c6,-⟩:=ty_cells hc
 obtain ⟨i0,-⟩:=cell_one h1'
 have HAd:Hid (AccT w1.drew b (fun k=>k<b) false 27 (.slice ao n cp) ps):=hid (HA1.out.keep (Gx.drewN_below w1 1 _))
 have HBC:=hid h1'
 have HBX:=hid hc
 have HSZ:=hid (show b+1<=w1.heap.size by omega)
 have HOL:Hid (∀ k,(Value.slice ao n cp).ownBlock=some k->b<k/\k<xb):=hid (fun k hk=>by rw [<-hxb];have:=hol k (by rw [hn];exact hk);omega)
 have r1:(0:Int)<=(n:Int):=by omega
 have r2:(n:Int)<(n:Int)+1:=by omega
 have r3:(n:Int).toNat=n:=rfl
 have HFL:Hid ((ps.flatMap (cellsF false)).length=n * 7):=hid (by rw [flat_len7,HN.out])
 have hxl:xb<w1.heap.size:=by omega
 have hbl1:b<w1.heap.size:=by omega
 have HXB:=hid hxb
 clear hw1 hxb hc h1' hsz1 hbl hol hn
 go_region_law (first
  | (refine step_zeroT rfl (.tmp 3) (.tmp 6) rfl HAd.out HSZ.out _ rfl rfl rfl n HN.out hn63 ?_;intro g c w2 hgl ho2 hg2 hm2;have hbx2:=(hg2.block xb (Array.getElem?_eq_some_iff.1 HBX.out).1 (fun e=>by have:=HOL.out _ e.symm;omega)).trans HBX.out;have hbc2:=(hg2.block b (Array.getElem?_eq_some_iff.1 HBC.out).1 (fun e=>by have:=HOL.out _ e.symm;omega)).trans HBC.out;obtain ⟨d0,d1,d2,d3,d4,d5,d6,-⟩:=ty_cells hbx2;obtain ⟨j0,jf⟩:=cell_one hbc2;have f0:w2.frozen? ⟨g,n * 7,none⟩=false:=ho2.frozenAt (n * 7);have f1:=ho2.frozenAt (n * 7+1);have f2:=ho2.frozenAt (n * 7+2);have f3:=ho2.frozenAt (n * 7+3);have f4:=ho2.frozenAt (n * 7+4);have f5:=ho2.frozenAt (n * 7+5);have f6:=ho2.frozenAt (n * 7+6);obtain ⟨e0,e1,e2,e3,e4,e5,e6⟩:=cells7 ho2 HFL.out;have ne1:¬ g=b:=(fun e=>by have:=(ho2.lt g rfl).1;omega);have ne2:¬ b=g:=(fun e=>ne1 e.symm);have HO2:=hid ho2;have HG2:=hid hg2;have HM2:=hid hm2;have HGL:=hid hgl;have HBC2:=hid hbc2;clear hbx2 hbc2 ho2 hg2 hm2 hgl))
 all_goals
  have hgb:=(HO2.out.lt g rfl).1
  have hod:∀ k,(Value.slice ao n cp).ownBlock=some k->b<k:=fun k hk=>(HOL.out k hk).1
  have h0d:Below W.heap.size W w1.drew:=by rw [HXB.out];exact HB1.out.trans ((Gx.drewN_below w1 1 _).mono (by rw [<-HXB.out];exact HB1.out.size))
  have hxd:TyAt w1.drew (Bw (b+1) b) x:=HX1.out.keep (Gx.drewN_below w1 1 _)
  have hbl1d:b<w1.drew.heap.size:=Nat.lt_of_lt_of_le hbl1 (Gx.drewN_below w1 1 w1.heap.size).size
  refine bodyPost_ret (v:=.tuple #[]) (by simp [results,Tryz.results103,go_sem]) rfl ?_
  first
  | with_reducible exact fin7A h0d HAd.out HN.out HP.out hxd HG2.out HM2.out hbl1d hod (by omega) HO2.out HBC2.out
  | with_reducible exact fin7B h0d HAd.out HN.out HP.out hxd HG2.out HM2.out hbl1d hod (by omega) HO2.out HBC2.out
def FlatPost (l:List Ty) (w:World) (e:Ending) (w':World):Prop:=∃ v,e=.returned v/\TRow w' (fun _=>True) false (tf l) v/\Below w.heap.size w w'
theorem flat_row {w:World} {b:Nat} {v:Value} {ps:List Ft} {l:List Ty} (h:AccT w b (fun k=>k<b) false 27 v ps) (hp:ps.map Ft.fd=tf l) (hl:l.length<=100000000000):TRow w (fun _=>True) false (tf l) v:=by
 have hpl:ps.length=l.length:=by have:=congrArg List.length hp;rwa [List.length_map,tf_len] at this
 exact h.row (by rw [hpl];omega) hp.symm (fun _ _ _=>trivial)
theorem parts_row (c:Value) (q:Lt) (w:World) (hq:TyAt w (fun _=>True) q) (hk:KOk q.v) (hl:q.v.flat.length<=100000000000):Calls Tryz.prog 77 #[c,q.val] w (FlatPost q.v.flat w):=by
 obtain ⟨w2,hw2⟩:∃ w2,w2=(w.alloc (.cells #[.int .i64 q.v.k,.int .i64 q.v.lo,.int .i64 q.v.hi,.slice q.xd q.v.x.length q.xc,.slice q.td q.v.t.length q.tc,.slice q.fd q.v.f.length q.fc,.string q.v.n] 27)).alloc (.cells #[.slice none 0 0] 24):=⟨_,rfl⟩
 obtain ⟨b,hb⟩:∃ b,b=w.heap.size+1:=⟨_,rfl⟩
 have hB2:Below w.heap.size w w2:=by rw [hw2];exact ((Below.refl w.heap.size w).alloc (Nat.le_refl _) _).alloc (by simp) _
 have hsz:w2.heap.size=b+1:=by rw [hw2,hb];simp
 have hc:w2.heap[w.heap.size]?=some (.cells #[.int .i64 q.v.k,.int .i64 q.v.lo,.int .i64 q.v.hi,.slice q.xd q.v.x.length q.xc,.slice q.td q.v.t.length q.tc,.slice q.fd q.v.f.length q.fc,.string q.v.n] 27):=by rw [hw2,Below.heap_alloc _ _ _ (by simp)];exact heap_alloc_new w _
 have hI:PartsI b [] w2:=by
  refine ⟨.slice none 0 0,[],?_,AccT.nil _ _ _ _ _,rfl⟩
  have:=heap_alloc_new (w.alloc (.cells #[.int .i64 q.v.k,.int .i64 q.v.lo,.int .i64 q.v.hi,.slice q.xd q.v.x.length q.xc,.slice q.td q.v.t.length q.tc,.slice q.fd q.v.f.length q.fc,.string q.v.n] 27)) (.cells #[.slice none 0 0] 24)
  rw [World.size_alloc] at this
  rw [hw2,hb];exact this
 have hqb:TyAt w (Bw (b+1) b) q:=hq.weak (fun k _ hk=>⟨by omega,by omega⟩)
 have hcome:∀ (sv:Value) (W:World),Below w2.heap.size w2 W->Calls Tryz.prog 68 #[c,q.val,sv,.func (.func 103) #[] #[.pointer (some ⟨b,0,none⟩)]] W (fun e w'=>e=.returned (.tuple #[])/\PartsI b q.v.flat w'/\Below w.heap.size w w'):=fun sv W hW=>by
  have hWq:TyAt W (Bw (b+1) b) q:=hqb.keep (hB2.trans (hW.mono hB2.size))
  refine (come_any 100000000000 103 (.inl rfl) b (b+1) c sv (PartsI b) (fun _ _ _ h hb=>h.keep hb) (fun pre x W h hx _ _ _ hl=>parts1T_any b pre x W h hx (by omega)) q [] W (hI.keep hW) hWq (by have:=hW.size;omega) hk hl).mono ?_
  rintro e w' ⟨rfl,h1,h2⟩
  exact ⟨rfl,by simpa using h1,h2.to_below (hB2.trans (hW.mono hB2.size)) (by omega) (by omega) (by have:=hW.size;omega)⟩
 obtain ⟨c0,c1,c2,c3,c4,c5,c6,-⟩:=ty_cells hc
 unfold Lt.val at hcome ⊢
 have HC:=hid hcome
 have HW:=hid hw2
 have HB:=hid hb
 have HL:=hid hl
 clear hcome hI hw2 hb hqb hq hc hk hl hsz hB2
 have hmm:=@run_makeMap Tryz.prog
 go_enter Tryz.func77,Tryz.ntmps77
 go_upto_region 2 with fail
 rw [<-HW.out,<-HB.out]
 clear HW HB
 go_wp2_with fail
 (with_reducible refine (HC.out _ _ ?_).mono ?_)
 ·exact (Below.refl _ w2).alloc (Nat.le_refl _) _
 rintro e w3 ⟨rfl,hi,hb3⟩
 obtain ⟨v,ps,hv,hA,hP⟩:=hi
 obtain ⟨i0,-⟩:=cell_one hv
 have HA:=hid hA
 have HP:=hid hP
 have HB3:=hid hb3
 clear hb3 hv hA hP HC c0 c1 c2 c3 c4 c5 c6
 go_wp2_with fail
 try go_ret
 exact ⟨v,rfl,flat_row HA.out HP.out HL.out,HB3.out⟩
inductive PathR (w:World) (n:Nat):Value->Prop
 | nil:PathR w n (.slice none 0 0)
 | row (b len cap:Nat) (us:List Value) (hl:0<len) (hn:len<=n) (hu:us.length=len * 2) (hb:b<w.heap.size) (hc:∀ j u,us[j]?=some u->w.cell? ⟨b,j,none⟩=some u) (h1:∀ u∈us,u.oneCell'=true):PathR w n (.slice (some ⟨b,0,none⟩) len cap)
theorem PathR.more {w:World} {n m:Nat} {v:Value} (h:PathR w n v) (hm:n<=m):PathR w m v:=by
 cases h with
 | nil=>exact .nil
 | row b len cap us hl hn hu hb2 hc h1=>exact .row b len cap us hl (Nat.le_trans hn hm) hu hb2 hc h1
theorem Tryz.info_step:(Tryz.prog.info? 147).map (fun i=>(i.zero,i.size,i.bytes))=some (some (.agg #[.string ⟨#[]⟩,.int .i64 0]),2,24):=by kernel_rfl
def FitPost (P:Prop) (n:Nat) (w:World) (e:Ending) (w':World):Prop:=∃ (ad:Option Addr) (l c:Nat) (bad:Bool),e=.returned (.tuple #[.slice ad l c,.bool bad])/\(bad=false↔P)/\PathR w' n (.slice ad l c)/\Below w.heap.size w w'
theorem path_more {w:World} {n:Nat} {p:Value} (h:PathR w n p) (hn:n<=1000) (s:ByteArray) (i:Int):∃ (ad:Option Addr) (l c:Nat) (w':World),(∀ ty,(Builtin.append_ #[58,58] ty #[.slice (some ⟨w.heap.size,0,none⟩) 1 1,p]).run Tryz.prog (w.alloc (.cells #[.string s,.int .i64 i] 147))=.ok (.slice ad l c) w') /\
 PathR w' (n+1) (.slice ad l c)/\Below w.heap.size w w':=by
 obtain ⟨i0,hi,hz0,hz1,hz2⟩:=info_parts Tryz.info_step
 have hba:=(Below.refl w.heap.size w).alloc (Nat.le_refl _) (.cells #[.string s,.int .i64 i] 147)
 have hnew:=heap_alloc_new w (.cells #[.string s,.int .i64 i] 147)
 have hsz:(w.alloc (.cells #[.string s,.int .i64 i] 147)).heap.size=w.heap.size+1:=by simp
 generalize w.alloc (.cells #[.string s,.int .i64 i] 147)=w1 at hba hnew hsz ⊢
 have hold:∀ (W:World),W.heap=w1.heap->∀ j u,[Value.string s,.int .i64 i][j]?=some u->W.cell? ⟨w.heap.size,j,none⟩=some u:=fun W hW j u hj=>by
  rw [World.cell?,hW,hnew];simpa using hj
 cases h with
 | nil =>
   refine ⟨_,_,_,w1,fun ty=>run_append_nothing (P:=Tryz.prog) w1 58 58 ty 147 i0 Tryz.underlying58 hi _ 1 1 (Nat.le_refl _) _ (Src.ofNil w1 Tryz.underlying58 0),.row w.heap.size 1 1 [.string s,.int .i64 i] (by omega) (by omega) rfl (by omega) (hold w1 rfl) ?_,hba⟩
   intro u hu
   simp only [List.mem_cons,List.not_mem_nil,or_false] at hu
   rcases hu with rfl|rfl<;>rfl
 | row b len cap us hl hnl hu hb hc h1 =>
   have hc':∀ j u,us[j]?=some u->w1.cell? ((⟨b,0,none⟩:Addr).add j)=some u:=fun j u hj=>by
    rw [Addr.add_lit,Nat.zero_add]
    exact (hba.cell (p:=⟨b,j,none⟩) hb).trans (hc j u hj)
   have hf:=run_firstCells_some (P:=Tryz.prog) w1.drew 2 1 ⟨w.heap.size,0,none⟩ 1 1 [.string s,.int .i64 i] rfl (fun j u hj=>by
    rw [Addr.add_lit,Nat.zero_add]
    exact hold w1.drew rfl j u hj)
   rw [<-hz1] at hf
   have hrun:=fun ty=>run_append_grow_src (P:=Tryz.prog) w1 58 58 ty 147 i0 _ Tryz.underlying58 hi hz0 (some ⟨w.heap.size,0,none⟩) 1 1 [.string s,.int .i64 i] hf _ len us
    (Src.ofSlice w1 Tryz.underlying58 ⟨b,0,none⟩ len cap us (by rw [hz1];exact hu) hc' h1) (by omega) (by omega) (growslice_fits (by omega) (by rw [hz2];omega))
   refine ⟨_,_,_,_,hrun,?_,(hba.trans ((Gx.drewN_below w1 1 _).mono hba.size)).alloc (by have:=hba.size;simpa using this) _⟩
   refine .row w1.heap.size (1+len) _ ([.string s,.int .i64 i]++us) (by omega) (by omega) (by rw [List.length_append,hu];simp;omega) (by simp) (fun j u hj=>?_) (fun u hu=>?_)
   ·refine (World.cell?_alloc_mark w1.drew _ 147 (0,0) j).trans ?_
    have hlt:=(List.getElem?_eq_some_iff.1 hj).1
    rw [Array.getElem?_append_left (by rw [List.size_toArray];exact hlt),List.getElem?_toArray]
    exact hj
   ·rcases List.mem_append.1 hu with hu|hu
    ·simp only [List.mem_cons,List.not_mem_nil,or_false] at hu
     rcases hu with rfl|rfl<;>rfl
    ·exact h1 u hu
def JAt (w:World) (J:Nat) (r:Lt) (full:Bool):Prop:=w.heap[J]?=some (.cells #[.slice none 0 0,.int .i64 r.v.k,.int .i64 r.v.lo,.int .i64 r.v.hi,.slice r.xd r.v.x.length r.xc,.slice r.td r.v.t.length r.tc,.slice r.fd r.v.f.length r.fc,.string r.v.n,.bool full] 77)
theorem JAt.keep {w w':World} {J:Nat} {r:Lt} {full:Bool} (h:JAt w J r full) (hb:Below w.heap.size w w'):JAt w' J r full:=(hb.block J (Array.getElem?_eq_some_iff.1 h).1).trans h
theorem flat_any (r q:Lt) (w:World) (hq:TyAt w (fun _=>True) q) (hk:KOk q.v) (hl:q.v.flat.length<=100000000000) :
 Calls Tryz.prog 51 #[.agg #[.slice none 0 0,.int .i64 r.v.k,.int .i64 r.v.lo,.int .i64 r.v.hi,.slice r.xd r.v.x.length r.xc,.slice r.td r.v.t.length r.tc,.slice r.fd r.v.f.length r.fc,.string r.v.n],q.val] w (FlatPost q.v.flat w):=by
 have HP:Hid (∀ (c:Value) (W:World),Below w.heap.size w W->Calls Tryz.prog 77 #[c,q.val] W (fun e w'=>∃ v,e=.returned v/\TRow w' (fun _=>True) false (tf q.v.flat) v/\Below w.heap.size w w')):=hid (fun c W hW =>
  (parts_row c q W (hq.keep hW) hk hl).mono (fun e w' ⟨v,h1,h2,h3⟩=>⟨v,h1,h2,hW.trans (h3.mono hW.size)⟩))
 unfold Lt.val at HP ⊢
 obtain ⟨O1,hO1⟩:∃ O1,O1=Obj.cells #[.slice none 0 0,.int .i64 r.v.k,.int .i64 r.v.lo,.int .i64 r.v.hi,.slice r.xd r.v.x.length r.xc,.slice r.td r.v.t.length r.tc,.slice r.fd r.v.f.length r.fc,.string r.v.n] 41:=⟨_,rfl⟩
 obtain ⟨O2,hO2⟩:∃ O2,O2=Obj.cells #[.int .i64 q.v.k,.int .i64 q.v.lo,.int .i64 q.v.hi,.slice q.xd q.v.x.length q.xc,.slice q.td q.v.t.length q.tc,.slice q.fd q.v.f.length q.fc,.string q.v.n] 27:=⟨_,rfl⟩
 obtain ⟨w2,hw2⟩:∃ w2,w2=(w.alloc O1).alloc O2:=⟨_,rfl⟩
 have hB2:Below w.heap.size w w2:=by rw [hw2];exact ((Below.refl w.heap.size w).alloc (Nat.le_refl _) _).alloc (by simp) _
 have hc1:w2.heap[w.heap.size]?=some O1:=by rw [hw2,Below.heap_alloc _ _ _ (by simp)];exact heap_alloc_new w _
 have hc2:w2.heap[w.heap.size+1]?=some O2:=by have:=heap_alloc_new (w.alloc O1) O2;rw [World.size_alloc] at this;rw [hw2];exact this
 have HB:=hid hB2
 have HW:Hid (∀ O,Below w.heap.size w (w2.alloc O)):=hid (fun O=>hB2.alloc hB2.size O)
 subst hO1 hO2
 rw [show w2=w2 from rfl] at hc1
 have a0:∀ j u,#[Value.slice none 0 0,.int .i64 r.v.k,.int .i64 r.v.lo,.int .i64 r.v.hi,.slice r.xd r.v.x.length r.xc,.slice r.td r.v.t.length r.tc,.slice r.fd r.v.f.length r.fc,.string r.v.n][j]?=some u->w2.cell? ⟨w.heap.size,j,none⟩=some u:=fun j u hj=>by
  simp only [World.cell?,hc1];exact hj
 have s0:=a0 0 _ rfl
 have s1:=a0 1 _ rfl
 have s2:=a0 2 _ rfl
 have s3:=a0 3 _ rfl
 have s4:=a0 4 _ rfl
 have s5:=a0 5 _ rfl
 have s6:=a0 6 _ rfl
 have s7:=a0 7 _ rfl
 have hc3:(w2.alloc (.cells #[.slice none 0 0,.int .i64 r.v.k,.int .i64 r.v.lo,.int .i64 r.v.hi,.slice r.xd r.v.x.length r.xc,.slice r.td r.v.t.length r.tc,.slice r.fd r.v.f.length r.fc,.string r.v.n,.int .i64 0] 104)).heap[w.heap.size+1]?=_:=(alloc_old_gx w2 _ (by rw [hw2];simp)).trans hc2
 obtain ⟨c0,c1,c2,c3,c4,c5,c6,-⟩:=ty_cells hc3
 have HE:=hid hw2
 clear a0 hc1 hc2 hc3 hB2 hq hk hl hw2
 go_enter Tryz.func51,Tryz.ntmps51
 go_upto_region 1 with fail
 rw [<-HE.out]
 clear HE
 go_wp2_with fail
 (with_reducible refine (HP.out _ _ (HW.out _)).mono ?_)
 rintro e w3 ⟨v,rfl,ht,hb3⟩
 have HT:=hid ht
 have HB3:=hid hb3
 obtain ⟨ad,cap,rfl⟩:=ht.tlen
 clear ht hb3 s0 s1 s2 s3 s4 s5 s6 s7 c0 c1 c2 c3 c4 c5 c6
 go_wp2_with fail
 try go_ret
 exact ⟨_,rfl,HT.out,HB3.out⟩
def decF:Nat->List UInt8->List Int
 | 0,_=>[]
 | f+1,l=>if l=[] then [] else ((Lib.decodeL l).1:Int)::decF f (l.drop (Lib.decodeL l).2)
def decAll (l:List UInt8):List Int:=decF l.length l
theorem decF_nil (f:Nat):decF f []=[]:=by cases f<;>simp [decF]
theorem decodeL_good (l:List UInt8):good ((Lib.decodeL l).1:Int)=true:=by
 have hv:=Lib.decodeN_valid l.length (l.getD 0 0).toNat (l.getD 1 0).toNat (l.getD 2 0).toNat (l.getD 3 0).toNat (UInt8.toNat_lt _)
 rw [<-Lib.decodeL_N] at hv
 rw [good_iff];omega
theorem decF_good:∀ f l,(decF f l).all good=true
 | 0,_=>rfl
 | f+1,l=>by
   unfold decF
   by_cases h:l=[]
   ·rw [if_pos h];rfl
   ·rw [if_neg h,List.all_cons,decodeL_good,decF_good f];rfl
theorem decF_encs:∀ (rs:List Int) (f:Nat),rs.all good=true->(encs rs).length<=f->decF f (encs rs)=rs
 | [],f,_,_=>decF_nil f
 | r::rs,0,hg,h=>by
   rw [encs_cons,List.length_append] at h
   have:=(enc_len r).1
   omega
 | r::rs,f+1,hg,h=>by
   rw [List.all_cons,Bool.and_eq_true] at hg
   have h1:=enc_len r
   rw [encs_cons,List.length_append] at h
   unfold decF
   rw [if_neg (by
    intro e
    have:=encs_nil e
    simp at this),encs_cons,decode_enc r hg.1,List.drop_left,decF_encs rs f hg.2 (by omega)]
   have h2:=hg.1
   rw [good_iff] at h2
   congr 1
   show ((r.toNat:Nat):Int)=r
   omega
theorem decAll_encs (rs:List Int) (hg:rs.all good=true):decAll (encs rs)=rs:=decF_encs rs _ hg (Nat.le_refl _)
theorem decF_len:∀ f l,(decF f l).length<=f
 | 0,_=>Nat.le_refl _
 | f+1,l=>by
   unfold decF
   by_cases h:l=[]
   ·rw [if_pos h];simp
   ·rw [if_neg h,List.length_cons]
    have:=decF_len f (l.drop (Lib.decodeL l).2)
    omega
theorem runesFrom_list (s:ByteArray):∀ (f pos:Nat) (acc:Array Value),Conv.runesFrom s f pos acc=acc++((decF f (s.data.toList.drop pos)).map (Value.int .i32)).toArray
 | 0,pos,acc=>by simp [Conv.runesFrom,decF]
 | f+1,pos,acc=>by
   unfold Conv.runesFrom decF
   by_cases hp:pos<s.size
   ·have hne:s.data.toList.drop pos≠[]:=drop_ne (by rw [<-Lib.size_eq];exact hp)
    rw [if_pos hp,if_neg hne]
    show Conv.runesFrom s f (pos+(Utf8.decode s pos).2) (acc.push (.int .i32 (Int.ofNat (Utf8.decode s pos).1)))=_
    rw [runesFrom_list s f,<-Lib.decodeL_drop,List.drop_drop]
    apply Array.toList_inj.1
    simp
   ·have he:s.data.toList.drop pos=[]:=List.drop_eq_nil_of_le (by rw [<-Lib.size_eq];omega)
    rw [if_neg hp,if_pos he]
    simp
theorem conv_runes_run {P:Program} (w:World) (src dst e:TypeId) (s:ByteArray) (hs:P.underlying src=some .string) (hd:P.underlying dst=some (.slice e)) (he:P.underlying e=some (.int .i32)) (h40:s.size<=1099511627776) :
 ∃ cap w',(convert src dst (.string s)).run P w=.ok (.slice (some ⟨w.heap.size,0,none⟩) (decAll s.data.toList).length cap) w'/\Rd .i32 w' (some ⟨w.heap.size,0,none⟩) cap (decAll s.data.toList)/\Below w.heap.size w w':=by
 have hl:Conv.runesFrom s s.size 0 #[]=((decAll s.data.toList).map (Value.int .i32)).toArray:=by
  rw [runesFrom_list,List.drop_zero,Lib.size_eq]
  simp [decAll]
 have hsz:(Conv.runesFrom s s.size 0 #[]).size=(decAll s.data.toList).length:=by rw [hl];simp
 have hle:(decAll s.data.toList).length<=s.size:=by rw [Lib.size_eq];exact decF_len _ _
 have hrun:=run_runes_of_string (P:=P) w src dst e s hs hd he (by rw [hsz];omega)
 have hg:=grownCap_ge w (Conv.runesFrom s s.size 0 #[]).size 0 e
 have hgm:grownCap w (Conv.runesFrom s s.size 0 #[]).size 0 e<=9223372036854775807:=grownCap_le_maxLen w _ 0 e (by rw [hsz];unfold maxLen;omega)
 rw [hsz] at hrun hg hgm
 generalize grownCap w (decAll s.data.toList).length 0 e=cap at *
 refine ⟨cap,_,hrun,⟨by omega,hgm,?_,fun h=>by simp at h,?_⟩,?_⟩
 ·intro x hx
  have:=List.all_eq_true.1 (decF_good s.data.toList.length s.data.toList) x hx
  rw [good_iff] at this
  simp [Lit.wf,IntKind.min,IntKind.max,IntKind.signed,IntKind.bits]
  omega
 ·intro a ha hp
  obtain rfl:=Option.some.inj ha
  refine ⟨rfl,by simp,fun j hj=>?_⟩
  have:=World.cell?_alloc_mark w.drew (Conv.runesFrom s s.size 0 #[]++Array.replicate (cap - (decAll s.data.toList).length) (.int .i32 0)) e (0,0) (0+j)
  refine this.trans ?_
  rw [hl,Nat.zero_add,Array.getElem?_append_left (by simpa using hj)]
  simp [List.getD,List.getElem?_eq_getElem hj]
 ·exact (Below.refl _ w).drew.alloc (Nat.le_refl _) _
def RunesPost (rs:List Int) (w:World) (e:Ending) (w':World):Prop :=
 ∃ g cap,e=.returned (.tuple #[.slice (some ⟨g,0,none⟩) rs.length cap,.int .i64 0])/\Rd .i32 w' (some ⟨g,0,none⟩) cap rs/\Below w.heap.size w w'
theorem runes_yes (s:ByteArray) (rs:List Int) (w:World) (hT:Tabs w) (hs:s.size<=1099511627776) (hg:rs.all good=true) (hl:s.data.toList=encs rs) :
 Calls Tryz.prog 80 #[.string s] w (RunesPost rs w):=by
 have hd:decAll s.data.toList=rs:=by rw [hl,decAll_encs rs hg]
 have hok:okText s.data.toList:=⟨rs,hg,hl⟩
 have HD:=hid hd
 have HOK:=hid hok
 have HB:=hid (bad_any s w hT (by omega))
 clear hd hok hT
 go_enter Tryz.func80,Tryz.ntmps80
 go_wp2_with fail
 refine HB.out.mono ?_
 rintro e w1 ⟨i,rfl,hi,hb⟩
 have h1:i<0:=hi.2 HOK.out
 obtain ⟨cap,w2,hconv,hr,hb2⟩:=conv_runes_run (P:=Tryz.prog) w1 9 141 21 s Tryz.underlying9 Tryz.underlying141 Tryz.underlying21 (by omega)
 rw [HD.out] at hconv hr
 have HR:=hid hr
 have HB2:=hid (hb.trans (hb2.mono hb.size))
 clear hi hb hb2 hr
 go_wp2_with fail
 exact bodyPost_ret (v:=.tuple #[.slice (some ⟨w1.heap.size,0,none⟩) rs.length cap,.int .i64 0]) (by simp [results,Tryz.results80,go_sem]) rfl ⟨_,cap,rfl,HR.out,HB2.out⟩
structure Asked (J:Nat) (r:Lt) (full:Bool) (T:Lt) (q:Loc) (w:World):Prop where
 j:JAt w J r full
 u:Tabs w
 t:TyAt w (fun _=>True) T
 v:VAt w (fun _=>True) q
theorem Asked.keep {J:Nat} {r:Lt} {full:Bool} {T:Lt} {q:Loc} {w w':World} (h:Asked J r full T q w) (hb:Below w.heap.size w w'):Asked J r full T q w':=⟨h.j.keep hb,h.u.keep hb,h.t.keep hb,h.v.keep hb⟩
def OnAll (J:Nat) (r:Lt) (full:Bool) (d:Nat):Prop:=∀ (T:Lt) (q:Loc) (s:ByteArray) (i:Int) (w:World),Asked J r full T q w->TOk T.v->Gd d q.v ->
 Calls Tryz.prog 82 #[.pointer (some ⟨J,0,none⟩),T.val,q.val,.agg #[.string s,.int .i64 i]] w (FitPost (Fit full T.v q.v) (d+1) w)
def WrongAll (J:Nat) (r:Lt) (full:Bool) (d:Nat):Prop:=∀ (T:Lt) (q:Loc) (w:World),Asked J r full T q w->TOk T.v->Gd d q.v ->
 Calls Tryz.prog 30 #[.pointer (some ⟨J,0,none⟩),T.val,q.val] w (FitPost (Fit full T.v q.v) d w)
theorem six_at {w:World} {b:Nat} {ty:TypeId} {a0 a1 a2 a3 a4 a5:Value} (h:w.heap[b]?=some (.cells #[a0,a1,a2,a3,a4,a5] ty)):w.cell? ⟨b,0,none⟩=some a0/\w.cell? ⟨b,1,none⟩=some a1/\w.cell? ⟨b,2,none⟩=some a2/\w.cell? ⟨b,3,none⟩=some a3/\w.cell? ⟨b,4,none⟩=some a4/\w.cell? ⟨b,5,none⟩=some a5 :=
 ⟨by simp [World.cell?,h],by simp [World.cell?,h],by simp [World.cell?,h],by simp [World.cell?,h],by simp [World.cell?,h],by simp [World.cell?,h]⟩
theorem on_any {J:Nat} {r:Lt} {full:Bool} {d:Nat} (hw:WrongAll J r full d) (hd:d<=1000):OnAll J r full d:=by
 intro T q s i w ha hk hg
 have HC:Hid (∀ W,Below w.heap.size w W->Calls Tryz.prog 30 #[.pointer (some ⟨J,0,none⟩),T.val,q.val] W (FitPost (Fit full T.v q.v) d W)):=hid (fun W hW=>hw T q W (ha.keep hW) hk hg)
 unfold Lt.val Loc.val at HC ⊢
 generalize Fit full T.v q.v=P at *
 obtain ⟨O1,hO1⟩:∃ O1,O1=Obj.cells #[.int .i64 T.v.k,.int .i64 T.v.lo,.int .i64 T.v.hi,.slice T.xd T.v.x.length T.xc,.slice T.td T.v.t.length T.tc,.slice T.fd T.v.f.length T.fc,.string T.v.n] 27:=⟨_,rfl⟩
 obtain ⟨O2,hO2⟩:∃ O2,O2=Obj.cells #[.int .i64 q.v.k,.int .i64 q.v.n,.int .u64 q.v.f,.string q.v.s,.slice q.ad q.v.l.length q.cap,.slice q.bd q.v.e.length q.dap] 32:=⟨_,rfl⟩
 obtain ⟨O3,hO3⟩:∃ O3,O3=Obj.cells #[.string s,.int .i64 i] 147:=⟨_,rfl⟩
 obtain ⟨w3,hw3⟩:∃ w3,w3=((w.alloc O1).alloc O2).alloc O3:=⟨_,rfl⟩
 have hB3:Below w.heap.size w w3:=by rw [hw3];exact (((Below.refl w.heap.size w).alloc (Nat.le_refl _) _).alloc (by simp) _).alloc (by simp;omega) _
 have hc1:w3.heap[w.heap.size]?=some O1:=by rw [hw3,Below.heap_alloc _ _ _ (by simp;omega),Below.heap_alloc _ _ _ (by simp)];exact heap_alloc_new w _
 have hc2:w3.heap[w.heap.size+1]?=some O2:=by
  have:=heap_alloc_new (w.alloc O1) O2
  rw [World.size_alloc] at this
  rw [hw3,Below.heap_alloc _ _ _ (by simp)];exact this
 have hc3:w3.heap[w.heap.size+1+1]?=some O3:=by
  have:=heap_alloc_new ((w.alloc O1).alloc O2) O3
  rw [World.size_alloc,World.size_alloc] at this
  rw [hw3];exact this
 have HB:=hid hB3
 have HSZ:Hid (w3.heap.size=w.heap.size+1+1+1):=hid (by rw [hw3];simp)
 subst hO1 hO2 hO3
 obtain ⟨c0,c1,c2,c3,c4,c5,c6,-⟩:=ty_cells hc1
 obtain ⟨v0,v1,v2,v3,v4,v5⟩:=six_at hc2
 have HC3:=hid hc3
 have HE:=hid hw3
 clear hc1 hc2 hc3 hB3 hw3 hw ha hk hg
 go_enter Tryz.func82,Tryz.ntmps82
 go_upto_region 1 with fail
 rw [<-HE.out]
 clear HE
 go_wp2_with fail
 (with_reducible refine (HC.out _ HB.out).mono ?_)
 rintro e w4 ⟨ad,l,c,bad,rfl,hbad,hp,hb4⟩
 have hs4:w4.heap[w.heap.size+1+1]?=some (.cells #[.string s,.int .i64 i] 147):=(hb4.block _ (by rw [HSZ.out];omega)).trans HC3.out
 have z0:w4.cell? ⟨w.heap.size+1+1,0,none⟩=some (.string s):=by simp [World.cell?,hs4]
 have z1:w4.cell? ⟨w.heap.size+1+1,1,none⟩=some (.int .i64 i):=by simp [World.cell?,hs4]
 have HP:=hid hp
 have HB4:Hid (Below w.heap.size w w4):=hid (HB.out.trans (hb4.mono HB.out.size))
 have HBAD:=hid hbad
 clear hs4 hp hb4 hbad HC HB HSZ HC3 c0 c1 c2 c3 c4 c5 c6 v0 v1 v2 v3 v4 v5
 cases bad with
 | false =>
   have HF:Hid (FitPost P (d+1) w (.returned (.tuple #[.slice ad l c,.bool false])) w4):=hid ⟨ad,l,c,false,rfl,HBAD.out,HP.out.more (by omega),HB4.out⟩
   clear HP HB4 HBAD
   go_wp2_with fail
   exact bodyPost_ret (v:=.tuple #[.slice ad l c,.bool false]) (by simp [results,Tryz.results82,go_sem]) rfl HF.out
 | true =>
   obtain ⟨ad2,l2,c2,w5,hrun,hp2,hb2⟩:=path_more HP.out hd s i
   have HR:=hid hrun
   have HF:Hid (FitPost P (d+1) w (.returned (.tuple #[.slice ad2 l2 c2,.bool true])) w5):=hid ⟨ad2,l2,c2,true,rfl,HBAD.out,hp2,HB4.out.trans (hb2.mono HB4.out.size)⟩
   clear hrun hp2 hb2 HP HB4 HBAD
   go_wp2_with (at_builtin;refine wpl_append_eq rfl _ _ 58 58 rfl _ _ rfl rfl (HR.out _) ?_)
   exact bodyPost_ret (v:=.tuple #[.slice ad2 l2 c2,.bool true]) (by simp [results,Tryz.results82,go_sem]) rfl HF.out
structure TQ (w:World) (b:Nat) (T:Lt) (q:Loc):Prop where
 t:w.heap[b]?=some (.cells #[.int .i64 T.v.k,.int .i64 T.v.lo,.int .i64 T.v.hi,.slice T.xd T.v.x.length T.xc,.slice T.td T.v.t.length T.tc,.slice T.fd T.v.f.length T.fc,.string T.v.n] 27)
 q:w.heap[b+1]?=some (.cells #[.int .i64 q.v.k,.int .i64 q.v.n,.int .u64 q.v.f,.string q.v.s,.slice q.ad q.v.l.length q.cap,.slice q.bd q.v.e.length q.dap] 32)
theorem TQ.keep {w w':World} {b:Nat} {T:Lt} {q:Loc} (h:TQ w b T q) (hb:Below w.heap.size w w'):TQ w' b T q:=⟨(hb.block _ (Array.getElem?_eq_some_iff.1 h.t).1).trans h.t,(hb.block _ (Array.getElem?_eq_some_iff.1 h.q).1).trans h.q⟩
theorem tq_start (w:World) (T:Lt) (q:Loc):TQ ((w.alloc (.cells #[.int .i64 T.v.k,.int .i64 T.v.lo,.int .i64 T.v.hi,.slice T.xd T.v.x.length T.xc,.slice T.td T.v.t.length T.tc,.slice T.fd T.v.f.length T.fc,.string T.v.n] 27)).alloc (.cells #[.int .i64 q.v.k,.int .i64 q.v.n,.int .u64 q.v.f,.string q.v.s,.slice q.ad q.v.l.length q.cap,.slice q.bd q.v.e.length q.dap] 32)) w.heap.size T q /\
 Below w.heap.size w ((w.alloc (.cells #[.int .i64 T.v.k,.int .i64 T.v.lo,.int .i64 T.v.hi,.slice T.xd T.v.x.length T.xc,.slice T.td T.v.t.length T.tc,.slice T.fd T.v.f.length T.fc,.string T.v.n] 27)).alloc (.cells #[.int .i64 q.v.k,.int .i64 q.v.n,.int .u64 q.v.f,.string q.v.s,.slice q.ad q.v.l.length q.cap,.slice q.bd q.v.e.length q.dap] 32)):=by
 refine ⟨⟨?_,?_⟩,((Below.refl w.heap.size w).alloc (Nat.le_refl _) _).alloc (by simp) _⟩
 ·rw [Below.heap_alloc _ _ _ (by simp)];exact heap_alloc_new w _
 ·have:=heap_alloc_new (w.alloc (.cells #[.int .i64 T.v.k,.int .i64 T.v.lo,.int .i64 T.v.hi,.slice T.xd T.v.x.length T.xc,.slice T.td T.v.t.length T.tc,.slice T.fd T.v.f.length T.fc,.string T.v.n] 27)) (.cells #[.int .i64 q.v.k,.int .i64 q.v.n,.int .u64 q.v.f,.string q.v.s,.slice q.ad q.v.l.length q.cap,.slice q.bd q.v.e.length q.dap] 32)
  rw [World.size_alloc] at this
  exact this
theorem fit_post {P:Prop} {n:Nat} {w w':World} (b:Bool) (h:b=false↔P) (hb:Below w.heap.size w w'):FitPost P n w (.returned (.tuple #[.slice none 0 0,.bool b])) w':=⟨none,0,0,b,rfl,h,.nil,hb⟩
theorem part0 {full:Bool} {b:Ty} {v:V} (h4:b.k≠4) (h6:b.k≠6) (h7:b.k≠7) (h8:b.k≠8) (h9:b.k≠9) (h10:b.k≠10):PartFit full b v:=⟨fun h=>absurd h h4,fun h=>absurd h h6,fun h=>absurd h h7,fun h=>absurd h h8,fun h=>absurd h h8,fun h=>absurd h h9,fun h=>absurd h h10⟩
theorem part4 {full:Bool} {b:Ty} {v:V} (h:b.k=4):PartFit full b v↔b.lo<=v.n/\v.n<=b.hi:=⟨fun p=>p.i h,fun p=>⟨fun _=>p,fun e=>by omega,fun e=>by omega,fun e=>by omega,fun e=>by omega,fun e=>by omega,fun e=>by omega⟩⟩
theorem part6 {full:Bool} {b:Ty} {v:V} (h:b.k=6):PartFit full b v↔b.lo<=runeN v.s.data.toList/\(runeN v.s.data.toList:Int)<=b.hi:=⟨fun p=>p.s h,fun p=>⟨fun e=>by omega,fun _=>p,fun e=>by omega,fun e=>by omega,fun e=>by omega,fun e=>by omega,fun e=>by omega⟩⟩
theorem part7 {full:Bool} {b:Ty} {v:V} (h:b.k=7):PartFit full b v↔v.s∈b.x:=⟨fun p=>p.o h,fun p=>⟨fun e=>by omega,fun e=>by omega,fun _=>p,fun e=>by omega,fun e=>by omega,fun e=>by omega,fun e=>by omega⟩⟩
theorem part8 {full:Bool} {b:Ty} {v:V} (h:b.k=8):PartFit full b v↔(b.lo<=v.l.length/\(v.l.length:Int)<=b.hi)/\∀ c∈v.l,Fit full (b.t.getD 0 default) c:=⟨fun p=>⟨p.n h,p.l h⟩,fun p=>⟨fun e=>by omega,fun e=>by omega,fun e=>by omega,fun _=>p.1,fun _=>p.2,fun e=>by omega,fun e=>by omega⟩⟩
theorem part9 {full:Bool} {b:Ty} {v:V} (h:b.k=9):PartFit full b v↔∀ c∈v.e,Fit full (b.t.getD 0 default) c.2:=⟨fun p=>p.m h,fun p=>⟨fun e=>by omega,fun e=>by omega,fun e=>by omega,fun e=>by omega,fun e=>by omega,fun _=>p,fun e=>by omega⟩⟩
theorem part10 {full:Bool} {b:Ty} {v:V} (h:b.k=10):PartFit full b v↔RecFit full b.f v.e:=⟨fun p=>p.r h,fun p=>⟨fun e=>by omega,fun e=>by omega,fun e=>by omega,fun e=>by omega,fun e=>by omega,fun e=>by omega,fun _=>p⟩⟩
theorem rune_len {l:List UInt8} {rs:List Int} (hg:rs.all good=true) (hl:l=encs rs):runeN l=rs.length:=by
 have hok:okText l:=⟨rs,hg,hl⟩
 have key:∀ h:okText l,h.choose=rs:=fun h=>by
  have h2:=h.choose_spec
  have h3:=decAll_encs _ h2.1
  have e3:decAll l=rs:=by rw [hl,decAll_encs rs hg]
  exact (h3.symm.trans (congrArg decAll h2.2.symm)).trans e3
 unfold runeN
 rw [dif_pos hok]
 exact congrArg List.length (key hok)
theorem not_both {a b c:Int}:(!(decide (a<=b) && decide (b<=c)))=false↔a<=b/\b<=c:=by simp
theorem part_other {J:Nat} {r:Lt} {full:Bool} {d:Nat} (T:Lt) (q:Loc) (w:World) (ha:Asked J r full T q w) (hk:TOk T.v) (hg:Gd (d+1) q.v) (hkd:T.v.k=1\/T.v.k=2\/T.v.k=3\/T.v.k=5) :
 Calls Tryz.prog 53 #[.pointer (some ⟨J,0,none⟩),T.val,q.val] w (FitPost (PartFit full T.v q.v) (d+1) w):=by
 obtain ⟨htq,hb2⟩:=tq_start w T q
 have hA2:=ha.keep hb2
 have HKD:=hid hkd
 clear hkd
 unfold Lt.val Loc.val
 go_enter Tryz.func53,Tryz.ntmps53
 go_upto_region 1 with fail
 generalize World.alloc (World.alloc w _) _=w2 at htq hb2 hA2 ⊢
 have hkd:=HKD.out
 obtain ⟨c0,c1,c2,c3,c4,c5,c6,-⟩:=ty_cells htq.t
 obtain ⟨v0,v1,v2,v3,v4,v5⟩:=six_at htq.q
 have HF:Hid (FitPost (PartFit full T.v q.v) (d+1) w (.returned (.tuple #[.slice none 0 0,.bool false])) w2):=hid (fit_post false (by simp only [true_iff];exact part0 (by omega) (by omega) (by omega) (by omega) (by omega) (by omega)) hb2)
 clear htq hb2 hA2 ha hk hg
 rcases hkd with h|h|h|h
 all_goals
  rw [h] at c0
  go_wp2_with fail
  exact bodyPost_ret (v:=.tuple #[.slice none 0 0,.bool false]) (by simp [results,Tryz.results53,go_sem]) rfl HF.out
theorem part_int {J:Nat} {r:Lt} {full:Bool} {d:Nat} (T:Lt) (q:Loc) (w:World) (ha:Asked J r full T q w) (hk:TOk T.v) (hg:Gd (d+1) q.v) (hkd:T.v.k=4) :
 Calls Tryz.prog 53 #[.pointer (some ⟨J,0,none⟩),T.val,q.val] w (FitPost (PartFit full T.v q.v) (d+1) w):=by
 obtain ⟨htq,hb2⟩:=tq_start w T q
 have hA2:=ha.keep hb2
 have HKD:=hid hkd
 clear hkd
 unfold Lt.val Loc.val
 go_enter Tryz.func53,Tryz.ntmps53
 go_upto_region 1 with fail
 generalize World.alloc (World.alloc w _) _=w2 at htq hb2 hA2 ⊢
 have hkd:=HKD.out
 obtain ⟨c0,c1,c2,c3,c4,c5,c6,-⟩:=ty_cells htq.t
 obtain ⟨v0,v1,v2,v3,v4,v5⟩:=six_at htq.q
 rw [hkd] at c0
 obtain ⟨bb,hbb⟩:∃ bb,(decide (T.v.lo<=q.v.n) && decide (q.v.n<=T.v.hi))=bb:=⟨_,rfl⟩
 have HF:Hid (FitPost (PartFit full T.v q.v) (d+1) w (.returned (.tuple #[.slice none 0 0,.bool (!bb)])) w2):=hid (fit_post (!bb) (by rw [<-hbb,part4 hkd];exact not_both) hb2)
 have HC:=hid (fun W=>between_any q.v.n T.v.lo T.v.hi W)
 rw [hbb] at HC
 clear hkd htq hb2 hA2 ha hk hg hbb
 go_wp2_with fail
 (with_reducible refine (HC.out _).mono ?_)
 rintro e w3 ⟨rfl,rfl⟩
 go_wp2_with fail
 exact bodyPost_ret (v:=.tuple #[.slice none 0 0,.bool (!bb)]) (by simp [results,Tryz.results53,go_sem]) rfl HF.out
theorem part_text {J:Nat} {r:Lt} {full:Bool} {d:Nat} (T:Lt) (q:Loc) (w:World) (ha:Asked J r full T q w) (hk:TOk T.v) (hg:Gd (d+1) q.v) (hkd:T.v.k=6) :
 Calls Tryz.prog 53 #[.pointer (some ⟨J,0,none⟩),T.val,q.val] w (FitPost (PartFit full T.v q.v) (d+1) w):=by
 obtain ⟨htq,hb2⟩:=tq_start w T q
 have hA2:=ha.keep hb2
 have HKD:=hid hkd
 clear hkd
 unfold Lt.val Loc.val
 go_enter Tryz.func53,Tryz.ntmps53
 go_upto_region 1 with fail
 generalize World.alloc (World.alloc w _) _=w2 at htq hb2 hA2 ⊢
 have hkd:=HKD.out
 obtain ⟨c0,c1,c2,c3,c4,c5,c6,-⟩:=ty_cells htq.t
 obtain ⟨v0,v1,v2,v3,v4,v5⟩:=six_at htq.q
 rw [hkd] at c0
 obtain ⟨rs,hrs,hl⟩:=(ownV_zero hg.1).2.2.2.2
 have hs4:=(ownV_zero hg.1).2.1
 have hlen:rs.length<=1000000:=by have:=decF_len q.v.s.data.toList.length q.v.s.data.toList;rw [show decF q.v.s.data.toList.length q.v.s.data.toList=decAll q.v.s.data.toList from rfl,hl,decAll_encs rs hrs,<-hl,<-Lib.size_eq] at this;omega
 obtain ⟨bb,hbb⟩:∃ bb,(decide (T.v.lo<=(rs.length:Int)) && decide ((rs.length:Int)<=T.v.hi))=bb:=⟨_,rfl⟩
 have HF:Hid (∀ w3,Below w2.heap.size w2 w3->FitPost (PartFit full T.v q.v) (d+1) w (.returned (.tuple #[.slice none 0 0,.bool (!bb)])) w3):=hid (fun w3 hb3=>fit_post (!bb) (by rw [<-hbb,part6 hkd,rune_len hrs hl];exact not_both) (hb2.trans (hb3.mono hb2.size)))
 have HC:=hid (fun W=>between_any (rs.length:Int) T.v.lo T.v.hi W)
 rw [hbb] at HC
 have HRU:=hid (runes_yes q.v.s rs w2 hA2.u (by omega) hrs hl)
 have HTQ:=hid htq
 clear hkd htq hb2 hA2 ha hk hg hbb hl hrs hs4
 go_wp2_with fail
 (with_reducible refine (HRU.out).mono ?_)
 rintro e w3 ⟨g,cap,rfl,-,hb3⟩
 clear c0 c1 c2 c3 c4 c5 c6 v0 v1 v2 v3 v4 v5
 obtain ⟨c0,c1,c2,c3,c4,c5,c6,-⟩:=ty_cells (HTQ.out.keep hb3).t
 have HF3:=hid (HF.out w3 hb3)
 clear hb3 HF HTQ HRU
 go_wp2_with fail
 (with_reducible refine (HC.out _).mono ?_)
 rintro e w4 ⟨rfl,rfl⟩
 go_wp2_with fail
 exact bodyPost_ret (v:=.tuple #[.slice none 0 0,.bool (!bb)]) (by simp [results,Tryz.results53,go_sem]) rfl HF3.out
theorem srow_at {w:World} {B:Nat->Prop} {xs:List ByteArray} {ad:Option Addr} {n c:Nat} (h:SRow w B xs (.slice ad n c)) (hp:0<xs.length):∃ b off,ad=some ⟨b,off,none⟩/\n=xs.length/\b<w.heap.size/\∀ i x,xs[i]?=some x->w.cell? ⟨b,off+i,none⟩=some (.string x)/\x.size<=140737488351232:=by
 generalize hv:Value.slice ad n c=v at h
 cases h with
 | nil ad cap=>simp at hp
 | row xs blk off cap hne hn hB hlt hc =>
   simp only [Value.slice.injEq] at hv
   obtain ⟨rfl,rfl,rfl⟩:=hv
   exact ⟨blk,off,rfl,rfl,hlt,hc⟩
theorem part_oneof {J:Nat} {r:Lt} {full:Bool} {d:Nat} (T:Lt) (q:Loc) (w:World) (ha:Asked J r full T q w) (hk:TOk T.v) (hg:Gd (d+1) q.v) (hkd:T.v.k=7) :
 Calls Tryz.prog 53 #[.pointer (some ⟨J,0,none⟩),T.val,q.val] w (FitPost (PartFit full T.v q.v) (d+1) w):=by
 obtain ⟨htq,hb2⟩:=tq_start w T q
 have hA2:=ha.keep hb2
 have HKD:=hid hkd
 clear hkd
 unfold Lt.val Loc.val
 go_enter Tryz.func53,Tryz.ntmps53
 go_upto_region 1 with fail
 generalize World.alloc (World.alloc w _) _=w2 at htq hb2 hA2 ⊢
 have hkd:=HKD.out
 obtain ⟨c0,c1,c2,c3,c4,c5,c6,-⟩:=ty_cells htq.t
 obtain ⟨v0,v1,v2,v3,v4,v5⟩:=six_at htq.q
 rw [hkd] at c0
 have hx:=hA2.t.x
 have hxl:=hx.bound
 have hne:=hk.x hkd
 obtain ⟨xb,xo,hxd,-,-,hcx⟩:=srow_at hx hne
 rw [hxd] at c3
 obtain ⟨bb,hbb⟩:∃ bb,Lib.containsS (T.v.x.take T.v.x.length) q.v.s=bb:=⟨_,rfl⟩
 have HF:Hid (FitPost (PartFit full T.v q.v) (d+1) w (.returned (.tuple #[.slice none 0 0,.bool (!bb)])) w2):=hid (fit_post (!bb) (by
  rw [List.take_length] at hbb
  rw [<-hbb,part7 hkd,<-Lib.containsS_iff];simp) hb2)
 have HC:=hid (Tryz.slices_Contains_string xb xo T.v.x.length T.xc T.v.x q.v.s w2 (Nat.le_refl _) (by omega) (fun j hj=>by
  have:=(hcx j _ (List.getElem?_eq_getElem hj)).1
  rw [this,List.getD_eq_getElem?_getD,List.getElem?_eq_getElem hj];rfl))
 rw [hbb] at HC
 clear hkd htq hb2 hA2 ha hk hg hbb hx hcx hne
 go_wp2_with fail
 (with_reducible refine (HC.out).mono ?_)
 rintro e w3 ⟨rfl,rfl⟩
 go_wp2_with fail
 exact bodyPost_ret (v:=.tuple #[.slice none 0 0,.bool (!bb)]) (by simp [results,Tryz.results53,go_sem]) rfl HF.out
end Go.Proofs.YtgnonbdkmmkdgaaGreatDoor
