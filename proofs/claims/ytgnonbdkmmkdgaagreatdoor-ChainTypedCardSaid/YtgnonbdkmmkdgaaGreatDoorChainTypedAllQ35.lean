/-
  Lemmas for the statement: plain laws, and what functions answer; the conditions stand in each.
-/
import Derived.Test.YtgnonbdkmmkdgaaGreatDoorChainTypedAllQ05
import Derived.Test.YtgnonbdkmmkdgaaGreatDoorChainTypedAllQ34
set_option linter.unusedVariables false
set_option linter.unusedSimpArgs false
set_option maxHeartbeats 16000000
set_option maxRecDepth 100000
open Go.Lib (hid)
namespace Go.Proofs.YtgnonbdkmmkdgaaGreatDoor
open Go.RowKit Gx
structure T2 (w:World) (X:Array Value) (W:World):Prop where
 g:Below w.heap.size w W
 s:w.heap.size+1<W.heap.size
 bt:W.heap[w.heap.size]?=some (.cells X 27)
 res:W.heap[w.heap.size+1]?=some (.cells #[.int .i64 0,.int .i64 0,.int .i64 0,.slice none 0 0,.slice none 0 0,.slice none 0 0,.string ⟨#[]⟩] 27)
namespace T2
variable {w W W':World} {X X':Array Value}
theorem grow (h:T2 w X W) {r:Option Nat} (hg:W.grownBy W' r) (hr:∀ b,r=some b->w.heap.size+1<b):T2 w X W':=by
 have hs:=h.s
 have hc:∀ k,k<W.heap.size->k<=w.heap.size+1->W'.heap[k]?=W.heap[k]?:=fun k hk h2=>hg.block k hk (fun e=>by have:=hr k e.symm;omega)
 exact ⟨h.g.grown hg (by omega) (fun b e=>by have:=hr b e;omega),Nat.lt_of_lt_of_le h.s hg.size,(hc _ (by omega) (by omega)).trans h.bt,(hc _ (by omega) (by omega)).trans h.res⟩
theorem keep (h:T2 w X W) (hb:Below W.heap.size W W'):T2 w X W':=h.grow (grown_none hb) (fun _ e=>absurd e (by simp))
theorem setT (h:T2 w X W) (hg:W.grownBy W' (some w.heap.size)) (hc:W'.heap[w.heap.size]?=some (.cells X' 27)):T2 w X' W':=by
 have hs:=h.s
 exact ⟨h.g.grown hg (by omega) (fun b e=>by have:=Option.some.inj e;omega),Nat.lt_of_lt_of_le h.s hg.size,hc,(hg.block _ (by omega) (fun e=>by have:=Option.some.inj e;omega)).trans h.res⟩
theorem fin (h:T2 w X W) (hg:W.grownBy W' (some (w.heap.size+1))):Below w.heap.size w W':=h.g.grown hg (by have:=h.s;omega) (fun b e=>by have:=Option.some.inj e;omega)
theorem start (w:World) (X:Array Value):T2 w X ((w.alloc (.cells X 27)).alloc (.cells #[.int .i64 0,.int .i64 0,.int .i64 0,.slice none 0 0,.slice none 0 0,.slice none 0 0,.string ⟨#[]⟩] 27)):=by
 refine ⟨((Below.refl _ w).alloc (Nat.le_refl _) _).alloc (by simp) _,by simp,?_,?_⟩
 ·rw [Below.heap_alloc _ _ _ (by simp)]
  exact heap_alloc_new w _
 ·have:=heap_alloc_new (w.alloc (.cells X 27)) (.cells #[.int .i64 0,.int .i64 0,.int .i64 0,.slice none 0 0,.slice none 0 0,.slice none 0 0,.string ⟨#[]⟩] 27)
  rwa [World.size_alloc] at this
end T2
def linksOf (ls:List Ln):Links:=ls.map fun k=>(k.a,k.b)
def movesOf (ls:List Ln) (o:List Nat):List Mv:=o.flatMap fun i=>(((ls[i]?).map Ln.ms).getD []).map Lm.mv
theorem movesOf_take {ls:List Ln} {o:List Nat} {j i:Nat} {k:Ln} (hj:o[j]?=some i) (hi:ls[i]?=some k):movesOf ls (o.take (j+1))=movesOf ls (o.take j)++k.ms.map Lm.mv:=by
 obtain ⟨hl,he⟩:=List.getElem?_eq_some_iff.1 hj
 unfold movesOf
 rw [List.take_add_one,hj,List.flatMap_append]
 simp [hi]
theorem take_more {α:Type} {l:List α} {k:Nat} {x:α} (h:l[k]?=some x):l.take (k+1)=l.take k++[x]:=by rw [List.take_add_one,h];rfl
def PlanB (L:Links) (a b:Int) (w:World) (e:Ending) (w':World):Prop:=∃ (ad:Option Addr) (n cap:Nat) (c:Int),e=.returned (.tuple #[.slice ad n cap,.int .i64 c])/\Below w.heap.size w w'/\(c=0->∃ f o,Dist L b f/\Way L f o a b/\n=o.length/\Rd .i64 w' ad cap (o.map Int.ofNat)/\∀ z,ad=some z->w.heap.size<=z.block)/\(c≠0->c=2\/∃ f,Dist L b f/\f a=none)
theorem planB_any (ad:Option Addr) (cap:Nat) (L:Links) (a b:Int) (w:World) (hL:Lk w ad cap L) (ha:(Lit.int .i64 a).wf=true) (hb:(Lit.int .i64 b).wf=true) :
 Calls Tryz.prog 9 #[.slice ad L.length cap,.int .i64 a,.int .i64 b] w (PlanB L a b w):=by
 by_cases hl:L.length<=100
 ·refine (plan_any ad cap L a b w hL hl ha hb).mono ?_
  rintro e w' ⟨f,hd,hbl,⟨hfn,rfl⟩|⟨o,ad',cap',hw,rfl,hr,hfr⟩⟩
  ·exact ⟨none,0,0,8,rfl,hbl,fun h=>(by cases h),fun _=>.inr ⟨f,hd,hfn⟩⟩
  ·exact ⟨ad',o.length,cap',0,rfl,hbl,fun _=>⟨f,o,hd,hw,rfl,hr,hfr⟩,fun h=>absurd rfl h⟩
 ·refine (planLarge_any ad cap L a b w (by omega) (by have:=hL.ncap;have:=hL.cap63;omega)).mono ?_
  rintro e w' ⟨rfl,rfl⟩
  exact ⟨none,0,0,2,rfl,Below.refl _ _,fun h=>(by cases h),fun _=>.inl rfl⟩
theorem LRow.cells {w:World} {ad:Option Addr} {ls:List Ln} (h:LRow w ad ls) {i:Nat} {k:Ln} (hi:ls[i]?=some k):∃ b o,ad=some ⟨b,o,none⟩/\b<w.heap.size/\MRow w k.ad k.ms/\w.cell? ⟨b,o+i * 3+2,none⟩=some (.slice k.ad k.ms.length k.cap):=by
 obtain ⟨-,-,hm,b,o,rfl,hc⟩:=h.2.2 i k hi
 obtain ⟨b',o',e,hlt⟩:=h.2.1 (by intro e;rw [e] at hi;cases hi)
 simp only [Option.some.injEq,Addr.mk.injEq,and_true] at e
 obtain ⟨rfl,rfl⟩:=e
 exact ⟨b,o,rfl,hlt,hm,hc 2 _ rfl⟩
theorem MRow.cells {w:World} {ad:Option Addr} {ms:List Lm} (h:MRow w ad ms) {i:Nat} {m:Lm} (hi:ms[i]?=some m):∃ b o,ad=some ⟨b,o,none⟩/\b<w.heap.size/\MvAt w (fun _=>True) m/\∀ j u,m.cs[j]?=some u->w.cell? ⟨b,o+i * 10+j,none⟩=some u:=by
 obtain ⟨hm,b,o,rfl,hc⟩:=h.2.2 i m hi
 obtain ⟨b',o',e,hlt⟩:=h.2.1 (by intro e;rw [e] at hi;cases hi)
 simp only [Option.some.injEq,Addr.mk.injEq,and_true] at e
 obtain ⟨rfl,rfl⟩:=e
 exact ⟨b,o,rfl,hlt,hm,hc⟩
def CTPost (ls:List Ln) (a:Ty) (fr to_:Int) (w:World) (e:Ending) (w':World):Prop:=∃ (x:Lt) (i code:Int),e=.returned (.tuple #[x.val,.int .i64 i,.int .i64 code]) /\
 (code=0->fitsE a=0/\(∃ f o,Dist (linksOf ls) to_ f/\Way (linksOf ls) f o fr to_/\WayR (movesOf ls o) a x.v)/\TyAt w' (fun b=>w.heap.size<=b) x)/\(code≠0->x=⟨.zero,none,0,none,0,none,0⟩)/\Below w.heap.size w w'
theorem chainTyped_any (ad:Option Addr) (cap:Nat) (ls:List Ln) (fr to_:Int) (q:Lt) (w:World) (hL:LRow w ad ls) (hLk:Lk w ad cap (linksOf ls)) (ha:(Lit.int .i64 fr).wf=true) (hb:(Lit.int .i64 to_).wf=true) (hq:TyAt w (fun _=>True) q) (hT:Tabs w) :
 Calls Tryz.prog 5 #[.slice ad ls.length cap,.int .i64 fr,.int .i64 to_,q.val] w (CTPost ls q.v fr to_ w):=by
 have hrb:=T2.start w #[.int .i64 q.v.k,.int .i64 q.v.lo,.int .i64 q.v.hi,.slice q.xd q.v.x.length q.xc,.slice q.td q.v.t.length q.tc,.slice q.fd q.v.f.length q.fc,.string q.v.n]
 have hpl:∀ W,Below w.heap.size w W->Calls Tryz.prog 9 #[.slice ad ls.length cap,.int .i64 fr,.int .i64 to_] W (PlanB (linksOf ls) fr to_ W):=fun W hb'=>by
  have h:=planB_any ad cap (linksOf ls) fr to_ W (hLk.keep hb') ha hb
  rw [show (linksOf ls).length=ls.length from List.length_map _] at h
  exact h
 unfold Lt.val
 obtain ⟨nx,hnx⟩:∃ m,q.v.x.length=m:=⟨_,rfl⟩
 obtain ⟨nt,hnt⟩:∃ m,q.v.t.length=m:=⟨_,rfl⟩
 obtain ⟨nf,hnf⟩:∃ m,q.v.f.length=m:=⟨_,rfl⟩
 obtain ⟨nl,hnl⟩:∃ m,ls.length=m:=⟨_,rfl⟩
 obtain ⟨cf,hcf⟩:∃ c,fitsE q.v=c:=⟨_,rfl⟩
 rw [hnx,hnt,hnf] at hrb ⊢
 simp only [hnl] at hpl
 rw [hnl]
 have HPL:=hid hpl
 have HNX:=hid hnx
 have HNT:=hid hnt
 have HNF:=hid hnf
 have HNL:=hid hnl
 have HCF:=hid hcf
 have HQ:=hid hq
 have HL:=hid hL
 have HT:=hid hT
 clear hnx hnt hnf hnl hcf hq hL hLk hT hpl ha hb
 go_enter Tryz.func5,Tryz.ntmps5
 go_upto_region 1 with fail
 generalize World.alloc (World.alloc w _) _=w1 at hrb ⊢
 have HR:=hid hrb
 clear hrb
 have HPL1:=hid (HPL.out w1 HR.out.g)
 have HS1:Hid (w.heap.size+1<w1.heap.size):=hid HR.out.s
 go_wp2_with fail
 (with_reducible refine HPL1.out.mono ?_)
 rintro e w2 ⟨wd,n,wc',cp,rfl,hb2,hway,-⟩
 have HR2:=hid (HR.out.keep hb2)
 have HWAY:=hid hway
 clear hb2 hway HPL1 HR HPL
 obtain ⟨a0,a1,a2,a3,a4,a5,a6,-⟩:=ty_cells HR2.out.bt
 by_cases h0:cp=0
 case neg =>
  have e1:(cp==0)=false:=beq_eq_false_iff_ne.2 h0
  have e2:(cp != 0)=true:=by simp [h0]
  obtain ⟨p0,p1,p2,p3,p4,p5,p6,pf⟩:=ty_cells HR2.out.res
  have pf0:=pf 0
  have pf1:=pf 1
  have pf2:=pf 2
  have pf3:=pf 3
  have pf4:=pf 4
  have pf5:=pf 5
  have pf6:=pf 6
  obtain ⟨W9,hW9,hr9,hg9⟩:=seven_all HR2.out.res (.int .i64 0) (.int .i64 0) (.int .i64 0) (.slice none 0 0) (.slice none 0 0) (.slice none 0 0) (.string ⟨#[]⟩)
  obtain ⟨q0,q1,q2,q3,q4,q5,q6,-⟩:=ty_cells hr9
  have HW9:=hid hW9
  have HPOST:Hid (CTPost ls q.v fr to_ w (.returned (.tuple #[.agg #[.int .i64 0,.int .i64 0,.int .i64 0,.slice none 0 0,.slice none 0 0,.slice none 0 0,.string ⟨#[]⟩],.int .i64 0,.int .i64 cp])) W9):=hid ⟨⟨.zero,none,0,none,0,none,0⟩,0,cp,rfl,fun h=>absurd h h0,fun _=>rfl,HR2.out.fin hg9⟩
  clear hW9 hr9 hg9 pf
  go_wp2_with fail
  rw [<-HW9.out]
  exact bodyPost_ret (v:=.tuple #[.agg #[.int .i64 0,.int .i64 0,.int .i64 0,.slice none 0 0,.slice none 0 0,.slice none 0 0,.string ⟨#[]⟩],.int .i64 0,.int .i64 cp]) (by simp [results,Tryz.results5,go_sem,q0,q1,q2,q3,q4,q5,q6]) rfl HPOST.out
 obtain rfl:cp=0:=h0
 have e1:((0:Int)==0)=true:=rfl
 obtain ⟨f,o,hd,hw,hn,hrd,hfr⟩:=HWAY.out (by first|rfl|trivial)
 have HFR:Hid (∀ z,wd=some z->w.heap.size+1<z.block):=hid (fun z hz=>by have:=hfr z hz;have:=HS1.out;omega)
 have HD:=hid hd
 have HW:=hid hw
 have HN:=hid hn
 have HRD:=hid hrd
 clear hd hw hn hrd hfr HWAY
 have hck:=fitsCheck_any q w2 (HQ.out.keep HR2.out.g) (HT.out.keep HR2.out.g)
 unfold IntB at hck
 rw [HNX.out,HNT.out,HNF.out,HCF.out] at hck
 have HCK:=hid hck
 clear hck
 go_wp2_with fail
 (with_reducible refine HCK.out.mono ?_)
 rintro e w3 ⟨rfl,hb3⟩
 have HR3:=hid (HR2.out.keep hb3)
 have HRD3:=hid (HRD.out.keep hb3)
 clear a0 a1 a2 a3 a4 a5 a6 hb3 HR2 HRD HCK
 by_cases h0:cf=0
 case neg =>
  have e2:(cf != 0)=true:=by simp [h0]
  obtain ⟨p0,p1,p2,p3,p4,p5,p6,pf⟩:=ty_cells HR3.out.res
  have pf0:=pf 0
  have pf1:=pf 1
  have pf2:=pf 2
  have pf3:=pf 3
  have pf4:=pf 4
  have pf5:=pf 5
  have pf6:=pf 6
  obtain ⟨W9,hW9,hr9,hg9⟩:=seven_all HR3.out.res (.int .i64 0) (.int .i64 0) (.int .i64 0) (.slice none 0 0) (.slice none 0 0) (.slice none 0 0) (.string ⟨#[]⟩)
  obtain ⟨q0,q1,q2,q3,q4,q5,q6,-⟩:=ty_cells hr9
  have HW9:=hid hW9
  have HPOST:Hid (CTPost ls q.v fr to_ w (.returned (.tuple #[.agg #[.int .i64 0,.int .i64 0,.int .i64 0,.slice none 0 0,.slice none 0 0,.slice none 0 0,.string ⟨#[]⟩],.int .i64 0,.int .i64 cf])) W9):=hid ⟨⟨.zero,none,0,none,0,none,0⟩,0,cf,rfl,fun h=>absurd h h0,fun _=>rfl,HR3.out.fin hg9⟩
  clear hW9 hr9 hg9 pf
  go_wp2_with fail
  rw [<-HW9.out]
  exact bodyPost_ret (v:=.tuple #[.agg #[.int .i64 0,.int .i64 0,.int .i64 0,.slice none 0 0,.slice none 0 0,.slice none 0 0,.string ⟨#[]⟩],.int .i64 0,.int .i64 cf]) (by simp [results,Tryz.results5,go_sem,q0,q1,q2,q3,q4,q5,q6]) rfl HPOST.out
 obtain rfl:cf=0:=h0
 have e2:((0:Int) != 0)=false:=rfl
 obtain ⟨a0,a1,a2,a3,a4,a5,a6,-⟩:=ty_cells HR3.out.bt
 have hown:=ownT_any q w3 (HQ.out.keep HR3.out.g) (fitsE_seen HCF.out:Seen 20 q.v).tidy
 unfold OwnTPost Lt.val at hown
 rw [HNX.out,HNT.out,HNF.out] at hown
 have HOWN:=hid hown
 clear hown
 go_wp2_with fail
 (with_reducible refine HOWN.out.mono ?_)
 rintro e w4 ⟨y0,rfl,hyv,hyo,hb4⟩
 have HR4:=hid (HR3.out.keep hb4)
 have HRD4:=hid (HRD3.out.keep hb4)
 have hs3:=HR3.out.s
 have HYV:=hid hyv
 have HYA:=hid (hyo.at_.weak (C:=fun b=>w.heap.size+1<b) (fun b hb _=>by omega))
 obtain ⟨d0,d1,d2,d3,d4,d5,d6,df⟩:=ty_cells HR4.out.bt
 have df0:=df 0
 have df1:=df 1
 have df2:=df 2
 have df3:=df 3
 have df4:=df 4
 have df5:=df 5
 have df6:=df 6
 obtain ⟨W5,hW5,hr5,hg5⟩:=seven_all HR4.out.bt (.int .i64 y0.v.k) (.int .i64 y0.v.lo) (.int .i64 y0.v.hi) (.slice y0.xd y0.v.x.length y0.xc) (.slice y0.td y0.v.t.length y0.tc) (.slice y0.fd y0.v.f.length y0.fc) (.string y0.v.n)
 have HR5:=hid (HR4.out.setT hg5 hr5)
 have HY5:=hid (HYA.out.grow hg5 (fun b e hb=>by have:=Option.some.inj e;omega))
 have HRD5:Hid (Rd .i64 W5 wd wc' (o.map Int.ofNat)):=hid (HRD4.out.grown hg5 (fun a ha _ e=>by have h8:=HFR.out a ha;have h9:=Option.some.inj e;omega))
 have HW5:=hid hW5
 clear a0 a1 a2 a3 a4 a5 a6 hyv hyo hb4 hW5 hr5 hg5 df HR3 HRD3 HRD4 HOWN HYA hs3
 go_upto_region 7 with fail
 rw [<-HW5.out]
 clear d0 d1 d2 d3 d4 d5 d6 df0 df1 df2 df3 df4 df5 df6 HR4 HW5
 obtain rfl:n=o.length:=HN.out
 obtain ⟨n,hn⟩:∃ n,o.length=n:=⟨_,rfl⟩
 rw [hn]
 have HNN:=hid hn
 clear hn HN
 go_wp2_with fail
 go_loopw [12,14,16,37] (fun v12 v14 v16 v37 wr=>∃ (j:Nat) (y:Lt),j<=n/\v12=.int .i64 0/\v37=.int .i64 j/\Hid (WayR (movesOf ls (o.take j)) q.v y.v)/\Hid (T2 w #[.int .i64 y.v.k,.int .i64 y.v.lo,.int .i64 y.v.hi,.slice y.xd y.v.x.length y.xc,.slice y.td y.v.t.length y.tc,.slice y.fd y.v.f.length y.fc,.string y.v.n] wr)/\Hid (TyAt wr (fun b=>w.heap.size+1<b) y)/\Hid (Rd .i64 wr wd wc' (o.map Int.ofNat))) (fun v12 v14 v16 v37 _=>n - (intOf v37).toNat)
 case atStart=>exact ⟨0,y0,Nat.zero_le _,rfl,rfl,hid (by rw [HYV.out];exact .nil _),HR5,HY5,HRD5⟩
 case round =>
  obtain ⟨j,y,hjn,rfl,rfl,HWR,HRr,HYr,HRDr⟩:=hrel
  by_cases hlt:j<n
  ·obtain ⟨i,hi⟩:∃ i,o[j]?=some i:=⟨_,List.getElem?_eq_getElem (by rw [HNN.out];exact hlt)⟩
   have hil:i<ls.length:=by
    have:=Way.lt HW.out i (List.mem_of_getElem? hi)
    rwa [show (linksOf ls).length=ls.length from List.length_map _] at this
   obtain ⟨k,hk⟩:∃ k,ls[i]?=some k:=⟨_,List.getElem?_eq_getElem hil⟩
   obtain ⟨lb,lo,rfl,hlb,hmr,hlc⟩:=HL.out.cells hk
   have hl2:=(HRr.out.g.cell (p:=⟨lb,lo+i * 3+2,none⟩) hlb).trans hlc
   obtain ⟨rb,ro,hra,hrb',hrc⟩:=HRDr.out.addr (by rw [List.length_map,HNN.out];omega)
   obtain rfl:=hra
   have hrj:wr.cell? ⟨rb,ro+j,none⟩=some (.int .i64 (i:Int)):=by
    have:=hrc j (by rw [List.length_map,HNN.out];exact hlt)
    rw [this,List.getD_eq_getElem?_getD,List.getElem?_map,hi];rfl
   have hnb:n<=9223372036854775807:=by have h8:=HRDr.out.ncap;have h9:=HRDr.out.cap63;rw [List.length_map,HNN.out] at h8;omega
   have hmb':k.ms.length * 10<=140737488351232:=hmr.1
   have r1:(0:Int)<=(j:Int):=by omega
   have r2:(j:Int)<(n:Int):=by omega
   have r3:(0:Int)<=(i:Int):=by omega
   have r4:(i:Int)<(nl:Int):=by have:=HNL.out;omega
   have HI:=hid hi
   have HK:=hid hk
   have HMR:=hid hmr
   obtain ⟨nm,hnm⟩:∃ m,k.ms.length=m:=⟨_,rfl⟩
   rw [hnm] at hl2 hmb'
   have HNM:=hid hnm
   clear hi hil hk hmr hlc hrc hrb' hnm
   go_wp2_with fail
   obtain ⟨wo,hwo⟩:∃ wo:World,wo=wr:=⟨_,rfl⟩
   go_loopw [12,16,47] (fun v12 v16 v47 wr=>∃ (c:Nat) (y:Lt),c<=nm/\v12=.int .i64 0/\v47=.int .i64 c/\Hid (WayR (movesOf ls (o.take j)++(k.ms.map Lm.mv).take c) q.v y.v)/\Hid (T2 w #[.int .i64 y.v.k,.int .i64 y.v.lo,.int .i64 y.v.hi,.slice y.xd y.v.x.length y.xc,.slice y.td y.v.t.length y.tc,.slice y.fd y.v.f.length y.fc,.string y.v.n] wr)/\Hid (TyAt wr (fun b=>w.heap.size+1<b) y)/\Hid (Rd .i64 wr (some ⟨rb,ro,none⟩) wc' (o.map Int.ofNat))) (fun v12 v16 v47 _=>nm - (intOf v47).toNat)
   case atStart=>exact ⟨0,y,Nat.zero_le _,rfl,rfl,hid (by rw [List.take_zero,List.append_nil];exact HWR.out),HRr,HYr,HRDr⟩
   case round =>
    clear HWR HRr HYr HRDr hl2 hrj hwo wo
    obtain ⟨c,y,hcn,rfl,rfl,HWR,HRr,HYr,HRDr⟩:=hrel
    by_cases hltc:c<nm
    ·obtain ⟨m,hm⟩:∃ m,k.ms[c]?=some m:=⟨_,List.getElem?_eq_getElem (by rw [HNM.out];exact hltc)⟩
     obtain ⟨mb,mo,hma,hmb,hmv,hmc⟩:=HMR.out.cells hm
     have hc':∀ z u,m.cs[z]?=some u->wr.cell? ⟨mb,mo+c * 10+z,none⟩=some u:=fun z u hz=>(HRr.out.g.cell (p:=⟨mb,mo+c * 10+z,none⟩) hmb).trans (hmc z u hz)
     have m0:wr.cell? ⟨mb,mo+c * 10,none⟩=some (.int .i64 m.k):=hc' 0 _ rfl
     have m1:=hc' 1 (.slice m.pd m.p.length m.pc) rfl
     have m2:=hc' 2 (.string m.key) rfl
     have m3:=hc' 3 (.string m.dst) rfl
     have m4:=hc' 4 (.int .i64 m.q.v.k) rfl
     have m5:=hc' 5 (.int .i64 m.q.v.n) rfl
     have m6:=hc' 6 (.int .u64 m.q.v.f) rfl
     have m7:=hc' 7 (.string m.q.v.s) rfl
     have m8:=hc' 8 (.slice m.q.ad m.q.v.l.length m.q.cap) rfl
     have m9:=hc' 9 (.slice m.q.bd m.q.v.e.length m.q.dap) rfl
     have s1:(0:Int)<=(c:Int):=by omega
     have s2:(c:Int)<(nm:Int):=by omega
     have HM:=hid hm
     have hal:=(Below.refl wr.heap.size wr).alloc (Nat.le_refl _) (.cells #[.int .i64 m.k,.slice m.pd m.p.length m.pc,.string m.key,.string m.dst,.int .i64 m.q.v.k,.int .i64 m.q.v.n,.int .u64 m.q.v.f,.string m.q.v.s,.slice m.q.ad m.q.v.l.length m.q.cap,.slice m.q.bd m.q.v.e.length m.q.dap] 55)
     have hcm:=heap_alloc_new wr (.cells #[.int .i64 m.k,.slice m.pd m.p.length m.pc,.string m.key,.string m.dst,.int .i64 m.q.v.k,.int .i64 m.q.v.n,.int .u64 m.q.v.f,.string m.q.v.s,.slice m.q.ad m.q.v.l.length m.q.cap,.slice m.q.bd m.q.v.e.length m.q.dap] 55)
     have HRa:=hid (HRr.out.keep hal)
     have HYa:=hid (HYr.out.keep hal)
     have HRDa:=hid (HRDr.out.keep hal)
     have HMV:=hid ((hmv.keep HRr.out.g).keep hal)
     obtain ⟨xb,hxb⟩:∃ xb,wr.heap.size=xb:=⟨_,rfl⟩
     rw [hxb] at hcm
     have hxl:w.heap.size+1<xb:=by have:=HRr.out.s;omega
     rw [hma]
     clear hm hmv hmc hc' hal
     go_upto_region 13 with fail
     generalize World.alloc wr _=wa at HRa HYa HRDa HMV hcm ⊢
     clear m0 m1 m2 m3 m4 m5 m6 m7 m8 m9 hxb HRr HYr HRDr
     obtain ⟨a0,a1,a2,a3,a4,a5,a6,-⟩:=ty_cells HRa.out.bt
     obtain ⟨b0,b1,b2,b3,b4,b5,b6,b7,b8,b9⟩:=ten_cells hcm
     have hst:=stepTyped_any y m wa (HYa.out.weak (fun _ _ _=>trivial)) HMV.out (HT.out.keep HRa.out.g)
     unfold STPost Lt.val Lm.val at hst
     have HST:=hid hst
     clear hst hcm
     go_wp2_with fail
     (with_reducible refine HST.out.mono ?_)
     rintro e w6 ⟨x,code,rfl,hgood,hb6⟩
     have HR6:=hid (HRa.out.keep hb6)
     have HRD6:=hid (HRDa.out.keep hb6)
     have hsa:=HRa.out.s
     obtain ⟨d0,d1,d2,d3,d4,d5,d6,df⟩:=ty_cells HR6.out.bt
     have df0:=df 0
     have df1:=df 1
     have df2:=df 2
     have df3:=df 3
     have df4:=df 4
     have df5:=df 5
     have df6:=df 6
     obtain ⟨W7,hW7,hr7,hg7⟩:=seven_all HR6.out.bt (.int .i64 x.v.k) (.int .i64 x.v.lo) (.int .i64 x.v.hi) (.slice x.xd x.v.x.length x.xc) (.slice x.td x.v.t.length x.tc) (.slice x.fd x.v.f.length x.fc) (.string x.v.n)
     have HR7:=hid (HR6.out.setT hg7 hr7)
     have HX7:Hid (code=0->StepR m.mv y.v x.v/\TyAt W7 (fun b=>w.heap.size+1<b) x):=hid (fun h=>⟨(hgood h).1,((hgood h).2.weak (C:=fun b=>w.heap.size+1<b) (fun b hb _=>by omega)).grow hg7 (fun b e hb=>by have:=Option.some.inj e;omega)⟩)
     have HRD7:Hid (Rd .i64 W7 (some ⟨rb,ro,none⟩) wc' (o.map Int.ofNat)):=hid (HRD6.out.grown hg7 (fun a ha _ e=>by have h8:=HFR.out a ha;have h9:=Option.some.inj e;omega))
     have HW7:=hid hW7
     clear hgood hb6 hW7 hr7 hg7 df a0 a1 a2 a3 a4 a5 a6 b0 b1 b2 b3 b4 b5 b6 b7 b8 b9 HRa HYa HRDa HRD6 HMV HST
     go_upto_region 14 with fail
     rw [<-HW7.out]
     clear d0 d1 d2 d3 d4 d5 d6 df0 df1 df2 df3 df4 df5 df6 HR6 HW7
     by_cases h0:code=0
     case neg =>
      have e3:(code != 0)=true:=by simp [h0]
      obtain ⟨p0,p1,p2,p3,p4,p5,p6,pf⟩:=ty_cells HR7.out.res
      have pf0:=pf 0
      have pf1:=pf 1
      have pf2:=pf 2
      have pf3:=pf 3
      have pf4:=pf 4
      have pf5:=pf 5
      have pf6:=pf 6
      obtain ⟨W9,hW9,hr9,hg9⟩:=seven_all HR7.out.res (.int .i64 0) (.int .i64 0) (.int .i64 0) (.slice none 0 0) (.slice none 0 0) (.slice none 0 0) (.string ⟨#[]⟩)
      obtain ⟨q0,q1,q2,q3,q4,q5,q6,-⟩:=ty_cells hr9
      have HW9:=hid hW9
      have HPOST:Hid (CTPost ls q.v fr to_ w (.returned (.tuple #[.agg #[.int .i64 0,.int .i64 0,.int .i64 0,.slice none 0 0,.slice none 0 0,.slice none 0 0,.string ⟨#[]⟩],.int .i64 (i:Int),.int .i64 code])) W9):=hid ⟨⟨.zero,none,0,none,0,none,0⟩,(i:Int),code,rfl,fun h=>absurd h h0,fun _=>rfl,HR7.out.fin hg9⟩
      clear hW9 hr9 hg9 pf
      go_wp2_with fail
      rw [<-HW9.out]
      exact bodyPost_ret (v:=.tuple #[.agg #[.int .i64 0,.int .i64 0,.int .i64 0,.slice none 0 0,.slice none 0 0,.slice none 0 0,.string ⟨#[]⟩],.int .i64 (i:Int),.int .i64 code]) (by simp [results,Tryz.results5,go_sem,q0,q1,q2,q3,q4,q5,q6]) rfl HPOST.out
     obtain rfl:code=0:=h0
     have e3:((0:Int) != 0)=false:=rfl
     have HX8:Hid (StepR m.mv y.v x.v/\TyAt W7 (fun b=>w.heap.size+1<b) x):=hid (HX7.out (by first|rfl|trivial))
     have HWR8:Hid (WayR (movesOf ls (o.take j)++(k.ms.map Lm.mv).take (c+1)) q.v x.v):=hid (by
      obtain ⟨h1,h2,h3⟩:=HX8.out.1
      rw [take_more (x:=m.mv) (by rw [List.getElem?_map,HM.out];rfl),<-List.append_assoc]
      exact HWR.out.snoc h1 h2 h3)
     have HXA8:Hid (TyAt W7 (fun b=>w.heap.size+1<b) x):=hid HX8.out.2
     clear HX7 HX8
     go_wp2_with fail
     go_roundw
     case rel=>exact ⟨c+1,x,by omega,rfl,by go_num,HWR8,HR7,HXA8,HRD7⟩
     case measure=>simp [intOf];omega
    ·obtain rfl:c=nm:=by omega
     have HWR8:Hid (WayR (movesOf ls (o.take (j+1))) q.v y.v):=hid (by
      rw [movesOf_take HI.out HK.out,<-List.take_length (l:=k.ms.map Lm.mv),List.length_map,HNM.out]
      exact HWR.out)
     have s2:¬ ((c:Int)<(c:Int)):=by omega
     clear HWR
     go_wp2_with fail
     go_roundw
     case rel=>exact ⟨j+1,y,by omega,rfl,by go_num,HWR8,HRr,HYr,HRDr⟩
     case measure=>simp [intOf];omega
  ·obtain rfl:j=n:=by omega
   have HWR8:Hid (WayR (movesOf ls o) q.v y.v):=hid (by
    have h:=HWR.out
    rwa [<-HNN.out,List.take_length] at h)
   have r2:¬ ((j:Int)<(j:Int)):=by omega
   obtain ⟨a0,a1,a2,a3,a4,a5,a6,-⟩:=ty_cells HRr.out.bt
   clear HWR
   obtain ⟨p0,p1,p2,p3,p4,p5,p6,pf⟩:=ty_cells HRr.out.res
   have pf0:=pf 0
   have pf1:=pf 1
   have pf2:=pf 2
   have pf3:=pf 3
   have pf4:=pf 4
   have pf5:=pf 5
   have pf6:=pf 6
   obtain ⟨W9,hW9,hr9,hg9⟩:=seven_all HRr.out.res (.int .i64 y.v.k) (.int .i64 y.v.lo) (.int .i64 y.v.hi) (.slice y.xd y.v.x.length y.xc) (.slice y.td y.v.t.length y.tc) (.slice y.fd y.v.f.length y.fc) (.string y.v.n)
   obtain ⟨q0,q1,q2,q3,q4,q5,q6,-⟩:=ty_cells hr9
   have HW9:=hid hW9
   have HPOST:Hid (CTPost ls q.v fr to_ w (.returned (.tuple #[.agg #[.int .i64 y.v.k,.int .i64 y.v.lo,.int .i64 y.v.hi,.slice y.xd y.v.x.length y.xc,.slice y.td y.v.t.length y.tc,.slice y.fd y.v.f.length y.fc,.string y.v.n],.int .i64 0,.int .i64 0])) W9):=hid ⟨y,0,0,rfl,fun _=>⟨HCF.out,⟨f,o,HD.out,HW.out,HWR8.out⟩,(HYr.out.grow hg9 (fun b e hb=>by have:=Option.some.inj e;omega)).weak (fun b hb _=>by omega)⟩,fun h=>absurd rfl h,HRr.out.fin hg9⟩
   clear hW9 hr9 hg9 pf
   go_wp2_with fail
   rw [<-HW9.out]
   exact bodyPost_ret (v:=.tuple #[.agg #[.int .i64 y.v.k,.int .i64 y.v.lo,.int .i64 y.v.hi,.slice y.xd y.v.x.length y.xc,.slice y.td y.v.t.length y.tc,.slice y.fd y.v.f.length y.fc,.string y.v.n],.int .i64 0,.int .i64 0]) (by simp [results,Tryz.results5,go_sem,q0,q1,q2,q3,q4,q5,q6]) rfl HPOST.out
end Go.Proofs.YtgnonbdkmmkdgaaGreatDoor
namespace Go.Proofs.YtgnonbdkmmkdgaaGreatDoor
open Go.RowKit Gx
def AllPost (rest:List Mv) (u:Ty) (w:World) (e:Ending) (w':World):Prop:=∃ (y:Loc) (i code:Int),e=.returned (.tuple #[y.val,.int .i64 i,.int .i64 code])/\(code=0\/code=2\/code=5) /\
 (code=0->∃ b,WayR rest b u/\fitsE b=0/\Fit false b y.v/\chkV y.v=0/\VAt w' (fun b=>w.heap.size<=b) y)/\Below w.heap.size w w'
def Amid (rest:List Mv) (u:Ty) (y:Loc):Prop:=∃ b,WayR rest b u/\fitsE b=0/\Fit false b y.v/\chkV y.v=0
theorem Amid.step {m:Mv} {rest:List Mv} {u:Ty} {y:Loc} {w:World} {B:Nat->Prop} (h:Amid (m::rest) u y) (hy:VAt w B y):checkM m=0/\∃ z,stepV m y.v=.ok z/\(chkV z=0\/chkV z=2\/chkV z=5)/\(chkV z=0->∀ p:Loc,p.v=z->Amid rest u p):=by
 obtain ⟨a,h1,h2,h3,h4⟩:=h
 obtain ⟨g1,z,b,g2,g3,g4,g5,g6⟩:=h1.step h2 h3 (fun d=>VAt.wfD d hy) h4
 exact ⟨g1,z,g2,g3,fun hc p hp=>⟨b,g6,g5,by rw [hp];exact g4,by rw [hp];exact hc⟩⟩
theorem allV_any (q:Loc) (ms:List Lm) (ad:Option Addr) (cap:Nat) (rest:List Mv) (u:Ty) (w:World) (hq:VAt w (fun _=>True) q) (hm:MRow w ad ms) (hT:Tabs w) (hP:∀ W,Below w.heap.size w W->P10 W) (ha:Amid (ms.map Lm.mv++rest) u q) :
 Calls Tryz.prog 21 #[q.val,.slice ad ms.length cap] w (AllPost rest u w):=by
 have hrb:=v2_start w #[.int .i64 q.v.k,.int .i64 q.v.n,.int .u64 q.v.f,.string q.v.s,.slice q.ad q.v.l.length q.cap,.slice q.bd q.v.e.length q.dap]
 have hv:chkV q.v=0:=by obtain ⟨-,-,-,-,h⟩:=ha;exact h
 unfold Loc.val
 obtain ⟨nl,hnl⟩:∃ m,q.v.l.length=m:=⟨_,rfl⟩
 obtain ⟨ne,hne⟩:∃ m,q.v.e.length=m:=⟨_,rfl⟩
 obtain ⟨nm,hnm⟩:∃ m,ms.length=m:=⟨_,rfl⟩
 have hmb':nm * 10<=140737488351232:=by rw [<-hnm];exact hm.1
 rw [hnl,hne] at hrb ⊢
 rw [hnm]
 have HNL:=hid hnl
 have HNE:=hid hne
 have HNM:=hid hnm
 have HQ:=hid hq
 have HM:=hid hm
 have HT:=hid hT
 have HP:=hid hP
 have HV:=hid hv
 have HA:=hid ha
 clear hnl hne hnm hq hm hT hP hv ha
 go_enter Tryz.func21,Tryz.ntmps21
 go_upto_region 1 with fail
 generalize World.alloc (World.alloc w _) _=w1 at hrb ⊢
 have HR:=hid hrb
 clear hrb
 obtain ⟨a0,a1,a2,a3,a4,a5,-⟩:=six_cells HR.out.bx
 have hck:=Check_any q w1 (HT.out.keep HR.out.g) (HQ.out.keep HR.out.g)
 unfold CheckPost Loc.val at hck
 rw [HNL.out,HNE.out,HV.out] at hck
 have HCK:=hid hck
 clear hck
 go_wp2_with fail
 (with_reducible refine HCK.out.mono ?_)
 rintro e w2 ⟨rfl,hb2⟩
 have HR2:=hid (HR.out.keep hb2)
 clear a0 a1 a2 a3 a4 a5 hb2 HR HCK
 obtain ⟨a0,a1,a2,a3,a4,a5,-⟩:=six_cells HR2.out.bx
 have how:=own_any' q w2 (HQ.out.keep HR2.out.g)
 unfold CopyPost Loc.val at how
 rw [HNL.out,HNE.out] at how
 have HOW:=hid how
 clear how
 go_wp2_with fail
 (with_reducible refine HOW.out.mono ?_)
 rintro e w4 ⟨y0,rfl,hyv,hya,hb4⟩
 have HR4:=hid (HR2.out.keep hb4)
 have hs2:=HR2.out.vlt
 have HA0:Hid (Amid (ms.map Lm.mv++rest) u y0):=hid (by obtain ⟨b,h1,h2,h3,h4⟩:=HA.out;exact ⟨b,h1,h2,by rw [hyv];exact h3,by rw [hyv];exact h4⟩)
 have HY4:=hid (hya.weak (C:=fun b=>w.heap.size+1<b) (fun b hb _=>by omega))
 obtain ⟨d0,d1,d2,d3,d4,d5,df⟩:=six_cells HR4.out.bx
 have df0:=df 0
 have df1:=df 1
 have df2:=df 2
 have df3:=df 3
 have df4:=df 4
 have df5:=df 5
 obtain ⟨W5,hW5,hr5,hg5⟩:=val_all HR4.out.bx (.int .i64 y0.v.k) (.int .i64 y0.v.n) (.int .u64 y0.v.f) (.string y0.v.s) (.slice y0.ad y0.v.l.length y0.cap) (.slice y0.bd y0.v.e.length y0.dap)
 have HR5:=hid (HR4.out.setX hr5 hg5)
 have HW5:=hid hW5
 have HY5:=hid (HY4.out.grow hg5 (fun b e hb=>by have:=Option.some.inj e;omega))
 clear a0 a1 a2 a3 a4 a5 hyv hya hb4 hW5 hr5 hg5 df HR2 HOW HY4 hs2 HA
 go_upto_region 5 with fail
 rw [<-HW5.out]
 clear d0 d1 d2 d3 d4 d5 df0 df1 df2 df3 df4 df5 HR4 HW5
 go_wp2_with fail
 go_loopw [8,9,10,21] (fun v8 v9 v10 v21 wr=>∃ (c:Nat) (y:Loc),c<=nm/\v21=.int .i64 c/\Hid (Amid ((ms.drop c).map Lm.mv++rest) u y)/\Hid (V2 w (w.heap.size+1) #[.int .i64 y.v.k,.int .i64 y.v.n,.int .u64 y.v.f,.string y.v.s,.slice y.ad y.v.l.length y.cap,.slice y.bd y.v.e.length y.dap] wr)/\Hid (VAt wr (fun b=>w.heap.size+1<b) y)) (fun v8 v9 v10 v21 _=>nm - (intOf v21).toNat)
 case atStart=>exact ⟨0,y0,Nat.zero_le _,rfl,hid (by rw [List.drop_zero];exact HA0.out),HR5,HY5⟩
 case round =>
  obtain ⟨c,y,hcn,rfl,HAM,HRr,HYr⟩:=hrel
  clear HA0 HR5 HY5
  by_cases hltc:c<nm
  ·obtain ⟨m,hm⟩:∃ m,ms[c]?=some m:=⟨_,List.getElem?_eq_getElem (by rw [HNM.out];exact hltc)⟩
   obtain ⟨mb,mo,hma,hmb,hmv,hmc⟩:=HM.out.cells hm
   have hc':∀ z u,m.cs[z]?=some u->wr.cell? ⟨mb,mo+c * 10+z,none⟩=some u:=fun z u hz=>(HRr.out.g.cell (p:=⟨mb,mo+c * 10+z,none⟩) hmb).trans (hmc z u hz)
   have hdrop:ms.drop c=m::ms.drop (c+1):=by obtain ⟨hl,hg⟩:=List.getElem?_eq_some_iff.1 hm;rw [List.drop_eq_getElem_cons hl,hg]
   have HAM2:Hid (Amid (m.mv::((ms.drop (c+1)).map Lm.mv++rest)) u y):=hid (by have h:=HAM.out;rw [hdrop] at h;exact h)
   obtain ⟨hk,z,hz,hcz,hgo⟩:=HAM2.out.step HYr.out
   have HYC:Hid (chkV y.v=0):=hid (by obtain ⟨-,-,-,-,h⟩:=HAM2.out;exact h)
   have m0:wr.cell? ⟨mb,mo+c * 10,none⟩=some (.int .i64 m.k):=hc' 0 _ rfl
   have m1:=hc' 1 (.slice m.pd m.p.length m.pc) rfl
   have m2:=hc' 2 (.string m.key) rfl
   have m3:=hc' 3 (.string m.dst) rfl
   have m4:=hc' 4 (.int .i64 m.q.v.k) rfl
   have m5:=hc' 5 (.int .i64 m.q.v.n) rfl
   have m6:=hc' 6 (.int .u64 m.q.v.f) rfl
   have m7:=hc' 7 (.string m.q.v.s) rfl
   have m8:=hc' 8 (.slice m.q.ad m.q.v.l.length m.q.cap) rfl
   have m9:=hc' 9 (.slice m.q.bd m.q.v.e.length m.q.dap) rfl
   have s1:(0:Int)<=(c:Int):=by omega
   have s2:(c:Int)<(nm:Int):=by omega
   have HKK:=hid hk
   have HZ:=hid hz
   have HCZ:=hid hcz
   have HGO:=hid hgo
   have hal:=(Below.refl wr.heap.size wr).alloc (Nat.le_refl _) (.cells #[.int .i64 m.k,.slice m.pd m.p.length m.pc,.string m.key,.string m.dst,.int .i64 m.q.v.k,.int .i64 m.q.v.n,.int .u64 m.q.v.f,.string m.q.v.s,.slice m.q.ad m.q.v.l.length m.q.cap,.slice m.q.bd m.q.v.e.length m.q.dap] 55)
   have hcm:=heap_alloc_new wr (.cells #[.int .i64 m.k,.slice m.pd m.p.length m.pc,.string m.key,.string m.dst,.int .i64 m.q.v.k,.int .i64 m.q.v.n,.int .u64 m.q.v.f,.string m.q.v.s,.slice m.q.ad m.q.v.l.length m.q.cap,.slice m.q.bd m.q.v.e.length m.q.dap] 55)
   have HRa:=hid (HRr.out.keep hal)
   have HYa:=hid (HYr.out.keep hal)
   have HMV:=hid ((hmv.keep HRr.out.g).keep hal)
   obtain ⟨xb,hxb⟩:∃ xb,wr.heap.size=xb:=⟨_,rfl⟩
   rw [hxb] at hcm
   have hxl:w.heap.size+1<xb:=by have:=HRr.out.vlt;omega
   rw [hma]
   clear hm hmv hmc hc' hal hdrop hk hz hcz hgo HAM HAM2
   go_upto_region 9 with fail
   generalize World.alloc wr _=wa at HRa HYa HMV hcm ⊢
   clear m0 m1 m2 m3 m4 m5 m6 m7 m8 m9 hxb HRr HYr
   obtain ⟨a0,a1,a2,a3,a4,a5,-⟩:=six_cells HRa.out.bx
   obtain ⟨b0,b1,b2,b3,b4,b5,b6,b7,b8,b9⟩:=ten_cells hcm
   have hap:=applyV_any y m z wa (HYa.out.weak (fun _ _ _=>trivial)) HMV.out (HT.out.keep HRa.out.g) (fun W h'=>HP.out W (HRa.out.g.trans (h'.mono HRa.out.g.size))) HYC.out HKK.out HZ.out
   unfold ApPost Loc.val Lm.val at hap
   obtain ⟨cz,hcz⟩:∃ c,chkV z=c:=⟨_,rfl⟩
   rw [hcz] at hap
   have HCE:=hid hcz
   have HAP:=hid hap
   clear hap hcm hcz
   go_wp2_with fail
   (with_reducible refine HAP.out.mono ?_)
   rintro e w6 ⟨x,rfl,hgood,hb6⟩
   have HR6:=hid (HRa.out.keep hb6)
   have hsa:=HRa.out.vlt
   obtain ⟨d0,d1,d2,d3,d4,d5,df⟩:=six_cells HR6.out.bx
   have df0:=df 0
   have df1:=df 1
   have df2:=df 2
   have df3:=df 3
   have df4:=df 4
   have df5:=df 5
   obtain ⟨W7,hW7,hr5,hg5⟩:=val_all HR6.out.bx (.int .i64 x.v.k) (.int .i64 x.v.n) (.int .u64 x.v.f) (.string x.v.s) (.slice x.ad x.v.l.length x.cap) (.slice x.bd x.v.e.length x.dap)
   have HR7:=hid (HR6.out.setX hr5 hg5)
   have HW7:=hid hW7
   have HX7:Hid (cz=0->x.v=z/\VAt W7 (fun b=>w.heap.size+1<b) x):=hid (fun h=>⟨(hgood h).1,((hgood h).2.weak (C:=fun b=>w.heap.size+1<b) (fun b hb _=>by omega)).grow hg5 (fun b e hb=>by have:=Option.some.inj e;omega)⟩)
   clear hgood hb6 hW7 hr5 hg5 df a0 a1 a2 a3 a4 a5 b0 b1 b2 b3 b4 b5 b6 b7 b8 b9 HRa HYa HMV HAP
   go_upto_region 10 with fail
   rw [<-HW7.out]
   clear d0 d1 d2 d3 d4 d5 df0 df1 df2 df3 df4 df5 HR6 HW7
   by_cases h0:cz=0
   case neg =>
    have e3:((cz:Int) != 0)=true:=by simp [h0]
    obtain ⟨p0,p1,p2,p3,p4,p5,pf⟩:=six_cells HR7.out.res
    have pf0:=pf 0
    have pf1:=pf 1
    have pf2:=pf 2
    have pf3:=pf 3
    have pf4:=pf 4
    have pf5:=pf 5
    obtain ⟨W9,hW9,hr9,hg9⟩:=val_all HR7.out.res (.int .i64 0) (.int .i64 0) (.int .u64 0) (.string ⟨#[]⟩) (.slice none 0 0) (.slice none 0 0)
    obtain ⟨q0,q1,q2,q3,q4,q5,-⟩:=six_cells hr9
    have HW9:=hid hW9
    have HPOST:Hid (AllPost rest u w (.returned (.tuple #[.agg #[.int .i64 0,.int .i64 0,.int .u64 0,.string ⟨#[]⟩,.slice none 0 0,.slice none 0 0],.int .i64 (c:Int),.int .i64 (cz:Int)])) W9):=hid ⟨⟨.zero,none,0,none,0⟩,(c:Int),(cz:Int),rfl,by have h9:=HCZ.out;rw [HCE.out] at h9;omega,fun h=>absurd (by omega) h0,HR7.out.g.grown hg9 (by have:=HR7.out.vlt;omega) (fun b e=>by have:=Option.some.inj e;omega)⟩
    clear hW9 hr9 hg9 pf
    go_wp2_with fail
    rw [<-HW9.out]
    exact bodyPost_ret (v:=.tuple #[.agg #[.int .i64 0,.int .i64 0,.int .u64 0,.string ⟨#[]⟩,.slice none 0 0,.slice none 0 0],.int .i64 (c:Int),.int .i64 (cz:Int)]) (by simp [results,Tryz.results21,go_sem,q0,q1,q2,q3,q4,q5]) rfl HPOST.out
   obtain rfl:cz=0:=h0
   have e3:(((0:Nat):Int) != 0)=false:=rfl
   have HX8:Hid (x.v=z/\VAt W7 (fun b=>w.heap.size+1<b) x):=hid (HX7.out (by first|rfl|trivial))
   have HA8:Hid (Amid ((ms.drop (c+1)).map Lm.mv++rest) u x):=hid (HGO.out HCE.out x HX8.out.1)
   have HXA8:Hid (VAt W7 (fun b=>w.heap.size+1<b) x):=hid HX8.out.2
   clear HX7 HX8 HGO HCE HCZ HZ
   go_wp2_with fail
   go_roundw
   case rel=>exact ⟨c+1,x,by omega,by go_num,HA8,HR7,HXA8⟩
   case measure=>simp [intOf];omega
  ·obtain rfl:c=nm:=by omega
   have HA8:Hid (Amid rest u y):=hid (by have h:=HAM.out;rw [<-HNM.out,List.drop_length] at h;exact h)
   have s2:¬ ((c:Int)<(c:Int)):=by omega
   obtain ⟨a0,a1,a2,a3,a4,a5,-⟩:=six_cells HRr.out.bx
   clear HAM
   obtain ⟨p0,p1,p2,p3,p4,p5,pf⟩:=six_cells HRr.out.res
   have pf0:=pf 0
   have pf1:=pf 1
   have pf2:=pf 2
   have pf3:=pf 3
   have pf4:=pf 4
   have pf5:=pf 5
   obtain ⟨W9,hW9,hr9,hg9⟩:=val_all HRr.out.res (.int .i64 y.v.k) (.int .i64 y.v.n) (.int .u64 y.v.f) (.string y.v.s) (.slice y.ad y.v.l.length y.cap) (.slice y.bd y.v.e.length y.dap)
   obtain ⟨q0,q1,q2,q3,q4,q5,-⟩:=six_cells hr9
   have HW9:=hid hW9
   have HPOST:Hid (AllPost rest u w (.returned (.tuple #[.agg #[.int .i64 y.v.k,.int .i64 y.v.n,.int .u64 y.v.f,.string y.v.s,.slice y.ad y.v.l.length y.cap,.slice y.bd y.v.e.length y.dap],.int .i64 0,.int .i64 0])) W9):=hid ⟨y,0,0,rfl,.inl rfl,fun _=>by obtain ⟨b,h1,h2,h3,h4⟩:=HA8.out;exact ⟨b,h1,h2,h3,h4,(HYr.out.grow hg9 (fun b e hb=>by have:=Option.some.inj e;omega)).weak (fun b hb _=>by omega)⟩,HRr.out.g.grown hg9 (by have:=HRr.out.vlt;omega) (fun b e=>by have:=Option.some.inj e;omega)⟩
   clear hW9 hr9 hg9 pf
   go_wp2_with fail
   rw [<-HW9.out]
   exact bodyPost_ret (v:=.tuple #[.agg #[.int .i64 y.v.k,.int .i64 y.v.n,.int .u64 y.v.f,.string y.v.s,.slice y.ad y.v.l.length y.cap,.slice y.bd y.v.e.length y.dap],.int .i64 0,.int .i64 0]) (by simp [results,Tryz.results21,go_sem,q0,q1,q2,q3,q4,q5]) rfl HPOST.out
end Go.Proofs.YtgnonbdkmmkdgaaGreatDoor
