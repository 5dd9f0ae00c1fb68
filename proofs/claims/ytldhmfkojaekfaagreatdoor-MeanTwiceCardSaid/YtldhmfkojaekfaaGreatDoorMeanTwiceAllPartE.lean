/-
  Lemmas for the statement: plain laws, and what functions answer; the conditions stand in each.
-/
import Derived.RegionTactic
import Derived.Test.YtldhmfkojaekfaaGreatDoorProg
import Derived.WalkLawsBesides
import Derived.Deep.DeepFit
import Derived.Laws.BitsAllLaws
import Derived.Test.YtldhmfkojaekfaaGreatDoorMeanTwiceAllPartD
set_option linter.unusedVariables false
set_option linter.unusedSimpArgs false
namespace Go.Proofs.YtldhmfkojaekfaaGreatDoor
open Go.RowKit Gx
set_option maxRecDepth 100000
abbrev treeX (l:List UInt8):TS:=treeOf l 30000
def docNd (l:List UInt8):Nd:=.mk 6 0 (treeX l).T.length [(valueS (treeX l) 20 ⟨0,0,0⟩).2]
def ParsePost (l:List UInt8) (w:World) (e:Ending) (w':World):Prop :=
 Below w.heap.size w w' /\
 ((20000<l.length/\e=.returned (.tuple #[.agg #[.int .i64 0,.int .i64 0,.int .i64 0,.slice none 0 0],.int .i64 0,.int .i64 2])) \/
  (l.length<=20000/\(parseS (treeX l)).bad≠0/\e=.returned (.tuple #[.agg #[.int .i64 0,.int .i64 0,.int .i64 0,.slice none 0 0],.int .i64 (parseS (treeX l)).wh,.int .i64 (parseS (treeX l)).bad])) \/
  (l.length<=20000/\(parseS (treeX l)).bad=0/\∃ g,e=.returned (.tuple #[.agg #[.int .i64 6,.int .i64 0,.int .i64 (treeX l).T.length,.slice (some ⟨g,0,none⟩) 1 1],.int .i64 0,.int .i64 0]) /\
    KidsAt w' (fun b=>w.heap.size<=b) (docNd l).kids (.slice (some ⟨g,0,none⟩) 1 1)))
structure QR (w:World) (R:Nat) (ta:Option Addr) (tc:Nat) (S:ByteArray) (X:TS) (P:Nat) (nd:Nd) (ks:Value) (u:PS) (wx:World):Prop where
 rs:RS wx R ta tc S X u
 res:wx.heap[w.heap.size]?=some (.cells #[.int .i64 0,.int .i64 0,.int .i64 0,.slice none 0 0] 53)
 kb:wx.heap[P]?=some (.cells #[.int .i64 nd.k,.int .i64 nd.a,.int .i64 nd.b,ks] 53)
 kids:KidsAt wx (fun b=>R<b) nd.kids ks
 lo:w.heap.size<R
 lo2:R<P
 bel:Below w.heap.size w wx
section
variable {w:World} {R:Nat} {ta:Option Addr} {tc:Nat} {S:ByteArray} {X:TS} {P:Nat} {nd:Nd} {ks:Value} {u u2:PS} {wx w2:World}
theorem QR.hi (h:QR w R ta tc S X P nd ks u wx):P<wx.heap.size:=(Array.getElem?_eq_some_iff.1 h.kb).1
theorem QR.grow (h:QR w R ta tc S X P nd ks u wx) (hr:RS w2 R ta tc S X u2) (hg:wx.grownBy w2 (some R)):QR w R ta tc S X P nd ks u2 w2:=by
 have hs:=h.hi
 have hl:=h.lo
 have hl2:=h.lo2
 exact ⟨hr,(hg.block _ (by omega) (fun e=>by have:=Option.some.inj e;omega)).trans h.res,(hg.block _ (by omega) (fun e=>by have:=Option.some.inj e;omega)).trans h.kb,h.kids.grow hg (fun b e=>by have:=Option.some.inj e;omega),hl,hl2,h.bel.grown hg (by omega) (fun k e=>by have:=Option.some.inj e;omega)⟩
theorem QR.drewN (h:QR w R ta tc S X P nd ks u wx) (n:Nat):QR w R ta tc S X P nd ks u (wx.drewN n) :=
 h.grow (h.rs.drewN n) (grown_drew _ _ _)
theorem QR.start {w1 w3:World} {s:PS} (hb:Below w.heap.size w w1) (hz:w.heap.size<w1.heap.size) (hres:w1.heap[w.heap.size]?=some (.cells #[.int .i64 0,.int .i64 0,.int .i64 0,.slice none 0 0] 53)) (o:Obj)
 (hr:RS w3 w1.heap.size ta tc S X s) (hg:(w1.alloc o).grownBy w3 (some w1.heap.size)) (hk:KidsAt w3 (fun b=>(w1.alloc o).heap.size<=b) nd.kids ks) :
 QR w w1.heap.size ta tc S X w3.heap.size nd ks s (w3.alloc (.cells #[.int .i64 nd.k,.int .i64 nd.a,.int .i64 nd.b,ks] 53)):=by
 have hs:=hg.size
 rw [World.size_alloc] at hs
 have h1:w1.grownBy w3 (some w1.heap.size):=(grown_alloc w1 o _).trans hg
 refine ⟨hr.alloc _,(alloc_old_gx w3 _ (by omega)).trans ((h1.block _ hz (fun e=>by have:=Option.some.inj e;omega)).trans hres),heap_alloc_last _ _,(hk.weak (fun b hb _=>by rw [World.size_alloc] at hb;omega)).grow (grown_alloc w3 _ none) (fun b e=>by simp at e),hz,by omega,?_⟩
 exact (hb.grown h1 (by omega) (fun k e=>by have:=Option.some.inj e;omega)).alloc (by omega) _
theorem QR.fin {w6:World} (h:QR w R ta tc S X P nd ks u w2) (hg:w2.grownBy w6 (some w.heap.size)) (hz:w6.heap.size=w2.heap.size) :
 Below w.heap.size w (w6.alloc (.cells #[.int .i64 nd.k,.int .i64 nd.a,.int .i64 nd.b,ks] 53))/\KidsAt (w6.alloc (.cells #[.int .i64 nd.k,.int .i64 nd.a,.int .i64 nd.b,ks] 53)) (fun b=>w.heap.size<=b) [nd] (.slice (some ⟨w2.heap.size,0,none⟩) 1 1):=by
 have hs:=h.hi
 have hl:=h.lo
 have hl2:=h.lo2
 have hc4:∀ j u,([.int .i64 nd.k,.int .i64 nd.a,.int .i64 nd.b,ks]:List Value)[j]?=some u->(w6.alloc (.cells #[.int .i64 nd.k,.int .i64 nd.a,.int .i64 nd.b,ks] 53)).cell? ⟨w2.heap.size,j,none⟩=some u:=fun j u hj=>by
  have h1:=World.cell?_alloc_mark w6 #[.int .i64 nd.k,.int .i64 nd.a,.int .i64 nd.b,ks] 53 (0,0) j
  rw [hz] at h1
  exact h1.trans (by simpa using hj)
 have hk:KidsAt (w6.alloc (.cells #[.int .i64 nd.k,.int .i64 nd.a,.int .i64 nd.b,ks] 53)) (fun b=>w.heap.size<=b) nd.kids ks :=
  ((h.kids.grow hg (fun b e hb=>by have:=Option.some.inj e;omega)).weak (C:=fun b=>w.heap.size<=b) (fun b hb _=>by omega)).grow (grown_alloc _ _ none) (fun b e=>by simp at e)
 refine ⟨(h.bel.grown hg (by omega) (fun k e=>by have:=Option.some.inj e;omega)).alloc (by omega) _,.row [nd] (fun _=>ks) w2.heap.size 1 (by simp) (by omega) (by simp only [World.size_alloc];omega) (fun i n hi=>?_) (fun i n hi=>?_)⟩
 ·match i,hi with
  | 0,hi =>
    have:nd=n:=by simpa using hi
    subst this
    exact ⟨hc4 0 _ rfl,hc4 1 _ rfl,hc4 2 _ rfl,hc4 3 _ rfl⟩
  | i+1,hi=>simp at hi
 ·match i,hi with
  | 0,hi =>
    have:nd=n:=by simpa using hi
    subst this
    exact hk
  | i+1,hi=>simp at hi
theorem QR.none {w6:World} (h:QR w R ta tc S X P nd ks u w2) (hg:w2.grownBy w6 (some w.heap.size)):Below w.heap.size w w6 :=
 h.bel.grown hg (by have:=h.hi;have:=h.lo;have:=h.lo2;omega) (fun k e=>by have:=Option.some.inj e;omega)
end
theorem tree_pos (l:List UInt8) (F:Nat):∀ j,j<(treeOf l F).T.length->(treeOf l F).pos j<(treeOf l F).l.length:=fun j hj=>by
 have hget:(toksFrom l 0)[j]?=some ((toksFrom l 0)[j]'hj):=List.getElem?_eq_getElem hj
 have hlow:=toksFrom_low l l.length 0 (by omega) _ (List.mem_of_getElem? hget)
 unfold TS.pos treeOf
 simp only
 rw [hget]
 exact hlow.2
set_option maxHeartbeats 8000000 in
theorem parse_any (s:ByteArray) (w:World) (hm:MaxOk w):Calls Tryz.prog 24 #[.string s] w (ParsePost s.data.toList w):=by
 have hlen:s.data.toList.length=s.size:=Array.length_toList
 have hmx:MaxOk (w.alloc (.cells #[.int .i64 0,.int .i64 0,.int .i64 0,.slice none 0 0] 53)):=MaxOk.keep hm ((Below.refl w.heap.size w).alloc (Nat.le_refl _) _)
 have HC:=Lib.hid (cut_any s (w.alloc (.cells #[.int .i64 0,.int .i64 0,.int .i64 0,.slice none 0 0] 53)) hmx)
 unfold CutPost at HC
 clear hmx hm
 by_cases hL:20000<s.size
 ·have HL:Hid (20000<s.data.toList.length):=Lib.hid (by omega)
  clear hlen
  go_enter Tryz.func24,Tryz.ntmps24
  go_wp2_with fail
  refine HC.out.mono ?_
  rintro e w1 (⟨h1,-⟩|⟨-,rfl,rfl⟩)
  ·exact absurd HL.out (by omega)
  clear HC hL
  go_wp2_with fail
  exact bodyPost_ret (v:=.tuple #[.agg #[.int .i64 0,.int .i64 0,.int .i64 0,.slice none 0 0],.int .i64 0,.int .i64 2]) (by simp [results,Tryz.results24,go_sem]) rfl
   ⟨(Below.refl w.heap.size w).alloc (Nat.le_refl _) _,.inl ⟨HL.out,rfl⟩⟩
 ·have HL:Hid (s.data.toList.length<=20000):=Lib.hid (by omega)
  clear hlen
  go_enter Tryz.func24,Tryz.ntmps24
  go_wp2_with fail
  refine HC.out.mono ?_
  rintro e w1 (⟨-,vo,vc,rfl,hown,hbel⟩|⟨h1,-⟩)
  rotate_left
  ·exact absurd HL.out (by omega)
  clear HC hL
  have hres:w1.heap[w.heap.size]?=some (.cells #[.int .i64 0,.int .i64 0,.int .i64 0,.slice none 0 0] 53):=(hbel.block _ (by rw [World.size_alloc];omega)).trans (heap_alloc_last w _)
  have hz1:w.heap.size<w1.heap.size:=(Array.getElem?_eq_some_iff.1 hres).1
  have hb1:Below w.heap.size w w1:=((Below.refl w.heap.size w).alloc (Nat.le_refl _) _).trans (hbel.mono (by rw [World.size_alloc];omega))
  have hT:(treeX s.data.toList).T.length<=20000:=Nat.le_trans (toks_len _) HL.out
  have hrs:RS (w1.alloc (.cells #[.string s,.slice vo (toks s.data.toList).length vc,.int .i64 0,.int .i64 0,.int .i64 0] 92)) w1.heap.size vo vc s (treeX s.data.toList) ⟨0,0,0⟩ :=
   ⟨heap_alloc_last w1 _,(TokAt.of_own (g:=0) hown rfl).keep ((Below.refl _ _).alloc (Nat.le_refl _) _),rfl,fun a e=>by
     have:=(hown.lt a.block (by rw [e];rfl)).2
     omega⟩
  have HV:=Lib.hid (value_any w1.heap.size vo vc s (treeX s.data.toList) hT (tree_pos _ _) (by show _<=30000;omega) (by show 30000<=100000;omega) 20 0 (by omega) (by omega) ⟨0,0,0⟩ _ hrs rfl (Nat.zero_le _))
  have hvf:=value_fine (treeX s.data.toList) 20 ⟨0,0,0⟩ rfl (Nat.zero_le _)
  have hps:parseS (treeX s.data.toList)=endS (treeX s.data.toList) (valueS (treeX s.data.toList) 20 ⟨0,0,0⟩).1:=rfl
  obtain ⟨X,hX⟩:∃ X,treeX s.data.toList=X:=⟨_,rfl⟩
  obtain ⟨TL,hTL⟩:∃ TL,(toks s.data.toList).length=TL:=⟨_,rfl⟩
  have hXT:X.T.length=TL:=by rw [<-hX,<-hTL];rfl
  rw [hX] at HV hT hps hvf
  rw [hTL] at HV ⊢
  dsimp only at hvf
  obtain ⟨u3,hu3⟩:∃ u3,(valueS X 20 ⟨0,0,0⟩).1=u3:=⟨_,rfl⟩
  obtain ⟨nd,hnd⟩:∃ nd,(valueS X 20 ⟨0,0,0⟩).2=nd:=⟨_,rfl⟩
  obtain ⟨u4,hu4⟩:∃ u4,u3.skip X=u4:=⟨_,rfl⟩
  have hu4i:u4.i<=X.T.length+20:=by
   rw [hu3] at hvf
   have h1:=skip_fine X u3
   rw [hu4] at h1
   rcases Nat.lt_or_ge X.T.length u3.i with h|h
   ·rw [h1.2.2 (by omega)];omega
   ·have:=h1.2.1 h;omega
  unfold NP at HV
  rw [hu3,hnd] at HV
  rw [hu3] at hvf hps
  have HRES:=Lib.hid hres
  have HB1:=Lib.hid hb1
  have HPS:=Lib.hid hps
  have HU4:=Lib.hid hu4
  have HND:=Lib.hid hnd
  have HX:=Lib.hid hX
  have hu3i:u3.i<=100000:=by omega
  have HXT:=Lib.hid hXT
  clear hown hbel hres hb1 hrs hps hu4 hnd hX hTL hvf hu3 hXT
  go_wp2_with fail
  refine HV.out.mono ?_
  rintro e w3 ⟨ks,rfl,hk3,hr3,hg3⟩
  obtain ⟨ko,kc,rfl⟩:=hk3.form
  have HQ0:=Lib.hid (QR.start HB1.out hz1 HRES.out _ hr3 hg3 hk3)
  clear hk3 hr3 hg3 HV HB1 HRES
  go_wp2_with fail
  refine (skip_any w1.heap.size vo vc s X u3 _ HQ0.out.rs hT hu3i).mono ?_
  rintro e w5 ⟨rfl,hr5,hg5⟩
  rw [HU4.out] at hr5
  have HQ:=Lib.hid (HQ0.out.grow hr5 hg5)
  clear hr5 hg5 HQ0
  obtain ⟨c0,c1,c2,c3,c4,fz⟩:=HQ.out.rs.cells
  by_cases hlt:u4.i<TL
  ·have t1:decide ((u4.i:Int)<(TL:Int))=true:=decide_eq_true (by omega)
   have t2:decide (u4.i<TL)=true:=decide_eq_true hlt
   have hu4j:u4.i<=200000:=by omega
   have HFL:=Lib.hid (fail_any 4 w1.heap.size vo vc s X u4 _ HQ.out.rs hT hu4j)
   unfold RP at HFL
   obtain ⟨u5,hu5⟩:∃ u5,u4.fail X 4=u5:=⟨_,rfl⟩
   have hbad:u5.bad≠0:=by rw [<-hu5];exact fail_bad X 4 (by decide) u4
   have HP:=Lib.hid (show parseS X=u5 by rw [HPS.out];unfold endS;rw [HU4.out,HXT.out,if_pos hlt,hu5])
   rw [hu5] at HFL
   clear hu5 hlt
   go_wp2_with fail
   refine HFL.out.mono ?_
   rintro e w6 ⟨rfl,hr6,hg6⟩
   have HQ6:=Lib.hid (HQ.out.grow hr6 hg6)
   clear hr6 hg6 HQ c0 c1 c2 c3 c4 fz HFL
   have HQ:=HQ6
   clear HQ6
   obtain ⟨c0,c1,c2,c3,c4,fz⟩:=HQ.out.rs.cells
   obtain ⟨b0,b1,b2,b3,bf⟩:=node_cells HQ.out.res
   have bf0:=bf 0
   have bf1:=bf 1
   have bf2:=bf 2
   have bf3:=bf 3
   clear bf
   have HB5:=Lib.hid hbad
   have t9:(u5.bad != 0)=true:=by simpa using hbad
   clear hbad
   go_wp2_with fail
   go_region
   go_wp2_with fail
   obtain ⟨h7,g7⟩:=store4 HQ.out.res (.int .i64 0) (.int .i64 0) (.int .i64 0) (.slice none 0 0)
   generalize ((((w6.setCell ⟨w.heap.size,0,none⟩ (.int .i64 0)).setCell ⟨w.heap.size,1,none⟩ (.int .i64 0)).setCell ⟨w.heap.size,2,none⟩ (.int .i64 0)).setCell ⟨w.heap.size,3,none⟩ (.slice none 0 0))=w7 at h7 g7 ⊢
   have h9:w7.drew.heap[w.heap.size]?=_:=h7
   have g9:=HQ.out.none (g7.trans (grown_drew w7 1 _))
   change Below w.heap.size w w7.drew at g9
   clear b0 b1 b2 b3 bf0 bf1 bf2 bf3 c0 c1 c2 c3 c4 fz
   generalize w7.drew=w9 at h9 g9 ⊢
   obtain ⟨n0,n1,n2,n3,-⟩:=node_cells h9
   exact bodyPost_ret (v:=.tuple #[.agg #[.int .i64 0,.int .i64 0,.int .i64 0,.slice none 0 0],.int .i64 u5.wh,.int .i64 u5.bad]) (by simp [results,Tryz.results24,go_sem,n0,n1,n2,n3]) rfl
    ⟨g9,.inr (.inl ⟨HL.out,by rw [HX.out,HP.out];exact HB5.out,by rw [HX.out,HP.out]⟩)⟩
  ·have t1:decide ((u4.i:Int)<(TL:Int))=false:=decide_eq_false (by omega)
   have t2:decide (u4.i<TL)=false:=decide_eq_false hlt
   have HP:=Lib.hid (show parseS X=u4 by rw [HPS.out];unfold endS;rw [HU4.out,HXT.out,if_neg hlt])
   by_cases hbad:u4.bad=0
   ·skip
    obtain ⟨c0,c1,c2,c3,c4,fz⟩:=HQ.out.rs.cells
    obtain ⟨p0,p1,p2,p3,-⟩:=node_cells HQ.out.kb
    obtain ⟨b0,b1,b2,b3,bf⟩:=node_cells HQ.out.res
    have bf0:=bf 0
    have bf1:=bf 1
    have bf2:=bf 2
    have bf3:=bf 3
    clear bf
    have hhi:=HQ.out.hi
    have hlo:=HQ.out.lo
    have hlo2:=HQ.out.lo2
    have t9:(u4.bad != 0)=false:=by simpa using hbad
    have hhi2:w.heap.size<w5.heap.size:=by omega
    have HB5:=Lib.hid hbad
    have HB0:=Lib.hid HQ.out.res
    clear hbad
    go_wp2_with fail
    obtain ⟨h7,g7⟩:=store4 HB0.out (.int .i64 6) (.int .i64 0) (.int .i64 TL) (.slice (some ⟨w5.heap.size,0,none⟩) 1 1)
    have hz7:((((w5.setCell ⟨w.heap.size,0,none⟩ (.int .i64 6)).setCell ⟨w.heap.size,1,none⟩ (.int .i64 0)).setCell ⟨w.heap.size,2,none⟩ (.int .i64 TL)).setCell ⟨w.heap.size,3,none⟩ (.slice (some ⟨w5.heap.size,0,none⟩) 1 1)).heap.size=w5.heap.size:=by simp [World.setCell]
    generalize ((((w5.setCell ⟨w.heap.size,0,none⟩ (.int .i64 6)).setCell ⟨w.heap.size,1,none⟩ (.int .i64 0)).setCell ⟨w.heap.size,2,none⟩ (.int .i64 TL)).setCell ⟨w.heap.size,3,none⟩ (.slice (some ⟨w5.heap.size,0,none⟩) 1 1))=w7 at h7 g7 hz7 ⊢
    obtain ⟨f0,f1⟩:=HQ.out.fin g7 hz7
    have h9:=(alloc_old_gx w7 (.cells #[.int .i64 nd.k,.int .i64 nd.a,.int .i64 nd.b,.slice ko nd.kids.length kc] 53) (by omega)).trans h7
    clear b0 b1 b2 b3 bf0 bf1 bf2 bf3 p0 p1 p2 p3 c0 c1 c2 c3 c4 fz
    generalize w7.alloc (.cells #[.int .i64 nd.k,.int .i64 nd.a,.int .i64 nd.b,.slice ko nd.kids.length kc] 53)=w9 at h9 f0 f1 ⊢
    obtain ⟨n0,n1,n2,n3,-⟩:=node_cells h9
    refine bodyPost_ret (v:=.tuple #[.agg #[.int .i64 6,.int .i64 0,.int .i64 TL,.slice (some ⟨w5.heap.size,0,none⟩) 1 1],.int .i64 0,.int .i64 0]) (by simp [results,Tryz.results24,go_sem,n0,n1,n2,n3]) rfl ⟨f0,.inr (.inr ⟨HL.out,?_,w5.heap.size,?_,?_⟩)⟩
    ·rw [HX.out,HP.out];exact HB5.out
    ·rw [HX.out,HXT.out]
    ·unfold docNd
     rw [HX.out,HND.out]
     exact f1
   ·skip
    obtain ⟨c0,c1,c2,c3,c4,fz⟩:=HQ.out.rs.cells
    obtain ⟨b0,b1,b2,b3,bf⟩:=node_cells HQ.out.res
    have bf0:=bf 0
    have bf1:=bf 1
    have bf2:=bf 2
    have bf3:=bf 3
    clear bf
    have HB5:=Lib.hid hbad
    have t9:(u4.bad != 0)=true:=by simpa using hbad
    clear hbad
    go_wp2_with fail
    go_region
    go_wp2_with fail
    obtain ⟨h7,g7⟩:=store4 HQ.out.res (.int .i64 0) (.int .i64 0) (.int .i64 0) (.slice none 0 0)
    generalize ((((w5.setCell ⟨w.heap.size,0,none⟩ (.int .i64 0)).setCell ⟨w.heap.size,1,none⟩ (.int .i64 0)).setCell ⟨w.heap.size,2,none⟩ (.int .i64 0)).setCell ⟨w.heap.size,3,none⟩ (.slice none 0 0))=w7 at h7 g7 ⊢
    have h9:w7.drew.heap[w.heap.size]?=_:=h7
    have g9:=HQ.out.none (g7.trans (grown_drew w7 1 _))
    change Below w.heap.size w w7.drew at g9
    clear b0 b1 b2 b3 bf0 bf1 bf2 bf3 c0 c1 c2 c3 c4 fz
    generalize w7.drew=w9 at h9 g9 ⊢
    obtain ⟨n0,n1,n2,n3,-⟩:=node_cells h9
    exact bodyPost_ret (v:=.tuple #[.agg #[.int .i64 0,.int .i64 0,.int .i64 0,.slice none 0 0],.int .i64 u4.wh,.int .i64 u4.bad]) (by simp [results,Tryz.results24,go_sem,n0,n1,n2,n3]) rfl
     ⟨g9,.inr (.inl ⟨HL.out,by rw [HX.out,HP.out];exact HB5.out,by rw [HX.out,HP.out]⟩)⟩
end Go.Proofs.YtldhmfkojaekfaaGreatDoor
namespace Go.Proofs.YtldhmfkojaekfaaGreatDoor
def Gap (X:TS) (i j:Nat):Prop:=∀ t,i<=t->t<j->X.kind t≠4/\X.kind t≠5/\X.kind t≠7
theorem Gap.none (X:TS) (i:Nat):Gap X i i:=fun t a b=>by omega
theorem Gap.trans {X:TS} {i j k:Nat} (h:Gap X i j) (g:Gap X j k):Gap X i k:=fun t a b=>by
 rcases Nat.lt_or_ge t j with h1|h1
 ·exact h t a h1
 ·exact g t h1 b
theorem Gap.one {X:TS} {i:Nat} (h:X.kind i=6):Gap X i (i+1):=fun t a b=>by
 obtain rfl:t=i:=by omega
 rw [h]
 decide
theorem skip_gap (X:TS) (s:PS):Gap X s.i (s.skip X).i:=by
 have h:∀ (L:List (Int×Nat×Nat)) (j:Nat),j<skipN L->∃ t,L[j]?=some t/\solidK t.1=false:=by
  intro L
  induction L with
  | nil=>intro j hj;simp [skipN] at hj
  | cons t L ih =>
    intro j hj
    unfold skipN at hj
    split at hj
    ·omega
    ·rename_i ht
     cases j with
     | zero=>exact ⟨t,rfl,by simpa using ht⟩
     | succ j=>exact ih j (by omega)
 intro t a b
 have hb:t<s.i+skipN (X.T.drop s.i):=b
 obtain ⟨u,hu,hs⟩:=h (X.T.drop s.i) (t - s.i) (by omega)
 rw [List.getElem?_drop,show s.i+(t - s.i)=t by omega] at hu
 have hk:X.kind t=u.1:=by unfold TS.kind;rw [hu]
 rw [hk]
 unfold solidK at hs
 simp only [Bool.and_eq_false_iff,decide_eq_false_iff_not] at hs
 omega
theorem mark_kind {X:TS} {s:PS} {e:UInt8} (h:s.mark X=e) (he:e≠0):X.kind s.i=6:=by
 by_cases h6:X.kind s.i=6
 ·exact h6
 ·exfalso
  unfold PS.mark at h
  rw [if_neg h6] at h
  exact he h.symm
def Lies (X:TS) (e:Nat):Nat->List Nd->Prop
 | i,[]=>i<=e/\Gap X i e
 | i,n::r=>i<=n.a/\n.a<n.b/\n.b<=e/\Gap X i n.a/\Lies X e n.b r
theorem Lies.from {X:TS} {e i j:Nat} {l:List Nd} (h:Lies X e j l) (hij:i<=j) (g:Gap X i j):Lies X e i l:=by
 cases l with
 | nil=>exact ⟨by have:=h.1;omega,g.trans h.2⟩
 | cons n r=>exact ⟨by have:=h.1;omega,h.2.1,h.2.2.1,g.trans h.2.2.2.1,h.2.2.2.2⟩
theorem Lies.upto {X:TS} {e d:Nat} (hed:e<=d) (g:Gap X e d):∀ {i:Nat} {l:List Nd},Lies X e i l->Lies X d i l
 | i,[],h=>⟨by have:=h.1;omega,h.2.trans g⟩
 | i,n::r,h=>⟨h.1,h.2.1,by have:=h.2.2.1;omega,h.2.2.2.1,Lies.upto hed g h.2.2.2.2⟩
inductive Covers (X:TS):Nd->Prop
 | mk (k:Int) (a b:Nat) (kids:List Nd) (hab:a<=b) (hb:b<=X.T.length) (h:kids=[]\/Lies X b a kids) (hk:∀ n∈kids,Covers X n):Covers X (.mk k a b kids)
structure Res (X:TS) (s:PS) (r:PS×Nd):Prop where
 lo:s.i<=r.2.a
 gap:Gap X s.i r.2.a
 ab:r.2.a<r.2.b
 b:r.2.b=r.1.i
 le:r.1.i<=X.T.length
 cov:Covers X r.2
def Cov (X:TS) (f:PS->PS×Nd):Prop:=∀ s:PS,(f s).1.bad=0->s.i<=X.T.length->Res X s (f s)
theorem good_of {f:PS->PS} (h:Stays f) {s:PS} (hb:(f s).bad=0):s.bad=0:=by
 by_cases h0:s.bad=0
 ·exact h0
 ·exact absurd ((h s h0).1▸hb) h0
theorem fail_not {X:TS} {e:Int} (he:e≠0) {s:PS} (h:(s.fail X e).bad=0):False:=fail_bad X e he s h
theorem leaf_cov (X:TS) (k:Int):Cov X (leafS X k):=fun s hb hi=>by
 have hsk:=skip_fine X s
 have hg:=skip_gap X s
 unfold leafS at hb ⊢
 split at hb
 ·rename_i h3
  rw [if_pos h3]
  have h4:(s.skip X).i<X.T.length:=by
   rcases Nat.lt_or_ge (s.skip X).i X.T.length with h4|h4
   ·exact h4
   ·exfalso
    unfold TS.kind at h3
    rw [List.getElem?_eq_none h4] at h3
    exact absurd h3 (by decide)
  exact ⟨hsk.1,hg,Nat.lt_succ_self _,rfl,h4,.mk _ _ _ _ (Nat.le_succ _) h4 (.inl rfl) (fun n hn=>absurd hn (by simp))⟩
 ·exact (fail_not (by decide) hb).elim
theorem many_cov {X:TS} {kid:PS->PS×Nd} (hk:Cov X kid) (hs:Stays fun s=>(kid s).1) (e:UInt8) (he:e≠0):∀ (f:Nat) (s:PS) (ks:List Nd),(manyS X kid e f s ks).1.bad=0->s.i<=X.T.length ->
 ∃ new,(manyS X kid e f s ks).2=ks++new/\(∀ n∈new,Covers X n)/\Lies X (manyS X kid e f s ks).1.i s.i new/\X.kind (manyS X kid e f s ks).1.i=6/\(manyS X kid e f s ks).1.i<X.T.length
 | 0,s,ks,hb,hi=>(fail_not (X:=X) (e:=4) (by decide) hb).elim
 | f+1,s,ks,hb,hi=>by
   have hs0:s.bad=0:=good_of (f:=fun u=>(manyS X kid e (f+1) u ks).1) (fun u hu=>many_stays X kid e (f+1) u ks hu) hb
   by_cases hm:(s.skip X).mark X=e
   ·have e1:manyS X kid e (f+1) s ks=(s.skip X,ks):=by rw [manyS,if_pos (.inl hm)]
    rw [e1]
    exact ⟨[],by simp,fun n hn=>absurd hn (by simp),⟨(skip_fine X s).1,skip_gap X s⟩,mark_kind hm he,mark_lt hm he⟩
   ·have hn:¬ ((s.skip X).mark X=e\/s.bad≠0):=fun h=>h.elim hm (fun h=>h hs0)
    have hgo:=manyS_go (kid:=kid) (ks:=ks) (Nat.succ_le_succ (Nat.zero_le f)) hn
    rw [hgo] at hb ⊢
    rw [show f+1 - 1=f from rfl] at hb ⊢
    obtain ⟨n,hnd⟩:∃ n,(kid (s.skip X)).2=n:=⟨_,rfl⟩
    obtain ⟨t,ht⟩:∃ t,(kid (s.skip X)).1.skip X=t:=⟨_,rfl⟩
    rw [ht,hnd] at hb ⊢
    have hr0:(roundS X e t).bad=0:=good_of (f:=fun u=>(manyS X kid e f u (ks++[n])).1) (fun u hu=>many_stays X kid e f u _ hu) hb
    have hk0:(kid (s.skip X)).1.bad=0:=by
     have:t.bad=0:=by
      unfold roundS at hr0
      split at hr0
      ·exact hr0
      ·split at hr0
       ·exact hr0
       ·exact (fail_not (by decide) hr0).elim
     rw [<-ht] at this
     exact this
    obtain ⟨Rlo,Rgap,Rab,hRb,Rle,Rcov⟩:=hk (s.skip X) hk0 ((skip_fine X s).2.1 hi)
    rw [hnd] at Rlo Rgap Rab hRb Rcov
    have ht2:(kid (s.skip X)).1.i<=t.i/\Gap X (kid (s.skip X)).1.i t.i/\t.i<=X.T.length:=by
     rw [<-ht]
     exact ⟨(skip_fine X _).1,skip_gap X _,(skip_fine X _).2.1 Rle⟩
    have hnx:t.i<=(roundS X e t).i/\Gap X t.i (roundS X e t).i/\(roundS X e t).i<=X.T.length:=by
     unfold roundS at hr0 ⊢
     split at hr0
     ·rename_i h44
      rw [if_pos h44]
      exact ⟨Nat.le_succ _,Gap.one (mark_kind h44 (by decide)),mark_lt h44 (by decide)⟩
     ·rename_i h44
      rw [if_neg h44]
      split at hr0
      ·rename_i h5
       rw [if_pos h5]
       exact ⟨Nat.le_refl _,Gap.none X _,ht2.2.2⟩
      ·exact (fail_not (by decide) hr0).elim
    obtain ⟨new,h1,h2,h3,h4,h5⟩:=many_cov hk hs e he f (roundS X e t) (ks++[n]) hb hnx.2.2
    have h6:Lies X (manyS X kid e f (roundS X e t) (ks++[n])).1.i n.b new:=h3.from (by rw [hRb];omega) (by rw [hRb];exact ht2.2.1.trans hnx.2.1)
    have h7:n.b<=(manyS X kid e f (roundS X e t) (ks++[n])).1.i:=by
     cases new with
     | nil=>exact h6.1
     | cons m r=>have:=h6.1;have:=h6.2.1;have:=h6.2.2.1;omega
    refine ⟨n::new,by rw [h1];simp,fun m hm=>?_,⟨?_,Rab,h7,?_,h6⟩,h4,h5⟩
    ·rcases List.mem_cons.1 hm with rfl|hm
     ·exact Rcov
     ·exact h2 m hm
    ·have:=(skip_fine X s).1;omega
    ·exact (skip_gap X s).trans Rgap
theorem manyN_cov {X:TS} {kid:PS->PS×Nd} (hk:Cov X kid) (hs:Stays fun s=>(kid s).1) (k:Int) (e:UInt8) (he:e≠0) (s:PS) (hb:(manyN X k e kid s).1.bad=0) (h6:X.kind s.i=6) (hi:s.i<X.T.length):Res X s (manyN X k e kid s):=by
 unfold manyN at hb ⊢
 obtain ⟨new,h1,h2,h3,h4,h5⟩:=many_cov hk hs e he X.F s.inc [] hb hi
 have hl:Lies X ((manyS X kid e X.F s.inc []).1.i+1) s.i new:=(h3.from (Nat.le_succ s.i) (Gap.one h6)).upto (Nat.le_succ _) (Gap.one h4)
 have hle:s.i<(manyS X kid e X.F s.inc []).1.i+1:=by
  have hi:s.inc.i=s.i+1:=rfl
  cases new with
  | nil=>have:=h3.1;omega
  | cons m r=>have:=h3.1;have:=h3.2.1;have:=h3.2.2.1;omega
 refine ⟨Nat.le_refl _,Gap.none X _,hle,rfl,h5,.mk _ _ _ _ (Nat.le_of_lt hle) h5 (.inr ?_) ?_⟩
 ·rw [h1];exact hl
 ·rw [h1];exact h2
theorem colon_good {X:TS} {u:PS} (h:(colonS X u).bad=0):colonS X u=u/\u.bad=0/\X.kind u.i=6/\u.i<X.T.length:=by
 have hb:=colon_bad h
 unfold colonS at h ⊢
 split at h
 ·exact (fail_not (by decide) h).elim
 ·rename_i h2
  rw [if_neg h2]
  refine ⟨rfl,h,?_,hb.2⟩
  by_cases h58:u.mark X=58
  ·exact mark_kind h58 (by decide)
  ·by_cases h61:u.mark X=61
   ·exact mark_kind h61 (by decide)
   ·exact absurd ⟨h,h58,h61⟩ h2
theorem entry_cov {X:TS} {val:PS->PS×Nd} (hv:Cov X val) (hs:Stays fun s=>(val s).1):Cov X (entryS X val):=fun s hb hi=>by
 unfold entryS at hb ⊢
 split at hb
 ·rename_i h;exact absurd hb h
 ·rename_i h
  rw [if_neg h]
  have hcb:(colonS X ((leafS X 2 s).1.skip X)).bad=0:=by
   by_cases h0:(colonS X ((leafS X 2 s).1.skip X)).bad=0
   ·exact h0
   ·exact absurd h0 h
  obtain ⟨c1,c2,c3,c4⟩:=colon_good hcb
  rw [c1] at hb ⊢
  have K:=leaf_cov X 2 s c2 hi
  have V:=hv ((leafS X 2 s).1.skip X).inc hb c4
  generalize hkey:(leafS X 2 s).2=key at *
  generalize hval:(val ((leafS X 2 s).1.skip X).inc)=r at *
  have hVlo:=V.lo
  have hinc:((leafS X 2 s).1.skip X).inc.i=((leafS X 2 s).1.skip X).i+1:=rfl
  have hsk:=(skip_fine X (leafS X 2 s).1).1
  have hKb:=K.b
  rw [hkey] at hKb
  have hKab:=K.ab
  rw [hkey] at hKab
  have hVb:=V.b
  have hVab:=V.ab
  have hVle:=V.le
  have hg:Gap X key.b r.2.a:=by
   rw [hKb]
   exact ((skip_gap X _).trans (Gap.one c3)).trans V.gap
  have hKlo:=K.lo
  rw [hkey] at hKlo
  have hKg:=K.gap
  rw [hkey] at hKg
  have hKc:=K.cov
  rw [hkey] at hKc
  refine ⟨hKlo,hKg,by show key.a<r.2.b;omega,hVb,hVle,.mk _ _ _ _ (by omega) (by omega) (.inr ⟨Nat.le_refl _,hKab,by omega,Gap.none X _,by omega,hVab,Nat.le_refl _,hg,Nat.le_refl _,Gap.none X _⟩) (fun n hn=>?_)⟩
  have:n=key\/n=r.2:=by simpa using hn
  rcases this with rfl|rfl
  ·exact hKc
  ·exact V.cov
theorem Res.skip {X:TS} {s:PS} {r:PS×Nd} (h:Res X (s.skip X) r):Res X s r :=
 ⟨Nat.le_trans (skip_fine X s).1 h.lo,(skip_gap X s).trans h.gap,h.ab,h.b,h.le,h.cov⟩
theorem value_cov (X:TS):∀ r,Cov X (valueS X r)
 | 0=>fun s hb hi=>by
   have hi2:=(skip_fine X s).2.1 hi
   unfold valueS at hb ⊢
   split at hb
   ·exact (fail_not (by decide) hb).elim
   ·rename_i h
    rw [if_neg h]
    exact (leaf_cov X 1 _ hb hi2).skip
 | r+1=>fun s hb hi=>by
   have ih:=value_cov X r
   have hi2:=(skip_fine X s).2.1 hi
   unfold valueS at hb ⊢
   split at hb
   ·rename_i h
    rw [if_pos h]
    exact (manyN_cov (entry_cov ih (value_stays X r)) (entry_stays X _) 3 125 (by decide) _ hb (mark_kind h (by decide)) (mark_lt h (by decide))).skip
   ·rename_i h
    rw [if_neg h]
    split at hb
    ·rename_i h2
     rw [if_pos h2]
     exact (manyN_cov ih (value_stays X r) 5 93 (by decide) _ hb (mark_kind h2 (by decide)) (mark_lt h2 (by decide))).skip
    ·rename_i h2
     rw [if_neg h2]
     exact (leaf_cov X 1 _ hb hi2).skip
theorem Lies.len {X:TS} {e:Nat}:∀ {i:Nat} {l:List Nd},Lies X e i l->i+l.length<=e
 | i,[],h=>h.1
 | i,n::r,h=>by
   have:=Lies.len h.2.2.2.2
   have:=h.1
   have:=h.2.1
   rw [List.length_cons]
   omega
def ends (kids:List Nd) (b:Nat):List Nd:=kids++[.mk 0 b b []]
def atOf (a b:Nat) (kids:List Nd) (j:Nat):Nat:=if j=0 then a else (((ends kids b)[j - 1]?).getD Nd.none).b
theorem Lies.steps {X:TS} {e:Nat}:∀ {i:Nat} {l:List Nd},Lies X e i l->∀ j n,(ends l e)[j]?=some n->atOf i e l j<=n.a/\n.a<=n.b/\n.b<=e/\Gap X (atOf i e l j) n.a
 | i,[],h=>fun j n hj=>by
   cases j with
   | zero =>
     obtain rfl:Nd.mk 0 e e []=n:=by simpa [ends] using hj
     exact ⟨h.1,Nat.le_refl _,Nat.le_refl _,h.2⟩
   | succ j=>simp [ends] at hj
 | i,m::r,h=>fun j n hj=>by
   cases j with
   | zero =>
     obtain rfl:m=n:=by simpa [ends] using hj
     exact ⟨h.1,Nat.le_of_lt h.2.1,h.2.2.1,h.2.2.2.1⟩
   | succ j =>
     have hj':(ends r e)[j]?=some n:=by simpa [ends] using hj
     have:=Lies.steps h.2.2.2.2 j n hj'
     have ha:atOf i e (m::r) (j+1)=atOf m.b e r j:=by
      unfold atOf
      cases j with
      | zero=>simp [ends]
      | succ j=>simp [ends]
     rw [ha]
     exact this
theorem Covers.ab {X:TS} {k:Int} {a b:Nat} {kids:List Nd} (h:Covers X (.mk k a b kids)):a<=b/\b<=X.T.length:=by
 cases h with
 | mk _ _ _ _ hab hb _ _=>exact ⟨hab,hb⟩
theorem Covers.len {X:TS} {k:Int} {a b:Nat} {kids:List Nd} (h:Covers X (.mk k a b kids)):kids.length<=X.T.length:=by
 cases h with
 | mk _ _ _ _ hab hb h _ =>
   rcases h with rfl|h
   ·exact Nat.zero_le _
   ·have:=h.len;omega
theorem Covers.steps {X:TS} {k:Int} {a b:Nat} {kids:List Nd} (h:Covers X (.mk k a b kids)) (j:Nat) (n:Nd) (hj:(ends kids b)[j]?=some n):atOf a b kids j<=n.a/\n.a<=n.b/\n.b<=b/\(0<kids.length->Gap X (atOf a b kids j) n.a):=by
 cases h with
 | mk _ _ _ _ hab hb h _ =>
   rcases h with rfl|h
   ·cases j with
    | zero =>
      obtain rfl:Nd.mk 0 b b []=n:=by simpa [ends] using hj
      exact ⟨hab,Nat.le_refl _,Nat.le_refl _,fun h=>by simp at h⟩
    | succ j=>simp [ends] at hj
   ·have:=h.steps j n hj
    exact ⟨this.1,this.2.1,this.2.2.1,fun _=>this.2.2.2⟩
theorem Covers.kid {X:TS} {n m:Nd} (h:Covers X n) (hm:m∈n.kids):Covers X m:=by
 cases h with
 | mk _ _ _ _ _ _ _ hk=>exact hk m hm
end Go.Proofs.YtldhmfkojaekfaaGreatDoor
namespace Go.Proofs.YtldhmfkojaekfaaGreatDoor
def fval (b:Nat):Nat:=if b<4503599627370496 then b else (b % 4503599627370496+4503599627370496) * 2 ^ (b / 4503599627370496 - 1)
theorem fval_of (n E:Nat) (h:n<9007199254740992) (h2:E=0\/4503599627370496<=n):fval (E * 4503599627370496+n)=n * 2 ^ E:=by
 unfold fval
 rcases h2 with rfl|h2
 ·by_cases hn:n<4503599627370496
  ·rw [if_pos (by omega)];simp
  ·rw [if_neg (by omega)]
   have e1:(0 * 4503599627370496+n) % 4503599627370496+4503599627370496=n:=by omega
   have e2:(0 * 4503599627370496+n) / 4503599627370496 - 1=0:=by omega
   rw [e1,e2]
 ·rw [if_neg (by omega)]
  have e0:E * 4503599627370496+n=(n - 4503599627370496)+(E+1) * 4503599627370496:=by rw [Nat.add_mul,Nat.one_mul];omega
  have hlt:n - 4503599627370496<4503599627370496:=by omega
  have e1:(E * 4503599627370496+n) % 4503599627370496+4503599627370496=n:=by
   rw [e0,Nat.add_mul_mod_self_right,Nat.mod_eq_of_lt hlt];omega
  have e2:(E * 4503599627370496+n) / 4503599627370496 - 1=E:=by
   rw [e0,Nat.add_mul_div_right _ _ (by decide:0<4503599627370496),Nat.div_eq_of_lt hlt];omega
  rw [e1,e2]
theorem fbitsFl (b:Nat):∃ n E,b=E * 4503599627370496+n/\n<9007199254740992/\(E=0\/4503599627370496<=n)/\fval b=n * 2 ^ E/\(E=b / 4503599627370496 - 1):=by
 by_cases hb:b<4503599627370496
 ·exact ⟨b,0,by simp,by omega,.inl rfl,by have h:=fval_of b 0 (by omega) (.inl rfl);rw [Nat.zero_mul,Nat.zero_add] at h;exact h,by omega⟩
 ·have h1:=Nat.div_add_mod b 4503599627370496
  have h2:=Nat.mod_lt b (show 4503599627370496 > 0 by decide)
  have h3:1<=b / 4503599627370496:=by omega
  have e:b=(b / 4503599627370496 - 1) * 4503599627370496+(b % 4503599627370496+4503599627370496):=by
   obtain ⟨q,hq⟩:∃ q,b / 4503599627370496=q+1:=⟨b / 4503599627370496 - 1,by omega⟩
   rw [hq] at h1 ⊢
   rw [Nat.add_sub_cancel]
   rw [Nat.mul_add,Nat.mul_one,Nat.mul_comm] at h1
   omega
  refine ⟨b % 4503599627370496+4503599627370496,b / 4503599627370496 - 1,e,by omega,.inr (by omega),?_,rfl⟩
  conv=>lhs;rw [e]
  rw [fval_of _ _ (by omega) (.inr (by omega))]
theorem fval_succ (b:Nat):fval (b+1)=fval b+2 ^ (b / 4503599627370496 - 1):=by
 obtain ⟨n,E,hb,hn,hE,hv,he⟩:=fbitsFl b
 rw [hv,<-he]
 by_cases h:n+1<9007199254740992
 ·rw [show b+1=E * 4503599627370496+(n+1) by omega,fval_of (n+1) E h (by omega),Nat.add_mul,Nat.one_mul]
 ·have hn2:n=9007199254740991:=by omega
  have e:b+1=(E+1) * 4503599627370496+4503599627370496:=by rw [Nat.add_mul,Nat.one_mul];omega
  rw [e,fval_of 4503599627370496 (E+1) (by decide) (.inr (Nat.le_refl _)),hn2,Nat.pow_succ]
  have:4503599627370496 * (2 ^ E * 2)=9007199254740992 * 2 ^ E:=by
   rw [Nat.mul_comm (2 ^ E) 2,<-Nat.mul_assoc,Nat.mul_comm 4503599627370496 2]
  rw [this]
  have h3:9007199254740992=9007199254740991+1:=by decide
  conv=>lhs;rw [h3]
  rw [Nat.add_mul,Nat.one_mul]
theorem fval_lt {a b:Nat} (h:a<b):fval a<fval b:=by
 induction b with
 | zero=>omega
 | succ b ih =>
   have h1:=fval_succ b
   have h2:=Nat.two_pow_pos (b / 4503599627370496 - 1)
   rcases Nat.lt_or_ge a b with h3|h3
   ·have:=ih h3;omega
   ·have:a=b:=by omega
    subst this;omega
def fmid (b:Nat):Nat:=fval b+fval (b+1)
theorem fmid_lt {a b:Nat} (h:a<b):fmid a<fmid b:=by
 have h1:=fval_lt h
 have h2:=fval_lt (show a+1<b+1 by omega)
 unfold fmid;omega
theorem fmid_le {a b:Nat} (h:a<=b):fmid a<=fmid b:=by
 rcases Nat.lt_or_ge a b with h1|h1
 ·exact Nat.le_of_lt (fmid_lt h1)
 ·rw [show a=b by omega];exact Nat.le_refl _
theorem fmid_of (n E:Nat) (h:n<9007199254740992) (h2:E=0\/4503599627370496<=n):fmid (E * 4503599627370496+n)=(2 * n+1) * 2 ^ E:=by
 obtain ⟨m,F,hb,hm,hF,hv,he⟩:=fbitsFl (E * 4503599627370496+n)
 have e1:E=(E * 4503599627370496+n) / 4503599627370496 - 1:=by
  rcases h2 with rfl|h2
  ·omega
  ·have e0:E * 4503599627370496+n=(n - 4503599627370496)+(E+1) * 4503599627370496:=by rw [Nat.add_mul,Nat.one_mul];omega
   rw [e0,Nat.add_mul_div_right _ _ (by decide:0<4503599627370496),Nat.div_eq_of_lt (by omega)];omega
 unfold fmid
 rw [fval_succ,<-e1,fval_of n E h h2,Nat.add_mul,Nat.one_mul]
 have:2 * n * 2 ^ E=n * 2 ^ E+n * 2 ^ E:=by rw [Nat.mul_assoc,Nat.two_mul]
 omega
theorem fmid_below (n E:Nat) (h:n<9007199254740992) (h2:E=0\/4503599627370496<=n) (h3:0<E * 4503599627370496+n):fmid (E * 4503599627370496+n - 1)=if E=0\/4503599627370496<n then (2 * n - 1) * 2 ^ E else 18014398509481983 * 2 ^ (E - 1):=by
 by_cases hc:E=0\/4503599627370496<n
 ·rw [if_pos hc]
  have hn:0<n:=by
   rcases hc with rfl|hc
   ·simpa using h3
   ·omega
  have e:E * 4503599627370496+n - 1=E * 4503599627370496+(n - 1):=by omega
  rw [e,fmid_of (n - 1) E (by omega) (by omega)]
  congr 1
  omega
 ·rw [if_neg hc]
  have hE:E≠0:=fun h=>hc (.inl h)
  have hn:n=4503599627370496:=by
   have:=h2.resolve_left hE
   have:¬ 4503599627370496<n:=fun h=>hc (.inr h)
   omega
  subst hn
  obtain ⟨k,rfl⟩:∃ k,E=k+1:=⟨E - 1,by omega⟩
  have e:(k+1) * 4503599627370496+4503599627370496 - 1=k * 4503599627370496+9007199254740991:=by rw [Nat.add_mul,Nat.one_mul];omega
  rw [e,fmid_of 9007199254740991 k (by decide) (.inr (by decide)),Nat.add_sub_cancel]
structure Rnd (Y D b:Nat):Prop where
 le:b<=9218868437227405312
 lo:b=0\/D * fmid (b - 1)<Y\/(D * fmid (b - 1)=Y/\b % 2=0)
 hi:b=9218868437227405312\/Y<D * fmid b\/(Y=D * fmid b/\b % 2=0)
theorem Rnd.mono {Y D b Z C c:Nat} (h:Rnd Y D b) (g:Rnd Z C c) (hD:0<D) (hC:0<C) (hle:Y * C<=Z * D):b<=c:=by
 apply Classical.byContradiction
 intro hcb
 have hb0:b≠0:=by omega
 have hc0:c≠9218868437227405312:=by have:=h.le;omega
 have h1:=h.lo.resolve_left hb0
 have g1:=g.hi.resolve_left hc0
 have hm:=fmid_le (show c<=b - 1 by omega)
 have a1:D * fmid (b - 1)<=Y:=by omega
 have a2:Z<=C * fmid c:=by omega
 have b1:D * fmid (b - 1) * C<=Y * C:=Nat.mul_le_mul_right _ a1
 have b2:Z * D<=C * fmid c * D:=Nat.mul_le_mul_right _ a2
 have b3:C * fmid c * D<=C * fmid (b - 1) * D:=Nat.mul_le_mul_right _ (Nat.mul_le_mul_left _ hm)
 have e:D * fmid (b - 1) * C=C * fmid (b - 1) * D:=by rw [Nat.mul_comm D,Nat.mul_comm C,Nat.mul_assoc,Nat.mul_assoc,Nat.mul_comm D C]
 have c1:D * fmid (b - 1) * C=Y * C:=by omega
 have c2:Z * D=C * fmid c * D:=by omega
 have c3:C * fmid c * D=C * fmid (b - 1) * D:=by omega
 have d1:=Nat.eq_of_mul_eq_mul_right hC c1
 have d2:=Nat.eq_of_mul_eq_mul_right hD c2
 have d3:=Nat.eq_of_mul_eq_mul_left hC (Nat.eq_of_mul_eq_mul_right hD c3)
 have p1:b % 2=0:=by rcases h1 with h1|h1;omega;exact h1.2
 have p2:c % 2=0:=by rcases g1 with g1|g1;omega;exact g1.2
 rcases Nat.lt_or_ge c (b - 1) with h5|h5
 ·have:=fmid_lt h5;omega
 ·omega
theorem Rnd.uniq {Y D b Z C c:Nat} (h:Rnd Y D b) (g:Rnd Z C c) (hD:0<D) (hC:0<C) (he:Y * C=Z * D):b=c :=
 Nat.le_antisymm (h.mono g hD hC (Nat.le_of_eq he)) (g.mono h hC hD (Nat.le_of_eq he.symm))
theorem rnd_zero (D:Nat) (hD:0<D):Rnd 0 D 0:=by
 refine ⟨by decide,.inl rfl,.inr (.inl ?_)⟩
 have:fmid 0=1:=by decide
 rw [this];omega
structure Rhe (P Q n:Nat):Prop where
 lo:n=0\/(2 * n - 1) * Q<2 * P\/((2 * n - 1) * Q=2 * P/\n % 2=0)
 hi:2 * P<(2 * n+1) * Q\/(2 * P=(2 * n+1) * Q/\n % 2=0)
theorem rhe_of (P Q:Nat) (hQ:0<Q):Rhe P Q (P / Q+if Q<2 * (P % Q)\/(2 * (P % Q)=Q/\P / Q % 2=1) then 1 else 0):=by
 have h1:=Nat.div_add_mod P Q
 have h2:=Nat.mod_lt P hQ
 generalize P / Q=q at *
 generalize P % Q=r at *
 have e1:2 * P=2 * q * Q+2 * r:=by rw [<-h1,Nat.mul_add,<-Nat.mul_assoc,Nat.mul_assoc,Nat.mul_comm Q q,<-Nat.mul_assoc]
 by_cases hc:Q<2 * r\/(2 * r=Q/\q % 2=1)
 ·rw [if_pos hc]
  have e2:(2 * (q+1) - 1) * Q=2 * q * Q+Q:=by rw [show 2 * (q+1) - 1=2 * q+1 by omega,Nat.add_mul,Nat.one_mul]
  have e3:(2 * (q+1)+1) * Q=2 * q * Q+3 * Q:=by rw [show 2 * (q+1)+1=2 * q+3 by omega,Nat.add_mul]
  refine ⟨.inr ?_,.inl ?_⟩
  ·rw [e1,e2]
   rcases hc with hc|hc
   ·left;omega
   ·right;exact ⟨by omega,by omega⟩
  ·rw [e1,e3];omega
 ·rw [if_neg hc,Nat.add_zero]
  have hc1:2 * r<Q\/(2 * r=Q/\q % 2=0):=by
   rcases Nat.lt_or_ge (2 * r) Q with h|h
   ·exact .inl h
   ·right
    have h5:¬ Q<2 * r:=fun h=>hc (.inl h)
    have h6:2 * r=Q:=by omega
    exact ⟨h6,by have:¬ q % 2=1:=fun h=>hc (.inr ⟨h6,h⟩);omega⟩
  have e3:(2 * q+1) * Q=2 * q * Q+Q:=by rw [Nat.add_mul,Nat.one_mul]
  refine ⟨?_,?_⟩
  ·rcases Nat.eq_zero_or_pos q with h0|h0
   ·exact .inl h0
   ·right;left
    have e2:(2 * q - 1) * Q+Q=2 * q * Q:=by
     obtain ⟨k,rfl⟩:∃ k,q=k+1:=⟨q - 1,by omega⟩
     rw [show 2 * (k+1) - 1=2 * k+1 by omega,show 2 * (k+1)=2 * k+1+1 by omega,Nat.add_mul (2 * k+1),Nat.one_mul]
    rw [e1];omega
  ·rw [e1,e3]
   rcases hc1 with h|h
   ·left;omega
   ·right;exact ⟨by omega,h.2⟩
theorem Rhe.turn {P Q Y T n:Nat} (h:Rhe P Q n) (hQ:0<Q) (hT:0<T) (he:2 * P * T=Y * Q) :
 (n=0\/(2 * n - 1) * T<Y\/((2 * n - 1) * T=Y/\n % 2=0))/\(Y<(2 * n+1) * T\/(Y=(2 * n+1) * T/\n % 2=0)):=by
 have turn:∀ k,(k * Q<2 * P->k * T<Y)/\(k * Q=2 * P->k * T=Y)/\(2 * P<k * Q->Y<k * T):=by
  intro k
  have e:k * T * Q=k * Q * T:=by rw [Nat.mul_assoc,Nat.mul_comm T,Nat.mul_assoc]
  refine ⟨fun h=>?_,fun h=>?_,fun h=>?_⟩
  ·have:=Nat.mul_lt_mul_of_pos_right h hT
   rw [he,<-e] at this
   exact Nat.lt_of_mul_lt_mul_right this
  ·have:=congrArg (fun x=>x * T) h
   rw [he,<-e] at this
   exact Nat.eq_of_mul_eq_mul_right hQ this
  ·have:=Nat.mul_lt_mul_of_pos_right h hT
   rw [he,<-e] at this
   exact Nat.lt_of_mul_lt_mul_right this
 refine ⟨?_,?_⟩
 ·rcases h.lo with h1|h1|h1
  ·exact .inl h1
  ·exact .inr (.inl ((turn _).1 h1))
  ·exact .inr (.inr ⟨(turn _).2.1 h1.1,h1.2⟩)
 ·rcases h.hi with h1|h1
  ·exact .inl ((turn _).2.2 h1)
  ·exact .inr ⟨((turn _).2.1 h1.1.symm).symm,h1.2⟩
theorem turn4 (K P D:Nat):K * (D * (P * 2))=2 * (D * (K * P)):=by
 rw [Nat.mul_left_comm K D,<-Nat.mul_assoc K P 2,Nat.mul_comm (K * P) 2,Nat.mul_left_comm D 2]
theorem near_law {Y D n E:Nat} (hD:0<D) (hn:n<9007199254740992) (hE:E=0\/4503599627370496<=n) (hE2:E<=2048)
 (hlo:n=0\/(2 * n - 1) * (D * 2 ^ E)<Y\/((2 * n - 1) * (D * 2 ^ E)=Y/\n % 2=0)) (hhi:Y<(2 * n+1) * (D * 2 ^ E)\/(Y=(2 * n+1) * (D * 2 ^ E)/\n % 2=0))
 (hq:E=0\/18014398509481983 * (D * 2 ^ E)<=2 * Y):Rnd Y D (if 9218868437227405312<=E * 4503599627370496+n then 9218868437227405312 else E * 4503599627370496+n):=by
 have em:∀ k,D * (k * 2 ^ E)=k * (D * 2 ^ E):=fun k=>by rw [<-Nat.mul_assoc,Nat.mul_comm D k,Nat.mul_assoc]
 have hpar:(E * 4503599627370496+n) % 2=n % 2:=by omega
 have hlow:E * 4503599627370496+n=0\/D * fmid (E * 4503599627370496+n - 1)<Y\/(D * fmid (E * 4503599627370496+n - 1)=Y/\(E * 4503599627370496+n) % 2=0):=by
  rcases Nat.eq_zero_or_pos (E * 4503599627370496+n) with h0|h0
  ·exact .inl h0
  ·right
   rw [fmid_below n E hn hE h0,hpar]
   by_cases hc:E=0\/4503599627370496<n
   ·rw [if_pos hc,em]
    rcases hlo with h1|h1|h1
    ·exfalso
     rcases hc with h2|h2
     ·subst h1 h2;simp at h0
     ·omega
    ·exact .inl h1
    ·exact .inr h1
   ·rw [if_neg hc]
    have hE0:E≠0:=fun h=>hc (.inl h)
    have hnF:n=4503599627370496:=by
     have h5:¬ 4503599627370496<n:=fun h=>hc (.inr h)
     have:=hE.resolve_left hE0
     omega
    have h6:=hq.resolve_left hE0
    have hpe:n % 2=0:=by omega
    obtain ⟨K,hK⟩:∃ K:Nat,K=18014398509481983:=⟨_,rfl⟩
    rw [<-hK] at h6 ⊢
    clear hK hlo hhi hq em hpar
    obtain ⟨k,rfl⟩:∃ k,E=k+1:=⟨E - 1,by omega⟩
    rw [Nat.add_sub_cancel]
    have e2:K * (D * 2 ^ (k+1))=2 * (D * (K * 2 ^ k)):=by
     rw [Nat.pow_succ];exact turn4 _ _ _
    rw [e2] at h6
    have h7:D * (K * 2 ^ k)<=Y:=Nat.le_of_mul_le_mul_left h6 (by decide)
    exact (Nat.lt_or_eq_of_le h7).imp id (fun h=>⟨h,hpe⟩)
 by_cases hinf:9218868437227405312<=E * 4503599627370496+n
 ·rw [if_pos hinf]
  refine ⟨Nat.le_refl _,?_,.inl rfl⟩
  right
  have h1:=hlow.resolve_left (by omega)
  rcases Nat.lt_or_ge 9218868437227405312 (E * 4503599627370496+n) with h2|h2
  ·left
   have h3:fmid (9218868437227405312 - 1)<fmid (E * 4503599627370496+n - 1):=fmid_lt (by omega)
   have h4:=Nat.mul_lt_mul_of_pos_left h3 hD
   omega
  ·have h3:E * 4503599627370496+n=9218868437227405312:=by omega
   rw [h3] at h1
   exact h1
 ·rw [if_neg hinf]
  refine ⟨by omega,hlow,.inr ?_⟩
  rw [fmid_of n E hn hE,em,hpar]
  exact hhi
end Go.Proofs.YtldhmfkojaekfaaGreatDoor
namespace Go.Proofs.YtldhmfkojaekfaaGreatDoor.Gx
open Go Go.RowKit
structure Rd (k:IntKind) (w:World) (ad:Option Addr) (cap:Nat) (xs:List Int):Prop where
 ncap:xs.length<=cap
 cap63:cap<=9223372036854775807
 wf:∀ x∈xs,(Lit.int k x).wf=true
 none_:ad=none->cap=0
 at_:∀ a,ad=some a->0<xs.length->a.spot=none/\a.block<w.heap.size/\∀ j,j<xs.length->w.cell? ⟨a.block,a.off+j,none⟩=some (.int k (xs.getD j 0))
variable {k:IntKind} {w w':World} {ad:Option Addr} {cap:Nat} {xs:List Int}
theorem Rd.keep (h:Rd k w ad cap xs) (hb:Below w.heap.size w w'):Rd k w' ad cap xs:=by
 refine ⟨h.ncap,h.cap63,h.wf,h.none_,fun a ha hp=>?_⟩
 obtain ⟨h1,h2,h3⟩:=h.at_ a ha hp
 exact ⟨h1,Nat.lt_of_lt_of_le h2 hb.size,fun j hj=>(hb.cell (p:=⟨a.block,a.off+j,none⟩) h2).trans (h3 j hj)⟩
theorem Rd.addr (h:Rd k w ad cap xs) (hp:0<xs.length):∃ b off,ad=some ⟨b,off,none⟩/\b<w.heap.size/\∀ j,j<xs.length->w.cell? ⟨b,off+j,none⟩=some (.int k (xs.getD j 0)):=by
 cases ad with
 | none=>have:=h.none_ rfl;have:=h.ncap;omega
 | some a =>
   obtain ⟨h1,h2,h3⟩:=h.at_ a rfl hp
   obtain ⟨b,off,spot⟩:=a
   simp only at h1
   subst h1
   exact ⟨b,off,rfl,h2,h3⟩
theorem getD_take (xs:List Int) (m j:Nat) (h:j<m):(xs.take m).getD j 0=xs.getD j 0:=by
 simp [List.getD,h]
theorem Rd.front (h:Rd k w ad cap xs) (m:Nat) (hm:m<=xs.length):Rd k w ad cap (xs.take m):=by
 have hl:(xs.take m).length=m:=by simp;omega
 refine ⟨by rw [hl];have:=h.ncap;omega,h.cap63,fun x hx=>h.wf x (List.mem_of_mem_take hx),h.none_,fun a ha hp=>?_⟩
 obtain ⟨h1,h2,h3⟩:=h.at_ a ha (by omega)
 refine ⟨h1,h2,fun j hj=>?_⟩
 rw [h3 j (by omega),getD_take xs m j (by omega)]
theorem Rd.nil (k:IntKind) (w:World) (ad:Option Addr) (cap:Nat) (h1:cap<=9223372036854775807) (h2:ad=none->cap=0):Rd k w ad cap [] :=
 ⟨by simp,h1,fun x hx=>by simp at hx,h2,fun a _ hp=>by simp at hp⟩
theorem Rd.row {len:Nat} {zs:List Int} (h:IsRow k w ad len cap zs):(zs.take len).length=len/\Rd k w ad cap (zs.take len):=by
 rcases h with ⟨rfl,rfl,rfl,rfl⟩|⟨x,rfl,hl,hm,hz,hc,hw⟩
 ·exact ⟨rfl,Rd.nil _ _ _ _ (by omega) (fun _=>rfl)⟩
 ·have hlen:(zs.take len).length=len:=by simp;omega
  refine ⟨hlen,by omega,by unfold maxLen at hm;omega,fun y hy=>hw y (List.mem_of_mem_take hy),fun h=>by simp at h,fun a ha hp=>?_⟩
  obtain rfl:=Option.some.inj ha
  have h0:=hc 0 (by omega)
  have hspot:x.spot=none:=by
   have:=World.cell?_spot h0
   simpa [Addr.add] using this
  obtain ⟨b,off,spot⟩:=x
  simp only at hspot
  subst hspot
  refine ⟨rfl,World.block_lt_of_cell? w ⟨b,off,none⟩ (by simpa [Addr.add] using h0),fun j hj=>?_⟩
  have:=hc j (by omega)
  rw [Addr.add_lit] at this
  rw [this,getD_take zs len j (by omega)]
theorem Rd.own {base:Nat} {e:TypeId} {v:Value} {n:Nat} (h:w.ownsRow base e 1 v n (xs.map (Value.int k))) (hw:∀ x∈xs,(Lit.int k x).wf=true) :
 ∃ ad cap,v=.slice ad xs.length cap/\Rd k w ad cap xs:=by
 have hn:xs.length=n:=by have:=h.1;simpa using this
 have hc:=fun g=>h.cells (g:=g)
 rcases h.2 with ⟨rfl,rfl⟩|⟨g,cap,cur,rfl,hb,hg,hnc,hcm,_⟩
 ·have:xs=[]:=List.eq_nil_of_length_eq_zero hn
  subst this
  exact ⟨none,0,rfl,Rd.nil _ _ _ _ (by omega) (fun _=>rfl)⟩
 ·subst hn
  refine ⟨some ⟨g,0,none⟩,cap,rfl,hnc,by unfold maxLen at hcm;omega,hw,fun h=>by simp at h,fun a ha hp=>?_⟩
  obtain rfl:=Option.some.inj ha
  refine ⟨rfl,(Array.getElem?_eq_some_iff.1 hg).1,fun j hj=>?_⟩
  have:=hc g rfl j (.int k (xs.getD j 0)) (by simp [List.getD,List.getElem?_eq_getElem hj])
  rwa [Addr.add_lit] at this
theorem Rd.own' {base:Nat} {e:TypeId} {v:Value} {n:Nat} (h:w.ownsRow base e 1 v n (xs.map (Value.int k))) (hw:∀ x∈xs,(Lit.int k x).wf=true) :
 ∃ ad cap,v=.slice ad xs.length cap/\Rd k w ad cap xs/\∀ a,ad=some a->base<=a.block:=by
 obtain ⟨ad,cap,rfl,hr⟩:=Rd.own h hw
 refine ⟨ad,cap,rfl,hr,fun a ha=>?_⟩
 subst ha
 exact (h.lt a.block rfl).1
theorem Rd.grown {row:Option Nat} (h:Rd k w ad cap xs) (hg:w.grownBy w' row) (hne:∀ a,ad=some a->0<xs.length->some a.block≠row):Rd k w' ad cap xs:=by
 refine ⟨h.ncap,h.cap63,h.wf,h.none_,fun a ha hp=>?_⟩
 obtain ⟨h1,h2,h3⟩:=h.at_ a ha hp
 exact ⟨h1,Nat.lt_of_lt_of_le h2 hg.size,fun j hj=>hg.cell (h3 j hj) (hne a ha hp)⟩
theorem Rd.src (h:Rd k w ad cap xs):(xs.map (Value.int k)).length=xs.length * 1/\(ad=none->xs.length=0/\cap=0) /\
 (∀ a,ad=some a->∀ j u,(xs.map (Value.int k))[j]?=some u->w.cell? (a.add j)=some u)/\∀ u∈xs.map (Value.int k),u.oneCell'=true:=by
 refine ⟨by simp,fun e=>⟨by have:=h.none_ e;have:=h.ncap;omega,h.none_ e⟩,fun a ha j u hu=>?_,ints_oneCell k xs⟩
 have hj:j<xs.length:=by
  have:=(List.getElem?_eq_some_iff.1 hu).1
  simpa using this
 obtain ⟨h1,h2,h3⟩:=h.at_ a ha (by omega)
 obtain ⟨b,off,spot⟩:=a
 simp only at h1
 subst h1
 rw [Addr.add_lit,h3 j hj]
 simp [List.getElem?_eq_getElem hj] at hu
 simp [List.getD,List.getElem?_eq_getElem hj,hu]
end Go.Proofs.YtldhmfkojaekfaaGreatDoor.Gx
namespace Go.Proofs.YtldhmfkojaekfaaGreatDoor
def bval:List Int->Nat
 | []=>0
 | x::l=>x.toNat+4294967296 * bval l
def Words (l:List Int):Prop:=∀ x∈l,0<=x/\x<4294967296
def canonF:Nat->Nat->List Int
 | 0,_=>[]
 | f+1,n=>if n=0 then [] else ((n % 4294967296:Nat):Int)::canonF f (n / 4294967296)
def canon (n:Nat):List Int:=canonF n n
theorem canonF_fuel:∀ (f g n:Nat),n<=f->n<=g->canonF f n=canonF g n
 | 0,0,_,_,_=>rfl
 | 0,g+1,n,h,_=>by have:n=0:=by omega
                   subst this;simp [canonF]
 | f+1,0,n,_,h=>by have:n=0:=by omega
                   subst this;simp [canonF]
 | f+1,g+1,n,h1,h2=>by
   unfold canonF
   by_cases h:n=0
   ·simp [h]
   ·rw [if_neg h,if_neg h,canonF_fuel f g (n / 4294967296) (by omega) (by omega)]
theorem canon_zero:canon 0=[]:=rfl
theorem canon_pos (n:Nat) (h:n≠0):canon n=((n % 4294967296:Nat):Int)::canon (n / 4294967296):=by
 unfold canon
 obtain ⟨m,rfl⟩:∃ m,n=m+1:=⟨n - 1,by omega⟩
 conv=>lhs;unfold canonF
 rw [if_neg (by omega),canonF_fuel m ((m+1) / 4294967296) _ (by omega) (Nat.le_refl _)]
theorem canon_words:∀ (n:Nat),Words (canon n):=by
 intro n
 induction n using Nat.strongRecOn with
 | ind n ih =>
   by_cases h:n=0
   ·subst h;intro x hx;simp [canon_zero] at hx
   ·rw [canon_pos n h]
    intro x hx
    rcases List.mem_cons.1 hx with rfl|hx
    ·omega
    ·exact ih _ (by omega) x hx
theorem bval_canon:∀ (n:Nat),bval (canon n)=n:=by
 intro n
 induction n using Nat.strongRecOn with
 | ind n ih =>
   by_cases h:n=0
   ·subst h;rfl
   ·rw [canon_pos n h,bval,ih _ (by omega)]
    omega
theorem bval_append (a b:List Int):bval (a++b)=bval a+4294967296 ^ a.length * bval b:=by
 induction a with
 | nil=>simp [bval]
 | cons x a ih =>
   simp only [List.cons_append,bval,ih,List.length_cons,Nat.pow_succ]
   rw [Nat.mul_add,Nat.add_assoc,<-Nat.mul_assoc,Nat.mul_comm (4294967296 ^ a.length) 4294967296]
theorem bval_lt:∀ (a:List Int),Words a->bval a<4294967296 ^ a.length
 | [],_=>by simp [bval]
 | x::a,h=>by
   have h1:=h x (by simp)
   have h2:=bval_lt a (fun y hy=>h y (by simp [hy]))
   simp only [bval,List.length_cons,Nat.pow_succ]
   omega
theorem canon_bval:∀ (a:List Int),Words a->(∀ x,a.getLast?=some x->x≠0)->canon (bval a)=a
 | [],_,_=>rfl
 | x::a,h,hl=>by
   have h1:=h x (by simp)
   have hw:Words a:=fun y hy=>h y (by simp [hy])
   have hl':∀ y,a.getLast?=some y->y≠0:=by
    intro y hy
    refine hl y ?_
    cases a with
    | nil=>simp at hy
    | cons z a=>simpa [List.getLast?_cons_cons] using hy
   have ih:=canon_bval a hw hl'
   have hne:bval (x::a)≠0:=by
    simp only [bval]
    intro h0
    have hx:x.toNat=0:=by omega
    have ha:bval a=0:=by omega
    rw [ha] at ih
    have:a=[]:=by rw [<-ih];rfl
    subst this
    have:=hl x (by simp)
    omega
   rw [canon_pos _ hne]
   simp only [bval]
   have e1:(x.toNat+4294967296 * bval a) % 4294967296=x.toNat:=by omega
   have e2:(x.toNat+4294967296 * bval a) / 4294967296=bval a:=by omega
   rw [e1,e2,ih]
   congr 1
   omega
def trimTo:List Int->List Int
 | []=>[]
 | x::l=>if trimTo l=[]/\x=0 then [] else x::trimTo l
theorem canon_len_le (n k:Nat) (h:n<4294967296 ^ k):(canon n).length<=k:=by
 induction k generalizing n with
 | zero=>simp at h;subst h;simp [canon_zero]
 | succ k ih =>
   by_cases h0:n=0
   ·subst h0;simp [canon_zero]
   ·rw [canon_pos n h0,List.length_cons]
    have:=ih (n / 4294967296) (by rw [Nat.pow_succ] at h;omega)
    omega
theorem canon_len_gt (n:Nat) (h:n≠0):4294967296 ^ ((canon n).length - 1)<=n:=by
 induction n using Nat.strongRecOn with
 | ind n ih =>
   rw [canon_pos n h,List.length_cons]
   by_cases h2:n / 4294967296=0
   ·rw [h2,canon_zero];simp;omega
   ·have h3:=ih (n / 4294967296) (by omega) h2
    have h4:0<(canon (n / 4294967296)).length:=by rw [canon_pos _ h2];simp
    obtain ⟨m,hm⟩:∃ m,(canon (n / 4294967296)).length=m+1:=⟨_,(Nat.succ_pred_eq_of_pos h4).symm⟩
    rw [hm] at h3 ⊢
    simp only [Nat.add_sub_cancel] at h3 ⊢
    rw [Nat.pow_succ]
    omega
end Go.Proofs.YtldhmfkojaekfaaGreatDoor
namespace Go.Proofs.YtldhmfkojaekfaaGreatDoor
open Go.RowKit Gx
set_option maxRecDepth 100000
theorem words_of_rd {w:World} {ad:Option Addr} {cap:Nat} {xs:List Int} (h:Rd .u32 w ad cap xs):Words xs:=by
 intro x hx
 have:=h.wf x hx
 simp [Lit.wf,IntKind.min,IntKind.max,IntKind.signed,IntKind.bits] at this
 omega
theorem bval_zeros (l:List Int) (h:∀ x∈l,x=0):bval l=0:=by
 induction l with
 | nil=>rfl
 | cons x l ih=>simp [bval,ih (fun y hy=>h y (by simp [hy])),h x (by simp)]
theorem trim_done (xs:List Int) (hw:Words xs) (m:Nat) (hm:m<=xs.length) (hz:∀ j,m<=j->j<xs.length->xs.getD j 0=0) (hl:m=0\/xs.getD (m - 1) 0≠0) :
 canon (bval xs)=xs.take m:=by
 have h1:bval xs=bval (xs.take m):=by
  conv=>lhs;rw [<-List.take_append_drop m xs]
  rw [bval_append,bval_zeros (xs.drop m)]
  ·simp
  ·intro x hx
   obtain ⟨i,hi,rfl⟩:=List.getElem_of_mem hx
   rw [List.getElem_drop]
   have:=hz (m+i) (by omega) (by simp at hi;omega)
   simpa [List.getD,List.getElem?_eq_getElem (show m+i<xs.length by simp at hi;omega)] using this
 rw [h1]
 refine canon_bval _ (fun x hx=>hw x (List.mem_of_mem_take hx)) ?_
 intro x hx
 rcases hl with rfl|hl
 ·simp at hx
 ·rw [List.getLast?_eq_getElem?] at hx
  have hlen:(xs.take m).length=m:=by simp;omega
  rw [hlen] at hx
  by_cases h0:m=0
  ·subst h0;simp at hx
  ·rw [List.getElem?_take] at hx
   rw [if_pos (by omega)] at hx
   intro e
   apply hl
   simp [List.getD,hx,e]
theorem canon_take (xs:List Int) (hw:Words xs):∃ m,m<=xs.length/\canon (bval xs)=xs.take m:=by
 have h:∀ n m,m<=xs.length->(∀ j,m<=j->j<xs.length->xs.getD j 0=0)->m<=n->∃ m,m<=xs.length/\canon (bval xs)=xs.take m:=by
  intro n
  induction n with
  | zero=>intro m hm hz hn;exact ⟨m,hm,trim_done xs hw m hm hz (.inl (by omega))⟩
  | succ n ih =>
    intro m hm hz hn
    by_cases h0:m=0
    ·exact ⟨m,hm,trim_done xs hw m hm hz (.inl h0)⟩
    by_cases h1:xs.getD (m - 1) 0=0
    ·refine ih (m - 1) (by omega) (fun j h2 h3=>?_) (by omega)
     by_cases h4:j=m - 1
     ·rw [h4];exact h1
     ·exact hz j (by omega) h3
    ·exact ⟨m,hm,trim_done xs hw m hm hz (.inr h1)⟩
 exact h xs.length xs.length (Nat.le_refl _) (fun j h1 h2=>by omega) (Nat.le_refl _)
theorem Gx.Rd.trim {w:World} {ad:Option Addr} {cap:Nat} {xs:List Int} (h:Rd .u32 w ad cap xs):Rd .u32 w ad cap (canon (bval xs)):=by
 obtain ⟨m,hm,e⟩:=canon_take xs (words_of_rd h)
 rw [e];exact h.front m hm
def TrimmedPost (ad:Option Addr) (cap:Nat) (xs:List Int) (w:World) (e:Ending) (w':World):Prop :=
 e=.returned (.slice ad (canon (bval xs)).length cap)/\w=w'
set_option maxHeartbeats 400000 in
theorem trimmed_any (ad:Option Addr) (cap:Nat) (xs:List Int) (w:World) (h:Rd .u32 w ad cap xs) (hl:xs.length<=1099511627776) :
 Calls Tryz.prog 157 #[.slice ad xs.length cap] w (TrimmedPost ad cap xs w):=by
 have hw:=words_of_rd h
 by_cases h0:xs.length=0
 ·obtain rfl:xs=[]:=List.eq_nil_of_length_eq_zero h0
  go_enter Tryz.func157,Tryz.ntmps157
  go_wp2
  refine wp_loop_rounds 1 ?_
  rw [rounds_succ]
  go_wp2
  go_ret
  exact ⟨rfl,rfl⟩
 obtain ⟨b,off,rfl,-,hc⟩:=h.addr (by omega)
 have hnc:=h.ncap
 have h63:=h.cap63
 have HC:=Lib.hid hc
 have HW:=Lib.hid hw
 clear hc hw h h0
 go_enter Tryz.func157,Tryz.ntmps157
 go_wp2
 go_loop [0] (fun v=>∃ m:Nat,m<=xs.length/\v=.slice (some ⟨b,off,none⟩) m cap/\Hid (∀ j,m<=j->j<xs.length->xs.getD j 0=0))
  (fun v=>match v with|.slice _ n _=>n|_=>0)
 case atStart=>exact ⟨xs.length,Nat.le_refl _,rfl,fun j h1 h2=>by omega⟩
 case round =>
  obtain ⟨m,hm,rfl,hz⟩:=hrel
  by_cases hm0:m=0
  ·subst hm0
   go_wp2
   go_ret
   have:=trim_done xs HW.out 0 (by omega) hz.out (.inl rfl)
   exact ⟨by rw [this];rfl,rfl⟩
  ·have hc1:=HC.out (m - 1) (by omega)
   obtain ⟨x,hx⟩:∃ x,x=xs.getD (m - 1) 0:=⟨_,rfl⟩
   rw [<-hx] at hc1
   have HX:=Lib.hid hx;clear hx
   have hpos:(0:Int)<(m:Int):=by omega
   by_cases hx0:x=0
   ·subst hx0
    have hb:((0:Int)==0)=true:=rfl
    go_wp2
    go_round
    case rel =>
     refine ⟨m - 1,by omega,rfl,fun j h1 h2=>?_⟩
     by_cases h4:j=m - 1
     ·rw [h4];exact HX.out.symm
     ·exact hz.out j (by omega) h2
    case measure=>simp;omega
   ·have hb:(x==0)=false:=by simpa using hx0
    go_wp2
    go_ret
    have:=trim_done xs HW.out m hm hz.out (.inr (by rw [<-HX.out];exact hx0))
    refine ⟨?_,rfl⟩
    rw [this,List.length_take,Nat.min_eq_left hm];rfl
set_option maxRecDepth 100000
def TwoWords (a b:Int) (w:World) (e:Ending) (w':World):Prop:=e=.returned (.tuple #[.int .u32 a,.int .u32 b])/\w=w'
def borrowOf (x y c:Int):Int:=if x<y+c then 1 else 0
theorem div31 (n:Nat) (h:n<4294967296):n / 2147483648=if n.testBit 31 then 1 else 0:=by
 rw [Nat.testBit_eq_decide_div_mod_eq]
 have h2:n / 2147483648<2:=by omega
 by_cases h1:n / 2 ^ 31 % 2=1
 ·simp only [h1,decide_true,if_true]
  have:(2:Nat) ^ 31=2147483648:=by decide
  rw [this] at h1;omega
 ·simp only [h1,decide_false]
  have:(2:Nat) ^ 31=2147483648:=by decide
  rw [this] at h1;simp;omega
theorem top31 (n:Nat) (h:n<4294967296):n.testBit 31=decide (2147483648<=n):=by
 rw [Nat.testBit_eq_decide_div_mod_eq]
 have:(2:Nat) ^ 31=2147483648:=by decide
 rw [this]
 by_cases h1:2147483648<=n
 ·simp [h1];omega
 ·simp [h1];omega
theorem borrow_nat (x y c d:Nat) (hx:x<4294967296) (hy:y<4294967296) (hc:c<=1) (hd:d<4294967296) (e:(x+8589934592 - y - c) % 4294967296=d) :
 (((4294967295 ^^^ x) &&& y) ||| ((4294967295 ^^^ (x ^^^ y)) &&& d)) / 2147483648=if x<y+c then 1 else 0:=by
 have h32:(4294967296:Nat)=2 ^ 32:=by decide
 have hb:(((4294967295 ^^^ x) &&& y) ||| ((4294967295 ^^^ (x ^^^ y)) &&& d))<4294967296:=by
  rw [h32] at *
  exact Nat.or_lt_two_pow (Nat.lt_of_le_of_lt Nat.and_le_right hy) (Nat.lt_of_le_of_lt Nat.and_le_right hd)
 rw [div31 _ hb]
 have hm:Nat.testBit 4294967295 31=true:=by decide
 simp only [Nat.testBit_or,Nat.testBit_and,Nat.testBit_xor,hm,top31 x hx,top31 y hy,top31 d hd]
 by_cases h1:2147483648<=x<;>by_cases h2:2147483648<=y<;>by_cases h3:2147483648<=d<;>by_cases h4:x<y+c<;>simp [h1,h2,h3,h4]<;>omega
theorem borrow_word (x y c:Int) (hx:0<=x) (hx':x<=4294967295) (hy:0<=y) (hy':y<=4294967295) (hc:0<=c) (hc':c<=1) :
 bits BinOp.or IntKind.u32 (bits BinOp.and IntKind.u32 (bits BinOp.xor IntKind.u32 IntKind.u32.max x) y)
  (bits BinOp.and IntKind.u32 (bits BinOp.xor IntKind.u32 IntKind.u32.max (bits BinOp.xor IntKind.u32 x y)) ((x - y - c) % 4294967296)) / 2147483648=borrowOf x y c:=by
 obtain ⟨x,rfl⟩:=Int.eq_ofNat_of_zero_le hx
 obtain ⟨y,rfl⟩:=Int.eq_ofNat_of_zero_le hy
 obtain ⟨c,rfl⟩:=Int.eq_ofNat_of_zero_le hc
 obtain ⟨d,hd⟩:∃ d:Nat,d=(x+8589934592 - y - c) % 4294967296:=⟨_,rfl⟩
 have e:(((x:Int) - y - c) % 4294967296)=(d:Int):=by omega
 have em:IntKind.u32.max=((4294967295:Nat):Int):=by decide
 have hd2:d<4294967296:=by omega
 have h32:(4294967296:Nat)=2 ^ 32:=by decide
 have hM:(4294967295:Nat)<4294967296:=by decide
 have h1:(4294967295 ^^^ x)<4294967296:=by rw [h32];exact Nat.xor_lt_two_pow (by decide) (by omega)
 have h2:(x ^^^ y)<4294967296:=by rw [h32];exact Nat.xor_lt_two_pow (by omega) (by omega)
 have h3:(4294967295 ^^^ (x ^^^ y))<4294967296:=by rw [h32];exact Nat.xor_lt_two_pow (by decide) (by rw [<-h32];exact h2)
 have h4:(4294967295 ^^^ x) &&& y<4294967296:=Nat.lt_of_le_of_lt Nat.and_le_right (by omega)
 have h5:(4294967295 ^^^ (x ^^^ y)) &&& d<4294967296:=Nat.lt_of_le_of_lt Nat.and_le_right (by omega)
 rw [e,em,u32_xor_nat _ _ hM (by omega),u32_xor_nat _ _ (by omega) (by omega),u32_xor_nat _ _ hM h2,u32_and_nat _ _ h1 (by omega),u32_and_nat _ _ h3 hd2,u32_or_nat _ _ h4 h5]
 have:=borrow_nat x y c d (by omega) (by omega) (by omega) hd2 hd.symm
 unfold borrowOf
 by_cases h:x<y+c
 ·rw [if_pos h] at this;rw [if_pos (by omega)];omega
 ·rw [if_neg h] at this;rw [if_neg (by omega)];omega
set_option maxHeartbeats 400000 in
theorem add32_any (x y c:Int) (w:World) (hx:0<=x) (hx':x<=4294967295) (hy:0<=y) (hy':y<=4294967295) (hc:0<=c) (hc':c<=1) :
 Calls Tryz.prog 182 #[.int .u32 x,.int .u32 y,.int .u32 c] w (TwoWords ((x+y+c) % 4294967296) ((x+y+c) / 4294967296) w):=by
 go_enter Tryz.func182,Tryz.ntmps182
 go_wp2
 go_ret2
 exact ⟨rfl,rfl⟩
set_option maxHeartbeats 400000 in
theorem sub32_any (x y c:Int) (w:World) (hx:0<=x) (hx':x<=4294967295) (hy:0<=y) (hy':y<=4294967295) (hc:0<=c) (hc':c<=1) :
 Calls Tryz.prog 203 #[.int .u32 x,.int .u32 y,.int .u32 c] w (TwoWords ((x - y - c) % 4294967296) (borrowOf x y c) w):=by
 have H:=Lib.hid (borrow_word x y c hx hx' hy hy' hc hc')
 go_enter Tryz.func203,Tryz.ntmps203
 go_wp2
 go_ret2
 refine ⟨?_,rfl⟩
 rw [<-H.out];rfl
set_option maxRecDepth 100000
theorem Tryz.info_u32:(Tryz.prog.info? 145).map (fun i=>(i.zero,i.size,i.bytes))=some (some (.int .u32 0),1,4):=by kernel_rfl
theorem bval_take_succ (l:List Int) (k:Nat):bval (l.take (k+1))=bval (l.take k)+4294967296 ^ k * (l.getD k 0).toNat:=by
 by_cases h:k<l.length
 ·rw [List.take_succ_eq_append_getElem h,bval_append]
  simp [bval,List.getD,List.getElem?_eq_getElem h,Nat.min_eq_left (Nat.le_of_lt h)]
 ·rw [List.take_of_length_le (by omega),List.take_of_length_le (by omega)]
  simp [List.getD,List.getElem?_eq_none (show l.length<=k by omega)]
theorem words_getD {l:List Int} (h:Words l) (k:Nat):0<=l.getD k 0/\l.getD k 0<=4294967295:=by
 by_cases hk:k<l.length
 ·have:=h _ (List.getElem_mem hk)
  simp [List.getD,List.getElem?_eq_getElem hk];omega
 ·simp [List.getD,List.getElem?_eq_none (show l.length<=k by omega)]
theorem wf_words {l:List Int} (h:Words l):∀ x∈l,(Lit.int .u32 x).wf=true:=by
 intro x hx
 have:=h x hx
 simp [Lit.wf,IntKind.min,IntKind.max,IntKind.signed,IntKind.bits]
 omega
def WordsPost (n:Nat) (w:World) (e:Ending) (w':World):Prop :=
 ∃ ad cap,e=.returned (.slice ad (canon n).length cap)/\Rd .u32 w' ad cap (canon n)/\Below w.heap.size w w'
set_option maxHeartbeats 400000 in
theorem bigTrim_any (ad:Option Addr) (cap:Nat) (xs:List Int) (w:World) (h:Rd .u32 w ad cap xs) (hl:xs.length<=1073741824) :
 Calls Tryz.prog 149 #[.slice ad xs.length cap] w (WordsPost (bval xs) w):=by
 have hlen:(canon (bval xs)).length<=1073741824:=by
  obtain ⟨m,hm,e⟩:=canon_take xs (words_of_rd h)
  rw [e];simp;omega
 obtain ⟨s1,s2,s3,s4⟩:=h.trim.src
 have S2:=Lib.hid s2
 have S3:=Lib.hid s3
 have S4:=Lib.hid s4
 have H:=Lib.hid h
 clear s1 s2 s3 s4 h
 go_enter Tryz.func149,Tryz.ntmps149
 go_wp2_with (first
  | (go_at_call 157;refine (trimmed_any ad cap xs w H.out (by omega)).mono ?_;rintro e w' ⟨rfl,rfl⟩)
  | (at_builtin;refine Gx.wpList_append_all w rfl _ _ 169 rfl w.heap.size 145 (.int .u32 0) 1 4 Tryz.underlying169 Tryz.info_u32 rfl (by decide) _ 0 [] ad _ cap ((canon (bval xs)).map (Value.int .u32)) rfl rfl (World.ownsRow_nil _ _ _ _) (by simp) S2.out S3.out S4.out ?_ ?_ (Nat.le_refl _) ?_))
 ·omega
 ·omega
 intro v' w' hown hg _
 have hb:Below w.heap.size w w':=Gx.grown_below hg (Nat.le_refl _) (by simp [Value.ownBlock])
 obtain ⟨ad',cap',rfl,hr⟩:=Gx.Rd.own (k:=.u32) (xs:=canon (bval xs)) (by simpa using hown) (wf_words (canon_words _))
 clear hown hg
 go_wp2
 go_ret
 exact ⟨ad',cap',rfl,hr,hb⟩
end Go.Proofs.YtldhmfkojaekfaaGreatDoor
