/-
  Lemmas for the statement: plain laws, and what functions answer; the conditions stand in each.
-/
import Derived.Test.YtldhmfkojaekfaaGreatDoorProg
import Derived.WalkLawsBesides
import Derived.Deep.DeepFit
import Derived.Shelf.Unicode.PredsPay
import Derived.Lib.ItoaNum
import Derived.Laws.Externs
import Derived.WalkKit
import Derived.Lib.Strings
import Derived.Lib.IndexBytes
import Derived.Lib.Bytealg
import Derived.Lib.OthersKept
import Derived.Test.YtldhmfkojaekfaaGreatDoorMeanTwiceAllPartM
set_option linter.unusedVariables false
set_option linter.unusedSimpArgs false
namespace Go.Proofs.YtldhmfkojaekfaaGreatDoor
open Go.RowKit Gx
set_option maxRecDepth 100000
theorem readEnd_in (m:Bool) (x:Option (Int×Nat×Int)):-9223372036854775808<=(readEnd m x).1/\(readEnd m x).1<=9223372036854775807:=by
 unfold readEnd
 cases x with
 | none=>exact ⟨show -9223372036854775808<=(0:Int) by decide,show (0:Int)<=9223372036854775807 by decide⟩
 | some p =>
   obtain ⟨y,n,o⟩:=p
   simp only []
   split
   ·exact ⟨by decide,by decide⟩
   ·split
    ·exact ⟨by decide,by decide⟩
    ·rename_i h
     have hn:n<=limitOf m:=by omega
     unfold limitOf at hn
     cases m with
     | true=>simp only [if_true] at hn ⊢;omega
     | false=>simp only [Bool.false_eq_true,if_false] at hn ⊢;omega
theorem readOf_in (l:List UInt8):-9223372036854775808<=(readOf l).1/\(readOf l).1<=9223372036854775807:=by
 unfold readOf
 split
 ·exact ⟨by decide,by decide⟩
 ·unfold readBy
  split
  ·exact ⟨by decide,by decide⟩
  ·exact readEnd_in _ _
def zeroA:Array Value:=#[.int .i64 0,.int .i64 0,.int .u64 0,.string ⟨#[]⟩,.slice none 0 0,.slice none 0 0]
def WordPost (l:List UInt8) (w:World) (e:Ending) (w':World):Prop:=Below w.heap.size w w' /\
 ((∃ k n f:Int,wordOf l=some (.mk k n f ⟨#[]⟩ [] [])/\(V.mk k n f ⟨#[]⟩ [] []).wf/\e=.returned (.tuple #[.agg #[.int .i64 k,.int .i64 n,.int .u64 f,.string ⟨#[]⟩,.slice none 0 0,.slice none 0 0],.int .i64 0])) \/
  (wordOf l=none/\∃ c:Int,c≠0/\e=.returned (.tuple #[.agg #[.int .i64 0,.int .i64 0,.int .u64 0,.string ⟨#[]⟩,.slice none 0 0,.slice none 0 0],.int .i64 c])))
theorem wf_bare {k n f:Int} (k0:-9223372036854775808<=k) (k1:k<=9223372036854775807) (n0:-9223372036854775808<=n) (n1:n<=9223372036854775807) (f0:0<=f) (f1:f<=18446744073709551615):(V.mk k n f ⟨#[]⟩ [] []).wf:=⟨k0,k1,n0,n1,f0,f1,by show (0:Nat)<=140737488351232;decide⟩
set_option maxHeartbeats 8000000 in
theorem word_any (s:ByteArray) (w:World):Calls Tryz.prog 84 #[.string s] w (WordPost s.data.toList w):=by
 have htl:s.data.toList=s.toList:=(ByteArray.toList_eq s).symm
 have hb0:=(Below.refl w.heap.size w).alloc (Nat.le_refl _) (.cells #[.int .i64 0,.int .i64 0,.int .u64 0,.string ⟨#[]⟩,.slice none 0 0,.slice none 0 0] 26)
 have hr0:=heap_alloc_new w (.cells #[.int .i64 0,.int .i64 0,.int .u64 0,.string ⟨#[]⟩,.slice none 0 0,.slice none 0 0] 26)
 have HBY:=Lib.hid (fun (k n f:Int) (h:wordOf s.data.toList=some (.mk k n f ⟨#[]⟩ [] []))=>h)
 have HNO:=Lib.hid (fun (h:wordOf s.data.toList=none)=>h)
 have HTL:=Lib.hid htl
 clear htl
 go_enter Tryz.func84,Tryz.ntmps84
 go_upto_region 1 with fail
 generalize hw1:World.alloc w _=w1 at hb0 hr0 ⊢
 clear hw1
 have HB1:=Lib.hid hb0
 have HR1:=Lib.hid hr0
 clear hb0 hr0
 cases c0:(s.toList==[110,117,108,108]) with
 | true =>
   have hw:wordOf s.data.toList=some (.mk 0 0 0 ⟨#[]⟩ [] []):=by rw [HTL.out,beq_iff_eq.1 c0];rfl
   obtain ⟨W9,hW9,hr9,-,-,hbw,-⟩:=six_all HR1.out (.int .i64 0) (.int .i64 0) (.int .u64 0) (.string ⟨#[]⟩) (.slice none 0 0) (.slice none 0 0)
   obtain ⟨g0,g1,g2,g3,g4,g5,gf⟩:=six_cells HR1.out
   have gf0:=gf 0
   have gf1:=gf 1
   have gf2:=gf 2
   have gf3:=gf 3
   have gf4:=gf 4
   have gf5:=gf 5
   obtain ⟨q0,q1,q2,q3,q4,q5,-⟩:=six_cells hr9
   have HW9:=Lib.hid hW9
   have HR:Hid (WordPost s.data.toList w (.returned (.tuple #[.agg #[.int .i64 0,.int .i64 0,.int .u64 0,.string ⟨#[]⟩,.slice none 0 0,.slice none 0 0],.int .i64 0])) W9):=Lib.hid ⟨hbw _ _ HB1.out (Nat.le_refl _),.inl ⟨0,0,0,hw,wf_bare (by decide) (by decide) (by decide) (by decide) (by decide) (by decide),rfl⟩⟩
   clear hW9 hr9 hbw gf HBY HNO
   go_wp2_with fail
   rw [<-HW9.out]
   exact bodyPost_ret (v:=.tuple #[.agg #[.int .i64 0,.int .i64 0,.int .u64 0,.string ⟨#[]⟩,.slice none 0 0,.slice none 0 0],.int .i64 0]) (by simp [results,Tryz.results84,go_sem,q0,q1,q2,q3,q4,q5]) rfl HR.out
 | false =>
   have n0:¬ s.data.toList=nullT:=by rw [HTL.out];exact beq_eq_false_iff_ne.1 c0
   cases c1:(s.toList==[116,114,117,101]) with
   | true =>
     have hw:wordOf s.data.toList=some (.mk 1 1 0 ⟨#[]⟩ [] []):=by rw [HTL.out,beq_iff_eq.1 c1];rfl
     obtain ⟨W9,hW9,hr9,-,-,hbw,-⟩:=six_all HR1.out (.int .i64 1) (.int .i64 1) (.int .u64 0) (.string ⟨#[]⟩) (.slice none 0 0) (.slice none 0 0)
     obtain ⟨g0,g1,g2,g3,g4,g5,gf⟩:=six_cells HR1.out
     have gf0:=gf 0
     have gf1:=gf 1
     have gf2:=gf 2
     have gf3:=gf 3
     have gf4:=gf 4
     have gf5:=gf 5
     obtain ⟨q0,q1,q2,q3,q4,q5,-⟩:=six_cells hr9
     have HW9:=Lib.hid hW9
     have HR:Hid (WordPost s.data.toList w (.returned (.tuple #[.agg #[.int .i64 1,.int .i64 1,.int .u64 0,.string ⟨#[]⟩,.slice none 0 0,.slice none 0 0],.int .i64 0])) W9):=Lib.hid ⟨hbw _ _ HB1.out (Nat.le_refl _),.inl ⟨1,1,0,hw,wf_bare (by decide) (by decide) (by decide) (by decide) (by decide) (by decide),rfl⟩⟩
     clear hW9 hr9 hbw gf HBY HNO
     go_wp2_with fail
     rw [<-HW9.out]
     exact bodyPost_ret (v:=.tuple #[.agg #[.int .i64 1,.int .i64 1,.int .u64 0,.string ⟨#[]⟩,.slice none 0 0,.slice none 0 0],.int .i64 0]) (by simp [results,Tryz.results84,go_sem,q0,q1,q2,q3,q4,q5]) rfl HR.out
   | false =>
     have n1:¬ s.data.toList=trueT:=by rw [HTL.out];exact beq_eq_false_iff_ne.1 c1
     cases c2:(s.toList==[102,97,108,115,101]) with
     | true =>
       have hw:wordOf s.data.toList=some (.mk 1 0 0 ⟨#[]⟩ [] []):=by rw [HTL.out,beq_iff_eq.1 c2];rfl
       obtain ⟨W9,hW9,hr9,-,-,hbw,-⟩:=six_all HR1.out (.int .i64 1) (.int .i64 0) (.int .u64 0) (.string ⟨#[]⟩) (.slice none 0 0) (.slice none 0 0)
       obtain ⟨g0,g1,g2,g3,g4,g5,gf⟩:=six_cells HR1.out
       have gf0:=gf 0
       have gf1:=gf 1
       have gf2:=gf 2
       have gf3:=gf 3
       have gf4:=gf 4
       have gf5:=gf 5
       obtain ⟨q0,q1,q2,q3,q4,q5,-⟩:=six_cells hr9
       have HW9:=Lib.hid hW9
       have HR:Hid (WordPost s.data.toList w (.returned (.tuple #[.agg #[.int .i64 1,.int .i64 0,.int .u64 0,.string ⟨#[]⟩,.slice none 0 0,.slice none 0 0],.int .i64 0])) W9):=Lib.hid ⟨hbw _ _ HB1.out (Nat.le_refl _),.inl ⟨1,0,0,hw,wf_bare (by decide) (by decide) (by decide) (by decide) (by decide) (by decide),rfl⟩⟩
       clear hW9 hr9 hbw gf HBY HNO
       go_wp2_with fail
       rw [<-HW9.out]
       exact bodyPost_ret (v:=.tuple #[.agg #[.int .i64 1,.int .i64 0,.int .u64 0,.string ⟨#[]⟩,.slice none 0 0,.slice none 0 0],.int .i64 0]) (by simp [results,Tryz.results84,go_sem,q0,q1,q2,q3,q4,q5]) rfl HR.out
     | false =>
       have n2:¬ s.data.toList=falseT:=by rw [HTL.out];exact beq_eq_false_iff_ne.1 c2
       have hwd:wordOf s.data.toList=if (readOf s.data.toList).2=0 then some (.mk 2 (readOf s.data.toList).1 0 ⟨#[]⟩ [] []) else if (readOf s.data.toList).2=4 then (floatOf s.data.toList).map fun x:Nat=>V.mk 3 0 (x:Int) ⟨#[]⟩ [] [] else none:=by
        unfold wordOf
        rw [if_neg n0,if_neg n1,if_neg n2]
       have hin:=readOf_in s.data.toList
       have HRD:=Lib.hid (read_any s w1)
       unfold YtldhmfkojaekfaaGreatDoor.ReadPost at HRD
       obtain ⟨⟨n,er⟩,hr⟩:∃ r,readOf s.data.toList=r:=⟨_,rfl⟩
       rw [hr] at hwd hin HRD
       have HWD:=Lib.hid hwd
       obtain ⟨hin0,hin1⟩:=hin
       simp only at hin0 hin1
       clear n0 n1 n2 hwd hr
       go_wp2_with fail
       (with_reducible refine HRD.out.mono ?_)
       rintro e w2 ⟨rfl,hb2⟩
       have HB2:=Lib.hid (HB1.out.trans (hb2.mono HB1.out.size))
       have HR2:Hid (w2.heap[w.heap.size]?=some (.cells #[.int .i64 0,.int .i64 0,.int .u64 0,.string ⟨#[]⟩,.slice none 0 0,.slice none 0 0] 26)):=Lib.hid ((hb2.block _ (Array.getElem?_eq_some_iff.1 HR1.out).1).trans HR1.out)
       clear hb2 HRD
       simp only at HWD ⊢
       by_cases h0:er=0
       ·subst h0
        have hw:wordOf s.data.toList=some (.mk 2 n 0 ⟨#[]⟩ [] []):=by rw [HWD.out,if_pos rfl]
        obtain ⟨W9,hW9,hr9,-,-,hbw,-⟩:=six_all HR2.out (.int .i64 2) (.int .i64 n) (.int .u64 0) (.string ⟨#[]⟩) (.slice none 0 0) (.slice none 0 0)
        obtain ⟨g0,g1,g2,g3,g4,g5,gf⟩:=six_cells HR2.out
        have gf0:=gf 0
        have gf1:=gf 1
        have gf2:=gf 2
        have gf3:=gf 3
        have gf4:=gf 4
        have gf5:=gf 5
        obtain ⟨q0,q1,q2,q3,q4,q5,-⟩:=six_cells hr9
        have HW9:=Lib.hid hW9
        have HR:Hid (WordPost s.data.toList w (.returned (.tuple #[.agg #[.int .i64 2,.int .i64 n,.int .u64 0,.string ⟨#[]⟩,.slice none 0 0,.slice none 0 0],.int .i64 0])) W9):=Lib.hid ⟨hbw _ _ HB2.out (Nat.le_refl _),.inl ⟨2,n,0,hw,wf_bare (by decide) (by decide) hin0 hin1 (by decide) (by decide),rfl⟩⟩
        clear hW9 hr9 hbw gf HBY HNO
        go_wp2_with fail
        rw [<-HW9.out]
        exact bodyPost_ret (v:=.tuple #[.agg #[.int .i64 2,.int .i64 n,.int .u64 0,.string ⟨#[]⟩,.slice none 0 0,.slice none 0 0],.int .i64 0]) (by simp [results,Tryz.results84,go_sem,q0,q1,q2,q3,q4,q5]) rfl HR.out
       have t0:(er==0)=false:=beq_eq_false_iff_ne.2 h0
       by_cases h4:er=4
       rotate_left
       ·have t4:(er==4)=false:=beq_eq_false_iff_ne.2 h4
        have hw:wordOf s.data.toList=none:=by rw [HWD.out,if_neg h0,if_neg h4]
        obtain ⟨W9,hW9,hr9,-,-,hbw,-⟩:=six_all HR2.out (.int .i64 0) (.int .i64 0) (.int .u64 0) (.string ⟨#[]⟩) (.slice none 0 0) (.slice none 0 0)
        obtain ⟨g0,g1,g2,g3,g4,g5,gf⟩:=six_cells HR2.out
        have gf0:=gf 0
        have gf1:=gf 1
        have gf2:=gf 2
        have gf3:=gf 3
        have gf4:=gf 4
        have gf5:=gf 5
        obtain ⟨q0,q1,q2,q3,q4,q5,-⟩:=six_cells hr9
        have HW9:=Lib.hid hW9
        have HR:Hid (WordPost s.data.toList w (.returned (.tuple #[.agg #[.int .i64 0,.int .i64 0,.int .u64 0,.string ⟨#[]⟩,.slice none 0 0,.slice none 0 0],.int .i64 er])) W9):=Lib.hid ⟨hbw _ _ HB2.out (Nat.le_refl _),.inr ⟨hw,er,h0,rfl⟩⟩
        clear hW9 hr9 hbw gf HBY HNO
        go_wp2_with fail
        rw [<-HW9.out]
        exact bodyPost_ret (v:=.tuple #[.agg #[.int .i64 0,.int .i64 0,.int .u64 0,.string ⟨#[]⟩,.slice none 0 0,.slice none 0 0],.int .i64 er]) (by simp [results,Tryz.results84,go_sem,q0,q1,q2,q3,q4,q5]) rfl HR.out
       subst h4
       have HF:=Lib.hid (read_f s w2)
       unfold YtldhmfkojaekfaaGreatDoor.ReadPostF at HF
       clear t0 h0
       go_wp2_with fail
       (with_reducible refine HF.out.mono ?_)
       rintro e w3 ⟨x,er,rfl,hR,hb3⟩
       have HB3:=Lib.hid (HB2.out.trans (hb3.mono HB2.out.size))
       have HR3:Hid (w3.heap[w.heap.size]?=some (.cells #[.int .i64 0,.int .i64 0,.int .u64 0,.string ⟨#[]⟩,.slice none 0 0,.slice none 0 0] 26)):=Lib.hid ((hb3.block _ (Array.getElem?_eq_some_iff.1 HR2.out).1).trans HR2.out)
       clear hb3 HF
       have hx:=(read_kind hR).1
       by_cases h0:er=0
       ·subst h0
        have hw:wordOf s.data.toList=some (.mk 3 0 x ⟨#[]⟩ [] []):=by rw [HWD.out,if_neg (by decide),if_pos (by first|rfl|trivial),float_yes hR];rfl
        have hx0:(0:Int)<=(x:Int):=by omega
        have hx1:(x:Int)<=18446744073709551615:=by omega
        clear hx hR
        obtain ⟨W9,hW9,hr9,-,-,hbw,-⟩:=six_all HR3.out (.int .i64 3) (.int .i64 0) (.int .u64 x) (.string ⟨#[]⟩) (.slice none 0 0) (.slice none 0 0)
        obtain ⟨g0,g1,g2,g3,g4,g5,gf⟩:=six_cells HR3.out
        have gf0:=gf 0
        have gf1:=gf 1
        have gf2:=gf 2
        have gf3:=gf 3
        have gf4:=gf 4
        have gf5:=gf 5
        obtain ⟨q0,q1,q2,q3,q4,q5,-⟩:=six_cells hr9
        have HW9:=Lib.hid hW9
        have HR:Hid (WordPost s.data.toList w (.returned (.tuple #[.agg #[.int .i64 3,.int .i64 0,.int .u64 x,.string ⟨#[]⟩,.slice none 0 0,.slice none 0 0],.int .i64 0])) W9):=Lib.hid ⟨hbw _ _ HB3.out (Nat.le_refl _),.inl ⟨3,0,x,hw,wf_bare (by decide) (by decide) (by decide) (by decide) hx0 hx1,rfl⟩⟩
        clear hW9 hr9 hbw gf HBY HNO
        go_wp2_with fail
        rw [<-HW9.out]
        exact bodyPost_ret (v:=.tuple #[.agg #[.int .i64 3,.int .i64 0,.int .u64 x,.string ⟨#[]⟩,.slice none 0 0,.slice none 0 0],.int .i64 0]) (by simp [results,Tryz.results84,go_sem,q0,q1,q2,q3,q4,q5]) rfl HR.out
       ·have t0:(er==0)=false:=beq_eq_false_iff_ne.2 h0
        have hw:wordOf s.data.toList=none:=by rw [HWD.out,if_neg (by decide),if_pos (by first|rfl|trivial),float_no hR h0];rfl
        clear hx hR
        obtain ⟨W9,hW9,hr9,-,-,hbw,-⟩:=six_all HR3.out (.int .i64 0) (.int .i64 0) (.int .u64 0) (.string ⟨#[]⟩) (.slice none 0 0) (.slice none 0 0)
        obtain ⟨g0,g1,g2,g3,g4,g5,gf⟩:=six_cells HR3.out
        have gf0:=gf 0
        have gf1:=gf 1
        have gf2:=gf 2
        have gf3:=gf 3
        have gf4:=gf 4
        have gf5:=gf 5
        obtain ⟨q0,q1,q2,q3,q4,q5,-⟩:=six_cells hr9
        have HW9:=Lib.hid hW9
        have HR:Hid (WordPost s.data.toList w (.returned (.tuple #[.agg #[.int .i64 0,.int .i64 0,.int .u64 0,.string ⟨#[]⟩,.slice none 0 0,.slice none 0 0],.int .i64 er])) W9):=Lib.hid ⟨hbw _ _ HB3.out (Nat.le_refl _),.inr ⟨hw,er,h0,rfl⟩⟩
        clear hW9 hr9 hbw gf HBY HNO
        go_wp2_with fail
        rw [<-HW9.out]
        exact bodyPost_ret (v:=.tuple #[.agg #[.int .i64 0,.int .i64 0,.int .u64 0,.string ⟨#[]⟩,.slice none 0 0,.slice none 0 0],.int .i64 er]) (by simp [results,Tryz.results84,go_sem,q0,q1,q2,q3,q4,q5]) rfl HR.out
def BTab (w:World):Prop:=w.cell? ⟨7,1,none⟩=some (.int .u8 1)/\w.cell? ⟨7,7,none⟩=some (.int .u8 3)/\w.cell? ⟨7,15,none⟩=some (.int .u8 4)
theorem BTab.keep {w w':World} (h:BTab w) (hb:Below w.heap.size w w'):BTab w':=by
 obtain ⟨h1,h2,h3⟩:=h
 have k:∀ (p:Addr) (v:Value),w.cell? p=some v->w'.cell? p=some v:=by
  intro p v hp
  exact (hb.cell (World.block_lt_of_cell? w p hp)).trans hp
 exact ⟨k _ _ h1,k _ _ h2,k _ _ h3⟩
def lgOf (b:Nat):Nat:=if b=2 then 1 else if b=8 then 3 else 4
set_option maxHeartbeats 1000000 in
theorem zeros_any (b:Nat) (hb:b=2\/b=8\/b=16) (w:World) (hT:BTab w):Calls Tryz.prog 179 #[.int .u64 b] w fun e w'=>e=.returned (.int .i64 (lgOf b:Nat))/\w=w':=by
 obtain ⟨h1,h2,h3⟩:=hT
 rcases hb with rfl|rfl|rfl
 ·have e:IntKind.u64.wrap (bits BinOp.and IntKind.u64 2 (IntKind.u64.wrap (-2)) * 285870213051353865) / 288230376151711744=1:=by decide +kernel
  go_enter Tryz.func179,Tryz.ntmps179
  go_wp2
  go_ret
  exact ⟨rfl,rfl⟩
 ·have e:IntKind.u64.wrap (bits BinOp.and IntKind.u64 8 (IntKind.u64.wrap (-8)) * 285870213051353865) / 288230376151711744=7:=by decide +kernel
  go_enter Tryz.func179,Tryz.ntmps179
  go_wp2
  go_ret
  exact ⟨rfl,rfl⟩
 ·have e:IntKind.u64.wrap (bits BinOp.and IntKind.u64 16 (IntKind.u64.wrap (-16)) * 285870213051353865) / 288230376151711744=15:=by decide +kernel
  go_enter Tryz.func179,Tryz.ntmps179
  go_wp2
  go_ret
  exact ⟨rfl,rfl⟩
set_option maxHeartbeats 400000 in
theorem isPow_any (b:Nat) (hb:b=2\/b=8\/b=16) (w:World):Calls Tryz.prog 178 #[.int .i64 b] w fun e w'=>e=.returned (.bool true)/\w=w':=by
 rcases hb with rfl|rfl|rfl
 ·have e:bits BinOp.and IntKind.i64 2 1=0:=by decide +kernel
  go_enter Tryz.func178,Tryz.ntmps178
  go_wp2
  go_ret
  exact ⟨rfl,rfl⟩
 ·have e:bits BinOp.and IntKind.i64 8 7=0:=by decide +kernel
  go_enter Tryz.func178,Tryz.ntmps178
  go_wp2
  go_ret
  exact ⟨rfl,rfl⟩
 ·have e:bits BinOp.and IntKind.i64 16 15=0:=by decide +kernel
  go_enter Tryz.func178,Tryz.ntmps178
  go_wp2
  go_ret
  exact ⟨rfl,rfl⟩
def BitsPost (x:List UInt8) (w:World) (e:Ending) (w':World):Prop:=e=.returned (.tuple #[.slice none 0 0,.string ⟨x.toArray⟩])/\Below w.heap.size w w'
theorem digF_fuel (b:Nat) (hb:2<=b):∀ (f g u:Nat),u<f->u<g->digF f b u=digF g b u
 | 0,_,u,h,_=>by omega
 | _,0,u,_,h=>by omega
 | f+1,g+1,u,h1,h2=>by
   unfold digF
   by_cases hu:u<b
   ·rw [if_pos hu,if_pos hu]
   ·have:u / b<u:=Nat.div_lt_self (by omega) (by omega)
    rw [if_neg hu,if_neg hu,digF_fuel b hb f g (u / b) (by omega) (by omega)]
theorem dig_big (b v:Nat) (hb:2<=b) (h:b<=v):digF (v+1) b v=digF (v / b+1) b (v / b)++[digB (v % b)]:=by
 have h2:v / b<v:=Nat.div_lt_self (by omega) (by omega)
 conv=>lhs;unfold digF
 rw [if_neg (by omega),digF_fuel b hb v (v / b+1) (v / b) h2 (by omega)]
theorem dig_small (b v:Nat) (h:v<b):digF (v+1) b v=[digB v]:=by
 unfold digF;rw [if_pos h]
theorem room (b v i u0:Nat) (hb:2<=b) (hv:1<=v) (hi:i<=65) (hu:u0<=9223372036854775808) (h:v * b ^ (65 - i)<=u0):2<=i:=by
 rcases Nat.lt_or_ge i 2 with hlt|hge
 ·exfalso
  have h1:2 ^ (65 - i)<=b ^ (65 - i):=Nat.pow_le_pow_left hb _
  have h2:(2:Nat) ^ 64<=2 ^ (65 - i):=Nat.pow_le_pow_right (by decide) (by omega)
  have h3:1 * b ^ (65 - i)<=v * b ^ (65 - i):=Nat.mul_le_mul_right _ hv
  have h4:(2:Nat) ^ 64=18446744073709551616:=by decide
  omega
 ·exact hge
theorem room_next (b v i u0:Nat) (hi:1<=i) (hi2:i<=65) (h:v * b ^ (65 - i)<=u0):v / b * b ^ (65 - (i - 1))<=u0:=by
 rw [show 65 - (i - 1)=65 - i+1 by omega,Nat.pow_succ,Nat.mul_comm (b ^ (65 - i)) b,<-Nat.mul_assoc]
 exact Nat.le_trans (Nat.mul_le_mul_right _ (Nat.div_mul_le_self v b)) h
theorem mask (b:Nat) (hb:b=2\/b=8\/b=16) (v:Nat) (hv:v<18446744073709551616):bits BinOp.and IntKind.u64 (v:Int) ((b:Int) - 1)=((v % b:Nat):Int):=by
 have h64:∀ n:Int,0<=n->n<2 ^ 64->IntKind.u64.wrap n=n:=by
  intro n h0 h1
  have:(2:Int) ^ 64=18446744073709551616:=by decide
  rw [IntKind.wrap_u64];omega
 have e64:(2:Int) ^ 64=18446744073709551616:=by decide
 rcases hb with rfl|rfl|rfl
 ·have h:=bits_mask .u64 64 (by decide) h64 1 (by decide) (v:Int) (by omega) (by rw [e64];omega)
  rw [show ((2:Int) ^ 1 - 1)=((2:Nat):Int) - 1 by decide] at h
  rw [h];simp
 ·have h:=bits_mask .u64 64 (by decide) h64 3 (by decide) (v:Int) (by omega) (by rw [e64];omega)
  rw [show ((2:Int) ^ 3 - 1)=((8:Nat):Int) - 1 by decide] at h
  rw [h];simp
 ·have h:=bits_mask .u64 64 (by decide) h64 4 (by decide) (v:Int) (by omega) (by rw [e64];omega)
  rw [show ((2:Int) ^ 4 - 1)=((16:Nat):Int) - 1 by decide] at h
  rw [h];simp
def digitsText:ByteArray:=⟨#[48,49,50,51,52,53,54,55,56,57,97,98,99,100,101,102,103,104,105,106,107,108,109,110,111,112,113,114,115,116,117,118,119,120,121,122]⟩
theorem digits_at (d:Nat) (h:d<16) (h2:d<digitsText.size):digitsText[d]'h2=digB d:=by
 have key:∀ e:Fin 16,digitsText[e.val]! = digB e.val:=by decide +kernel
 have:=key ⟨d,h⟩
 rw [<-this]
 exact (getElem!_pos digitsText d h2).symm
theorem zero65 (w:World):(zeroValue 224).run Tryz.prog w=.ok (.agg (Array.replicate 65 (Value.int .u8 0))) w:=by kernel_rfl
theorem slice65 (A j:Nat) (hj:j<65) (l:Int) (hl:l=(j:Int)) (w:World) :
 (Instr.sliceAt 224 (.pointer (some ⟨A,0,none⟩)) (some (.int .i64 l)) none none).run Tryz.prog w=.ok (.slice (some ⟨A,j,none⟩) (65 - j) (65 - j)) w:=by
 have ht:Tryz.prog.underlying 224=some (.array (Tryz.prog.arrayLen 224) (Tryz.prog.elem 224)):=by kernel_rfl
 have e1:Tryz.prog.arrayLen 224=65:=by kernel_rfl
 have e2:Tryz.prog.elem 224=5:=by kernel_rfl
 rw [run_sliceAt_array_l w 224 ⟨A,0,none⟩ ht .i64 l (by omega) (by rw [e1];omega),e2,Tryz.sizeOf5]
 have h1:l.toNat=j:=by omega
 have h2:¬ (65=j):=by omega
 simp [Result.andThen,slicedAt,e1,h1,h2,Addr.add]
 intro h;exact h.symm
theorem own_array (w:World):(w.alloc (Obj.cells (Array.replicate 65 (Value.int .u8 0)) 224)).ownsRow w.heap.size 224 1 (.slice (some ⟨w.heap.size,0,none⟩) 65 65) 65 ((List.replicate 65 (0:Int)).map (Value.int .u8)):=by
 refine ⟨by simp,.inr ⟨w.heap.size,65,_,rfl,Nat.le_refl _,heap_alloc_new w _,Nat.le_refl _,by decide,by simp,?_⟩⟩
 simp
set_option maxRecDepth 4000 in
set_option maxHeartbeats 4000000 in
theorem formatBits_any (b:Nat) (hb:b=2\/b=8\/b=16) (u0:Nat) (hu:u0<=9223372036854775808) (neg:Bool) (U:Int) (hU0:neg=false->U=u0) (hU1:neg=true->IntKind.u64.wrap (-U)=u0) (w:World) (hT:BTab w) :
 Calls Tryz.prog 156 #[.slice none 0 0,.int .u64 U,.int .i64 b,.bool neg,.bool false] w (BitsPost ((if neg then [45] else [])++digF (u0+1) b u0) w):=by
 have HZ:=Lib.hid (fun w h=>zeros_any b hb w h)
 have HP:=Lib.hid (fun w=>isPow_any b hb w)
 have HT:=Lib.hid hT
 have hb2:2<=b:=by omega
 have hb16:b<=16:=by omega
 have t1:((b:Int)==10)=false:=by rcases hb with rfl|rfl|rfl<;>rfl
 have t2:decide ((b:Int)<2)=false:=decide_eq_false (by omega)
 have t3:decide ((36:Int)<(b:Int))=false:=decide_eq_false (by omega)
 have HB:=Lib.hid hb
 clear hT hb
 have hz65:=zero65
 have hown:=own_array w
 have hb0:Below w.heap.size w (w.alloc (Obj.cells (Array.replicate 65 (Value.int .u8 0)) 224)):=(Below.refl _ w).alloc (Nat.le_refl _) _
 obtain ⟨w1,hw1⟩:∃ w1,w1=w.alloc (Obj.cells (Array.replicate 65 (Value.int .u8 0)) 224):=⟨_,rfl⟩
 rw [<-hw1] at hown hb0
 have HW1:=Lib.hid hw1
 have hl1:IntKind.u64.wrap ((lgOf b:Nat):Int)=((lgOf b:Nat):Int):=by
  unfold lgOf
  split
  ·rfl
  ·split<;>rfl
 obtain ⟨sh,hsh⟩:∃ sh,sh=lgOf b:=⟨_,rfl⟩
 rw [<-hsh] at hl1 HZ
 have hsh4:sh<=4:=by rw [hsh];unfold lgOf;split<;>(try split)<;>omega
 have hpow:2 ^ sh=b:=by rw [hsh];rcases HB.out with rfl|rfl|rfl<;>rfl
 have HPOW:=Lib.hid hpow
 clear hw1 hsh hpow
 cases neg with
 | false =>
   obtain rfl:=hU0 rfl
   go_enter Tryz.func156,Tryz.ntmps156
   go_wp2_with fail
   rw [<-HW1.out]
   refine (HP.out w1).mono ?_
   rintro e w2 ⟨rfl,rfl⟩
   go_wp2_with fail
   refine (HZ.out w1 (HT.out.keep hb0)).mono ?_
   rintro e w2 ⟨rfl,rfl⟩
   go_wp2_with fail
   go_loopw [1,13] (fun uv iv wr=>∃ (v i:Nat) (cur:List Int),uv=.int .u64 v/\iv=.int .i64 i/\v<=u0/\Hid (cur.length=65)/\i<=65/\Hid (v * b ^ (65 - i)<=u0)/\Hid (v=0->i=65) /\
    wr.ownsRow w.heap.size 224 1 (.slice (some ⟨w.heap.size,0,none⟩) 65 65) 65 (cur.map (Value.int .u8))/\Hid (ints (digF (v+1) b v)++cur.drop i=ints (digF (u0+1) b u0))/\Below w.heap.size w wr)
    (fun uv _ _=>(intOf uv).toNat)
   case atStart=>exact ⟨u0,65,List.replicate 65 0,rfl,rfl,Nat.le_refl _,by simp [Hid],Nat.le_refl _,by show _<=_;simp,fun _=>rfl,hown,by show _=_;simp,hb0⟩
   case round =>
    clear hown hb0
    obtain ⟨v,i,cur,rfl,rfl,hv,hcl,hi,hpw,hvz,hown,hdig,hb1⟩:=hrel
    have hsz:=hb1.size
    have hi2:2<=i:=by
     by_cases h0:v=0
     ·have:=hvz.out h0;omega
     ·exact room b v i u0 hb2 (by omega) hi hu hpw.out
    have hcl':cur.length=65:=hcl.out
    have hcell:∀ j,j<65->∃ y,wr.cell? ⟨w.heap.size,j,none⟩=some (.int .u8 y):=by
     intro j hj
     refine ⟨cur[j],?_⟩
     rw [hown.cellAt j (by omega)]
     simp [List.getElem?_eq_getElem (show j<cur.length by omega)]
    have hj1:((i:Int) - 1).toNat=i - 1:=by omega
    have hj2:(0:Int)<=(i:Int) - 1:=by omega
    have hj3:(i:Int) - 1<65:=by omega
    obtain ⟨y1,hc1⟩:=hcell (i - 1) (by omega)
    have hfz:wr.frozen? ⟨w.heap.size,i - 1,none⟩=false:=hown.frozenAt (i - 1)
    by_cases hvb:b<=v
    ·have hmk:=mask b HB.out v (by omega)
     have hmod:v % b<b:=Nat.mod_lt _ (by omega)
     have hdivlt:v / b<v:=Nat.div_lt_self (by omega) (by omega)
     have hdivpos:1<=v / b:=(Nat.le_div_iff_mul_le (by omega)).2 (by omega)
     have hshr:(v:Int) / 2 ^ sh=((v / b:Nat):Int):=by
      rw [<-HPOW.out,Int.natCast_ediv,Int.natCast_pow];rfl
     have hrn:=room_next b v i u0 (by omega) hi hpw.out
     have hdg:=hdig.out
     rw [dig_big b v hb2 hvb,ints_append,List.append_assoc] at hdg
     obtain ⟨d,hd⟩:∃ d,d=v % b:=⟨_,rfl⟩
     obtain ⟨q,hq⟩:∃ q,q=v / b:=⟨_,rfl⟩
     rw [<-hd] at hmk hdg hmod
     rw [<-hq] at hshr hrn hdg hdivlt hdivpos
     have hd16:d<16:=by omega
     have hdt:∀ h:d<digitsText.size,(digitsText[d]'h).toNat=(digB d).toNat:=fun h=>by rw [digits_at d hd16 h]
     unfold digitsText at hdt
     obtain ⟨x,hx⟩:∃ x:Nat,x=(digB d).toNat:=⟨_,rfl⟩
     have hxi:ints [digB d]=[(x:Int)]:=by rw [hx];rfl
     rw [hxi] at hdg
     rw [<-hx] at hdt
     have hx256:x<256:=by rw [hx];exact UInt8.toNat_lt _
     have hst:=hown.stored (i - 1) (.int .u8 (x:Int))
     have hon:(wr.setCell ⟨w.heap.size,i - 1,none⟩ (.int .u8 (x:Int))).ownsRow w.heap.size 224 1 (.slice (some ⟨w.heap.size,0,none⟩) 65 65) 65 ((cur.set (i - 1) (x:Int)).map (Value.int .u8)):=by
      rw [List.map_set];exact hst.1
     have hbn:Below w.heap.size w (wr.setCell ⟨w.heap.size,i - 1,none⟩ (.int .u8 (x:Int))):=hb1.grown hst.2 hsz (fun q e=>by cases e;exact Nat.le_refl _)
     have hdn:Hid (ints (digF (q+1) b q)++(cur.set (i - 1) (x:Int)).drop (i - 1)=ints (digF (u0+1) b u0)):=by
      show _=_
      rw [<-hdg,List.drop_eq_getElem_cons (show i - 1<(cur.set (i - 1) (x:Int)).length by rw [List.length_set];omega),List.getElem_set_self,List.drop_set_of_lt (by omega),show i - 1+1=i by omega]
      rfl
     have hln:Hid ((cur.set (i - 1) (x:Int)).length=65):=by show _=_;rw [List.length_set];exact hcl'
     have HON:=Lib.hid hon
     have HBN:=Lib.hid hbn
     have HRN:=Lib.hid hrn
     have hvbd:decide ((b:Int)<=(v:Int))=true:=decide_eq_true (by omega)
     have hqz:Hid (q=0->i - 1=65):=fun h=>by omega
     clear hd hq hx hxi hdg hst hon hbn hown hcell hcl' hrn
     go_wp2_with fail
     go_roundw
     case rel=>exact ⟨q,i - 1,cur.set (i - 1) (x:Int),rfl,by congr 1<;>omega,by omega,hln,by omega,HRN.out,hqz,HON.out,hdn,HBN.out⟩
     case measure=>simp [intOf];omega
    ·have hvlt:v<b:=by omega
     have hvbd:decide ((b:Int)<=(v:Int))=false:=decide_eq_false (by omega)
     have hdg:=hdig.out
     rw [dig_small b v hvlt] at hdg
     have hd16:v<16:=by omega
     have hdt:∀ h:v<digitsText.size,(digitsText[v]'h).toNat=(digB v).toNat:=fun h=>by rw [digits_at v hd16 h]
     unfold digitsText at hdt
     obtain ⟨x,hx⟩:∃ x:Nat,x=(digB v).toNat:=⟨_,rfl⟩
     have hxi:ints [digB v]=[(x:Int)]:=by rw [hx];rfl
     rw [hxi] at hdg
     rw [<-hx] at hdt
     obtain ⟨D,hD⟩:∃ D,D=digF (u0+1) b u0:=⟨_,rfl⟩
     rw [<-hD] at hdg
     have HDD:=Lib.hid hD
     have hst:=hown.stored (i - 1) (.int .u8 (x:Int))
     have hon:(wr.setCell ⟨w.heap.size,i - 1,none⟩ (.int .u8 (x:Int))).ownsRow w.heap.size 224 1 (.slice (some ⟨w.heap.size,0,none⟩) 65 65) 65 ((cur.set (i - 1) (x:Int)).map (Value.int .u8)):=by
      rw [List.map_set];exact hst.1
     have hbn:Below w.heap.size w (wr.setCell ⟨w.heap.size,i - 1,none⟩ (.int .u8 (x:Int))):=hb1.grown hst.2 hsz (fun q e=>by cases e;exact Nat.le_refl _)
     have hdrop:(cur.set (i - 1) (x:Int)).drop (i - 1)=ints D:=by
      rw [<-hdg,List.drop_eq_getElem_cons (show i - 1<(cur.set (i - 1) (x:Int)).length by rw [List.length_set];omega),List.getElem_set_self,List.drop_set_of_lt (by omega),show i - 1+1=i by omega]
      rfl
     have hDl:D.length=65 - (i - 1):=by
      have:=congrArg List.length hdrop
      unfold ints at this
      rw [List.length_drop,List.length_set,List.length_map,hcl'] at this
      omega
     have hlen2:(cur.set (i - 1) (x:Int)).length=65:=by rw [List.length_set];exact hcl'
     obtain ⟨cur2,hcur2⟩:∃ c,c=cur.set (i - 1) (x:Int):=⟨_,rfl⟩
     rw [<-hcur2] at hon hdrop hlen2
     obtain ⟨wz,hwz⟩:∃ wz,wz=wr.setCell ⟨w.heap.size,i - 1,none⟩ (.int .u8 (x:Int)):=⟨_,rfl⟩
     rw [<-hwz] at hon hbn
     have hby:∀ j (hj:j<D.length),wz.cell? ((⟨w.heap.size,i - 1,none⟩:Addr).add j)=some (.int .u8 (D[j].toNat:Int)):=by
      intro j hj
      rw [Addr.add_lit,hon.cellAt (i - 1+j) (by omega),List.getElem?_map]
      have h2:cur2[i - 1+j]?=some ((D[j].toNat:Nat):Int):=by
       rw [<-List.getElem?_drop,hdrop]
       unfold ints
       rw [List.getElem?_map,List.getElem?_eq_getElem hj];rfl
      rw [h2];rfl
     have hcv:=run_convert_bytes_back (P:=Tryz.prog) wz 72 9 5 ⟨w.heap.size,i - 1,none⟩ (65 - (i - 1)) D Tryz.underlying72 Tryz.underlying5 Tryz.underlying9 hby
     rw [hDl] at hcv
     rw [hwz] at hcv
     have hsl:=slice65 w.heap.size (i - 1) (by omega) ((i:Int) - 1) (by omega)
     have HBN:=Lib.hid hbn
     have HWZ:=Lib.hid hwz
     clear hD hx hxi hdg hst hon hown hcell hdrop hDl hlen2 hcur2 hby hwz hbn hcl'
     go_wp2_with fail
     go_ret2
     refine ⟨by rw [<-HDD.out];rfl,?_⟩
     rw [<-HWZ.out];exact HBN.out
 | true =>
   have hw:=hU1 rfl
   go_enter Tryz.func156,Tryz.ntmps156
   go_wp2_with fail
   rw [<-HW1.out]
   refine (HP.out w1).mono ?_
   rintro e w2 ⟨rfl,rfl⟩
   go_wp2_with fail
   refine (HZ.out w1 (HT.out.keep hb0)).mono ?_
   rintro e w2 ⟨rfl,rfl⟩
   go_wp2_with fail
   go_loopw [1,13] (fun uv iv wr=>∃ (v i:Nat) (cur:List Int),uv=.int .u64 v/\iv=.int .i64 i/\v<=u0/\Hid (cur.length=65)/\i<=65/\Hid (v * b ^ (65 - i)<=u0)/\Hid (v=0->i=65) /\
    wr.ownsRow w.heap.size 224 1 (.slice (some ⟨w.heap.size,0,none⟩) 65 65) 65 (cur.map (Value.int .u8))/\Hid (ints (digF (v+1) b v)++cur.drop i=ints (digF (u0+1) b u0))/\Below w.heap.size w wr)
    (fun uv _ _=>(intOf uv).toNat)
   case atStart=>exact ⟨u0,65,List.replicate 65 0,rfl,rfl,Nat.le_refl _,by simp [Hid],Nat.le_refl _,by show _<=_;simp,fun _=>rfl,hown,by show _=_;simp,hb0⟩
   case round =>
    clear hown hb0
    obtain ⟨v,i,cur,rfl,rfl,hv,hcl,hi,hpw,hvz,hown,hdig,hb1⟩:=hrel
    have hsz:=hb1.size
    have hi2:2<=i:=by
     by_cases h0:v=0
     ·have:=hvz.out h0;omega
     ·exact room b v i u0 hb2 (by omega) hi hu hpw.out
    have hcl':cur.length=65:=hcl.out
    have hcell:∀ j,j<65->∃ y,wr.cell? ⟨w.heap.size,j,none⟩=some (.int .u8 y):=by
     intro j hj
     refine ⟨cur[j],?_⟩
     rw [hown.cellAt j (by omega)]
     simp [List.getElem?_eq_getElem (show j<cur.length by omega)]
    have hj1:((i:Int) - 1).toNat=i - 1:=by omega
    have hj2:(0:Int)<=(i:Int) - 1:=by omega
    have hj3:(i:Int) - 1<65:=by omega
    obtain ⟨y1,hc1⟩:=hcell (i - 1) (by omega)
    have hfz:wr.frozen? ⟨w.heap.size,i - 1,none⟩=false:=hown.frozenAt (i - 1)
    by_cases hvb:b<=v
    ·have hmk:=mask b HB.out v (by omega)
     have hmod:v % b<b:=Nat.mod_lt _ (by omega)
     have hdivlt:v / b<v:=Nat.div_lt_self (by omega) (by omega)
     have hdivpos:1<=v / b:=(Nat.le_div_iff_mul_le (by omega)).2 (by omega)
     have hshr:(v:Int) / 2 ^ sh=((v / b:Nat):Int):=by
      rw [<-HPOW.out,Int.natCast_ediv,Int.natCast_pow];rfl
     have hrn:=room_next b v i u0 (by omega) hi hpw.out
     have hdg:=hdig.out
     rw [dig_big b v hb2 hvb,ints_append,List.append_assoc] at hdg
     obtain ⟨d,hd⟩:∃ d,d=v % b:=⟨_,rfl⟩
     obtain ⟨q,hq⟩:∃ q,q=v / b:=⟨_,rfl⟩
     rw [<-hd] at hmk hdg hmod
     rw [<-hq] at hshr hrn hdg hdivlt hdivpos
     have hd16:d<16:=by omega
     have hdt:∀ h:d<digitsText.size,(digitsText[d]'h).toNat=(digB d).toNat:=fun h=>by rw [digits_at d hd16 h]
     unfold digitsText at hdt
     obtain ⟨x,hx⟩:∃ x:Nat,x=(digB d).toNat:=⟨_,rfl⟩
     have hxi:ints [digB d]=[(x:Int)]:=by rw [hx];rfl
     rw [hxi] at hdg
     rw [<-hx] at hdt
     have hx256:x<256:=by rw [hx];exact UInt8.toNat_lt _
     have hst:=hown.stored (i - 1) (.int .u8 (x:Int))
     have hon:(wr.setCell ⟨w.heap.size,i - 1,none⟩ (.int .u8 (x:Int))).ownsRow w.heap.size 224 1 (.slice (some ⟨w.heap.size,0,none⟩) 65 65) 65 ((cur.set (i - 1) (x:Int)).map (Value.int .u8)):=by
      rw [List.map_set];exact hst.1
     have hbn:Below w.heap.size w (wr.setCell ⟨w.heap.size,i - 1,none⟩ (.int .u8 (x:Int))):=hb1.grown hst.2 hsz (fun q e=>by cases e;exact Nat.le_refl _)
     have hdn:Hid (ints (digF (q+1) b q)++(cur.set (i - 1) (x:Int)).drop (i - 1)=ints (digF (u0+1) b u0)):=by
      show _=_
      rw [<-hdg,List.drop_eq_getElem_cons (show i - 1<(cur.set (i - 1) (x:Int)).length by rw [List.length_set];omega),List.getElem_set_self,List.drop_set_of_lt (by omega),show i - 1+1=i by omega]
      rfl
     have hln:Hid ((cur.set (i - 1) (x:Int)).length=65):=by show _=_;rw [List.length_set];exact hcl'
     have HON:=Lib.hid hon
     have HBN:=Lib.hid hbn
     have HRN:=Lib.hid hrn
     have hvbd:decide ((b:Int)<=(v:Int))=true:=decide_eq_true (by omega)
     have hqz:Hid (q=0->i - 1=65):=fun h=>by omega
     clear hd hq hx hxi hdg hst hon hbn hown hcell hcl' hrn
     go_wp2_with fail
     go_roundw
     case rel=>exact ⟨q,i - 1,cur.set (i - 1) (x:Int),rfl,by congr 1<;>omega,by omega,hln,by omega,HRN.out,hqz,HON.out,hdn,HBN.out⟩
     case measure=>simp [intOf];omega
    ·have hvlt:v<b:=by omega
     have hvbd:decide ((b:Int)<=(v:Int))=false:=decide_eq_false (by omega)
     have hdg:=hdig.out
     rw [dig_small b v hvlt] at hdg
     have hd16:v<16:=by omega
     have hdt:∀ h:v<digitsText.size,(digitsText[v]'h).toNat=(digB v).toNat:=fun h=>by rw [digits_at v hd16 h]
     unfold digitsText at hdt
     obtain ⟨x,hx⟩:∃ x:Nat,x=(digB v).toNat:=⟨_,rfl⟩
     have hxi:ints [digB v]=[(x:Int)]:=by rw [hx];rfl
     rw [hxi] at hdg
     rw [<-hx] at hdt
     obtain ⟨D,hD⟩:∃ D,D=digF (u0+1) b u0:=⟨_,rfl⟩
     rw [<-hD] at hdg
     have HDD:=Lib.hid hD
     have hst:=hown.stored (i - 1) (.int .u8 (x:Int))
     have hon:(wr.setCell ⟨w.heap.size,i - 1,none⟩ (.int .u8 (x:Int))).ownsRow w.heap.size 224 1 (.slice (some ⟨w.heap.size,0,none⟩) 65 65) 65 ((cur.set (i - 1) (x:Int)).map (Value.int .u8)):=by
      rw [List.map_set];exact hst.1
     have hbn:Below w.heap.size w (wr.setCell ⟨w.heap.size,i - 1,none⟩ (.int .u8 (x:Int))):=hb1.grown hst.2 hsz (fun q e=>by cases e;exact Nat.le_refl _)
     have hdrop:(cur.set (i - 1) (x:Int)).drop (i - 1)=ints D:=by
      rw [<-hdg,List.drop_eq_getElem_cons (show i - 1<(cur.set (i - 1) (x:Int)).length by rw [List.length_set];omega),List.getElem_set_self,List.drop_set_of_lt (by omega),show i - 1+1=i by omega]
      rfl
     have hDl:D.length=65 - (i - 1):=by
      have:=congrArg List.length hdrop
      unfold ints at this
      rw [List.length_drop,List.length_set,List.length_map,hcl'] at this
      omega
     have hlen2:(cur.set (i - 1) (x:Int)).length=65:=by rw [List.length_set];exact hcl'
     obtain ⟨cur2,hcur2⟩:∃ c,c=cur.set (i - 1) (x:Int):=⟨_,rfl⟩
     rw [<-hcur2] at hon hdrop hlen2
     obtain ⟨wz,hwz⟩:∃ wz,wz=wr.setCell ⟨w.heap.size,i - 1,none⟩ (.int .u8 (x:Int)):=⟨_,rfl⟩
     rw [<-hwz] at hon hbn
     have hj1b:((i:Int) - 1 - 1).toNat=i - 2:=by omega
     have hj2b:(0:Int)<=(i:Int) - 1 - 1:=by omega
     have hj3b:(i:Int) - 1 - 1<65:=by omega
     have hc2:∃ y,wz.cell? ⟨w.heap.size,i - 2,none⟩=some (.int .u8 y):=by
      refine ⟨cur2[i - 2],?_⟩
      rw [hon.cellAt (i - 2) (by omega)]
      simp [List.getElem?_eq_getElem (show i - 2<cur2.length by omega)]
     obtain ⟨y2,hc2⟩:=hc2
     have hfz2:wz.frozen? ⟨w.heap.size,i - 2,none⟩=false:=hon.frozenAt (i - 2)
     have hszz:=hbn.size
     have hst2:=hon.stored (i - 2) (.int .u8 45)
     have hon2:(wz.setCell ⟨w.heap.size,i - 2,none⟩ (.int .u8 45)).ownsRow w.heap.size 224 1 (.slice (some ⟨w.heap.size,0,none⟩) 65 65) 65 ((cur2.set (i - 2) 45).map (Value.int .u8)):=by
      rw [List.map_set];exact hst2.1
     have hbn2:Below w.heap.size w (wz.setCell ⟨w.heap.size,i - 2,none⟩ (.int .u8 45)):=hbn.grown hst2.2 hszz (fun q e=>by cases e;exact Nat.le_refl _)
     have hdrop2:(cur2.set (i - 2) 45).drop (i - 2)=ints (45::D):=by
      rw [List.drop_eq_getElem_cons (show i - 2<(cur2.set (i - 2) 45).length by rw [List.length_set];omega),List.getElem_set_self,List.drop_set_of_lt (by omega),show i - 2+1=i - 1 by omega,hdrop]
      rfl
     have hDl2:(45::D).length=65 - (i - 2):=by rw [List.length_cons,hDl];omega
     have hby:∀ j (hj:j<(45::D).length),(wz.setCell ⟨w.heap.size,i - 2,none⟩ (.int .u8 45)).cell? ((⟨w.heap.size,i - 2,none⟩:Addr).add j)=some (.int .u8 ((45::D)[j].toNat:Int)):=by
      intro j hj
      rw [Addr.add_lit,hon2.cellAt (i - 2+j) (by omega),List.getElem?_map]
      have h2:(cur2.set (i - 2) 45)[i - 2+j]?=some (((45::D)[j].toNat:Nat):Int):=by
       rw [<-List.getElem?_drop,hdrop2]
       unfold ints
       rw [List.getElem?_map,List.getElem?_eq_getElem hj];rfl
      rw [h2];rfl
     have hcv:=run_convert_bytes_back (P:=Tryz.prog) (wz.setCell ⟨w.heap.size,i - 2,none⟩ (.int .u8 45)) 72 9 5 ⟨w.heap.size,i - 2,none⟩ (65 - (i - 2)) (45::D) Tryz.underlying72 Tryz.underlying5 Tryz.underlying9 hby
     rw [hDl2] at hcv
     rw [hwz] at hcv hc2 hfz2
     have hsl:=slice65 w.heap.size (i - 2) (by omega) ((i:Int) - 1 - 1) (by omega)
     have HBN:=Lib.hid hbn2
     have HWZ:=Lib.hid hwz
     clear hD hx hxi hdg hst hon hown hcell hdrop hDl hlen2 hcur2 hby hwz hbn hcl' hst2 hon2 hbn2 hdrop2 hDl2
     go_wp2_with fail
     go_ret2
     refine ⟨by rw [<-HDD.out];rfl,?_⟩
     rw [<-HWZ.out];exact HBN.out
def NTabs (w:World):Prop:=BTab w/\Lib.TabIs Tryz.prog w "internal/strconv.uint64pow10" .u64 Lib.pow10Tab
theorem NTabs.keep {w w':World} (h:NTabs w) (hb:Below w.heap.size w w'):NTabs w' :=
 ⟨h.1.keep hb,TabIs_below (g:=3) (by kernel_rfl) h.2 hb⟩
def numText (n:Int) (b:Nat):List UInt8:=(if decide (n<0) then [45] else [])++digF (n.natAbs+1) b n.natAbs
def StrPost (x:List UInt8) (w:World) (e:Ending) (w':World):Prop:=e=.returned (.string ⟨x.toArray⟩)/\Below w.heap.size w w'
set_option maxHeartbeats 1000000 in
theorem intFormat_any (n:Int) (h0:-9223372036854775808<=n) (h1:n<=9223372036854775807) (b:Nat) (hb:b=2\/b=8\/b=16) (w:World) (hT:BTab w) :
 Calls Tryz.prog 132 #[.int .i64 n,.int .i64 b] w (StrPost (numText n b) w):=by
 have k1:decide (n<0)=false->IntKind.u64.wrap n=(n.natAbs:Int):=by
  intro h
  have h2:¬ n<0:=by simpa using h
  rw [IntKind.wrap_u64];omega
 have k2:decide (n<0)=true->IntKind.u64.wrap (-IntKind.u64.wrap n)=(n.natAbs:Int):=by
  intro h
  have h2:n<0:=by simpa using h
  rw [IntKind.wrap_u64,IntKind.wrap_u64];omega
 have hfb:=formatBits_any b hb n.natAbs (by omega) (decide (n<0)) (IntKind.u64.wrap n) k1 k2 w hT
 clear k1 k2
 unfold BitsPost at hfb
 have e:(if decide (n<0)=true then ([45]:List UInt8) else [])++digF (n.natAbs+1) b n.natAbs=numText n b:=rfl
 rw [e] at hfb
 have HF:=Lib.hid hfb
 have t1:((b:Int)==10)=false:=by rcases hb with rfl|rfl|rfl<;>rfl
 clear hfb e hb hT
 go_enter Tryz.func132,Tryz.ntmps132
 go_wp2_with fail
 refine HF.out.mono ?_
 rintro e w2 ⟨rfl,hb⟩
 go_wp2
 go_ret
 exact ⟨rfl,hb⟩
set_option maxHeartbeats 400000 in
theorem hex_any (n:Nat) (hn:n<128) (w:World) (hT:NTabs w):Calls Tryz.prog 113 #[.int .i64 n,.int .i64 16] w (StrPost (hexText n) w):=by
 have h:=intFormat_any (n:Int) (by omega) (by omega) 16 (.inr (.inr rfl)) w hT.1
 have e:numText (n:Int) 16=hexText n:=by
  unfold numText hexText
  rw [decide_eq_false (by omega)];rfl
 rw [e] at h
 have H:=Lib.hid h
 clear h hT
 go_enter Tryz.func113,Tryz.ntmps113
 go_wp2_with fail
 refine H.out.mono ?_
 rintro e w2 ⟨rfl,hb⟩
 go_wp2
 go_ret
 exact ⟨rfl,hb⟩
set_option maxRecDepth 100000
def lowB (c:Nat):Nat:=c ||| 32
def LowPost (c:Nat) (w:World) (e:Ending) (w':World):Prop:=e=.returned (.int .u8 (lowB c:Nat))/\w=w'
theorem low_bits (c:Nat) (h:c<256):bits BinOp.or IntKind.u8 (c:Int) 32=((lowB c:Nat):Int):=by
 have key:∀ e:Fin 256,bits BinOp.or IntKind.u8 ((e.val:Nat):Int) 32=((lowB e.val:Nat):Int):=by decide +kernel
 exact key ⟨c,h⟩
set_option maxHeartbeats 400000 in
theorem low_any (c:Nat) (h:c<256) (w:World):Calls Tryz.prog 186 #[.int .u8 c] w (LowPost c w):=by
 have hl:=low_bits c h
 have HL:=Lib.hid hl
 clear hl
 go_enter Tryz.func186,Tryz.ntmps186
 go_wp2
 go_ret
 exact ⟨by rw [<-HL.out];rfl,rfl⟩
theorem hex_kind (c:UInt8):(48<=c.toNat/\c.toNat<=57/\hexOf c=some (c.toNat - 48))\/((c.toNat<48\/57<c.toNat)/\c.toNat≠95/\97<=lowB c.toNat/\lowB c.toNat<=102/\hexOf c=some (lowB c.toNat - 87)) \/
 ((c.toNat<48\/57<c.toNat)/\103<=lowB c.toNat/\lowB c.toNat<=122/\hexOf c=none)\/((c.toNat<48\/57<c.toNat)/\(lowB c.toNat<97\/122<lowB c.toNat)/\hexOf c=none):=by
 have key:∀ e:Fin 256,(48<=(UInt8.ofNat e.val).toNat/\(UInt8.ofNat e.val).toNat<=57/\hexOf (UInt8.ofNat e.val)=some ((UInt8.ofNat e.val).toNat - 48))\/(((UInt8.ofNat e.val).toNat<48\/57<(UInt8.ofNat e.val).toNat)/\(UInt8.ofNat e.val).toNat≠95/\97<=lowB (UInt8.ofNat e.val).toNat/\lowB (UInt8.ofNat e.val).toNat<=102/\hexOf (UInt8.ofNat e.val)=some (lowB (UInt8.ofNat e.val).toNat - 87)) \/
  (((UInt8.ofNat e.val).toNat<48\/57<(UInt8.ofNat e.val).toNat)/\103<=lowB (UInt8.ofNat e.val).toNat/\lowB (UInt8.ofNat e.val).toNat<=122/\hexOf (UInt8.ofNat e.val)=none)\/(((UInt8.ofNat e.val).toNat<48\/57<(UInt8.ofNat e.val).toNat)/\(lowB (UInt8.ofNat e.val).toNat<97\/122<lowB (UInt8.ofNat e.val).toNat)/\hexOf (UInt8.ofNat e.val)=none):=by decide +kernel
 have h:=key ⟨c.toNat,UInt8.toNat_lt c⟩
 have e:UInt8.ofNat c.toNat=c:=by simp
 rw [e] at h
 exact h
def ParseUPost (l:List UInt8) (w:World) (e:Ending) (w':World):Prop :=
 (∃ v:Nat,hexVal l 0=some v/\e=.returned (.tuple #[.int .u64 v,.nilIface])/\Below w.heap.size w w') \/
 (hexVal l 0=none/\e=.returned (.tuple #[.int .u64 0,.iface 230 (.int .i64 2)])/\Below w.heap.size w w')
theorem pow16_le (k:Nat) (hk:k<=5):16 ^ k<=1048576:=Nat.pow_le_pow_right (show 16 > 0 by decide) hk
theorem hexVal_step (l:List UInt8) (k:Nat) (v:Nat) (hk:k<l.length):hexVal (l.drop k) v=match hexOf l[k] with
 | none=>none
 | some d=>hexVal (l.drop (k+1)) (v * 16+d):=by
 rw [List.drop_eq_getElem_cons hk,hexVal]
 cases hexOf l[k]<;>rfl
set_option maxHeartbeats 4000000 in
theorem parseU_any (s:ByteArray) (w:World) (h1:1<=s.size) (h6:s.size<=6):Calls Tryz.prog 169 #[.string s,.int .i64 16,.int .i64 32] w (ParseUPost s.data.toList w):=by
 have hl:=Lib.size_eq s
 obtain ⟨cap,w2,hconv,-,hsz2,hg,hC⟩:=Gx.conv_bytes_run (P:=Tryz.prog) w 9 72 5 s Tryz.underlying9 Tryz.underlying72 Tryz.underlying5
 have hb2:Below w.heap.size w w2:=Gx.grown_below hg (Nat.le_refl _) (by simp)
 have HYES:=Lib.hid (fun (v:Nat) (h:hexVal s.data.toList 0=some v)=>(show ParseUPost s.data.toList w (.returned (.tuple #[.int .u64 v,.nilIface])) w2 from .inl ⟨v,h,rfl,hb2⟩))
 have HNO:=Lib.hid (fun (h:hexVal s.data.toList 0=none)=>(show ParseUPost s.data.toList w (.returned (.tuple #[.int .u64 0,.iface 230 (.int .i64 2)])) w2 from .inr ⟨h,rfl,hb2⟩))
 generalize ParseUPost s.data.toList w=POST at *
 have hem:s.toList.isEmpty=false/\¬ s.toList=[]:=by
  have h3:s.toList.length=s.size:=by rw [Go.Lib.toList_data];simp
  have:s.toList≠[]:=by intro h4;rw [h4,List.length_nil] at h3;omega
  exact ⟨by cases h4:s.toList with
   | nil=>exact absurd h4 this
   | cons=>rfl,this⟩
 obtain ⟨em1,em2⟩:=hem
 have HST:=Lib.hid (fun k v (hk:k<s.data.toList.length)=>hexVal_step s.data.toList k v hk)
 have hd0:hexVal (s.data.toList.drop 0) 0=hexVal s.data.toList 0:=by rw [List.drop_zero]
 have hend:∀ k v,k=s.size->hexVal (s.data.toList.drop k) v=some v:=by
  intro k v hk
  rw [List.drop_eq_nil_of_le (by omega)];rfl
 generalize hexVal s.data.toList 0=HV at *
 have HD0:=Lib.hid hd0
 have HEND:=Lib.hid hend
 have HC:=Lib.hid hC
 have HL:=Lib.hid hl
 clear hd0 hend hC hg hsz2 hl hb2
 go_enter Tryz.func169,Tryz.ntmps169
 go_wp2_with fail
 clear hconv em1 em2
 go_loop [12,13,101] (fun uv nv iv=>∃ k v:Nat,uv=.bool false/\k<=s.size/\iv=.int .i64 k/\nv=.int .u64 v/\v<16777216/\Hid (v<16 ^ k)/\Hid (hexVal (s.data.toList.drop k) v=HV)) (fun _ _ iv=>s.size - (intOf iv).toNat)
 case atStart=>exact ⟨0,0,rfl,Nat.zero_le _,rfl,rfl,by decide,(by show (0:Nat)<16 ^ 0;decide),HD0.out⟩
 case round =>
  obtain ⟨k,v,rfl,hk,rfl,rfl,hv,hvk,hq⟩:=hrel
  by_cases hlt:k<s.size
  ·have c0:=HC.out k hlt
   have hst:=HST.out k v (by have:=HL.out;omega)
   have hkk:=hex_kind s.data[k]
   have hvb:v<1048576:=Nat.lt_of_lt_of_le hvk.out (pow16_le k (by omega))
   rw [hq.out] at hst
   have hidx:s.data.toList[k]'(by have:=HL.out;omega)=s.data[k]:=rfl
   rw [hidx] at hst
   have hx256:=UInt8.toNat_lt s.data[k]
   have HLO:=Lib.hid (fun w0=>low_any s.data[k].toNat hx256 w0)
   unfold LowPost at HLO
   obtain ⟨x,hx⟩:∃ x:Nat,x=s.data[k].toNat:=⟨_,rfl⟩
   rw [<-hx] at c0 hkk HLO hx256
   obtain ⟨ho,hho⟩:∃ o,o=hexOf s.data[k]:=⟨_,rfl⟩
   rw [<-hho] at hst hkk
   clear hx hho hidx
   have t95:∀ y:Nat,y≠95->((y:Int)==95)=false:=fun y hy=>by rw [beq_eq_false_iff_ne];omega
   rcases hkk with ⟨a1,a2,rfl⟩|⟨a1,a95,a2,a3,rfl⟩|⟨a1,a2,a3,rfl⟩|⟨a1,a2,rfl⟩
   ·have hst2:=Lib.hid hst.symm
    have hpk:Hid (v * 16+(x - 48)<16 ^ (k+1)):=by
     show _<_
     have:=hvk.out
     rw [Nat.pow_succ];omega
    obtain ⟨d,hd⟩:∃ d,d=x - 48:=⟨_,rfl⟩
    rw [<-hd] at hst2 hpk
    have tx:=t95 x (by omega)
    obtain ⟨a3,a4⟩:48<=(x:Int)/\(x:Int)<=57:=by omega
    have HD:=Lib.hid hd
    have tc:decide ((1152921504606846976:Int)<=(v:Int))=false:=decide_eq_false (by omega)
    clear hst hq hvk t95 hd HLO
    go_wp2_with fail
    go_round
    case rel=>exact ⟨k+1,v * 16+d,rfl,by omega,by go_num,by have:=HD.out;congr 1;omega,by have:=HD.out;omega,hpk,hst2.out⟩
    case measure=>simp [intOf];omega
   ·have hst2:=Lib.hid hst.symm
    have hpk:Hid (v * 16+(lowB x - 87)<16 ^ (k+1)):=by
     show _<_
     have:=hvk.out
     rw [Nat.pow_succ];omega
    generalize lowB x=y at *
    obtain ⟨d,hd⟩:∃ d,d=y - 87:=⟨_,rfl⟩
    rw [<-hd] at hst2 hpk
    have tx:=t95 x (by omega)
    obtain ⟨a4,a5⟩:97<=(y:Int)/\(y:Int)<=102:=by omega
    have HD:=Lib.hid hd
    have tc:decide ((1152921504606846976:Int)<=(v:Int))=false:=decide_eq_false (by omega)
    clear hst hq hvk t95 hd
    rcases a1 with a1|a1
    ·have n1:¬ 48<=(x:Int):=by omega
     go_wp2_with fail
     refine (HLO.out _).mono ?_
     rintro e0 w3 ⟨rfl,rfl⟩
     go_wp2_with fail
     refine (HLO.out _).mono ?_
     rintro e0 w3 ⟨rfl,rfl⟩
     go_wp2_with fail
     refine (HLO.out _).mono ?_
     rintro e0 w3 ⟨rfl,rfl⟩
     go_wp2_with fail
     go_round
     case rel=>exact ⟨k+1,v * 16+d,rfl,by omega,by go_num,by have:=HD.out;congr 1;omega,by have:=HD.out;omega,hpk,hst2.out⟩
     case measure=>simp [intOf];omega
    ·have n1:¬ (x:Int)<=57:=by omega
     have n2:48<=(x:Int):=by omega
     go_wp2_with fail
     refine (HLO.out _).mono ?_
     rintro e0 w3 ⟨rfl,rfl⟩
     go_wp2_with fail
     refine (HLO.out _).mono ?_
     rintro e0 w3 ⟨rfl,rfl⟩
     go_wp2_with fail
     refine (HLO.out _).mono ?_
     rintro e0 w3 ⟨rfl,rfl⟩
     go_wp2_with fail
     go_round
     case rel=>exact ⟨k+1,v * 16+d,rfl,by omega,by go_num,by have:=HD.out;congr 1;omega,by have:=HD.out;omega,hpk,hst2.out⟩
     case measure=>simp [intOf];omega
   ·have N:=Lib.hid (HNO.out hst)
    generalize lowB x=y at *
    have tx:((x:Int)==95)=false\/((x:Int)==95)=true:=by cases ((x:Int)==95);exact .inl rfl;exact .inr rfl
    obtain ⟨a4,a5⟩:103<=(y:Int)/\(y:Int)<=122:=by omega
    clear hst hq hvk t95
    rcases a1 with a1|a1
    ·have n1:¬ 48<=(x:Int):=by omega
     rcases tx with tx|tx
     all_goals
      go_wp2_with fail
      refine (HLO.out _).mono ?_
      rintro e0 w3 ⟨rfl,rfl⟩
      go_wp2_with fail
      refine (HLO.out _).mono ?_
      rintro e0 w3 ⟨rfl,rfl⟩
      go_wp2_with fail
      refine (HLO.out _).mono ?_
      rintro e0 w3 ⟨rfl,rfl⟩
      go_wp2_with fail
      try go_ret2
      exact N.out
    ·have n1:¬ (x:Int)<=57:=by omega
     have n2:48<=(x:Int):=by omega
     rcases tx with tx|tx
     all_goals
      go_wp2_with fail
      refine (HLO.out _).mono ?_
      rintro e0 w3 ⟨rfl,rfl⟩
      go_wp2_with fail
      refine (HLO.out _).mono ?_
      rintro e0 w3 ⟨rfl,rfl⟩
      go_wp2_with fail
      refine (HLO.out _).mono ?_
      rintro e0 w3 ⟨rfl,rfl⟩
      go_wp2_with fail
      try go_ret2
      exact N.out
   ·have N:=Lib.hid (HNO.out hst)
    generalize lowB x=y at *
    have tx:((x:Int)==95)=false\/((x:Int)==95)=true:=by cases ((x:Int)==95);exact .inl rfl;exact .inr rfl
    clear hst hq hvk t95
    have n0:(¬ 48<=(x:Int))\/(48<=(x:Int)/\¬ (x:Int)<=57):=by omega
    have y0:(¬ 97<=(y:Int))\/(97<=(y:Int)/\¬ (y:Int)<=122):=by omega
    clear a1 a2
    rcases n0 with n1|⟨n2,n1⟩<;>rcases y0 with y1|⟨y2,y1⟩<;>rcases tx with tx|tx
    all_goals
     go_wp2_with fail
     refine (HLO.out _).mono ?_
     rintro e0 w3 ⟨rfl,rfl⟩
     go_wp2_with fail
     try (refine (HLO.out _).mono ?_;rintro e0 w3 ⟨rfl,rfl⟩;go_wp2_with fail)
     try go_ret2
     exact N.out
  ·have N:=Lib.hid (HYES.out v (by rw [<-hq.out];exact HEND.out k v (by omega)))
   clear hq hvk
   go_wp2_with fail
   try go_ret2
   exact N.out
end Go.Proofs.YtldhmfkojaekfaaGreatDoor
namespace Go.Proofs.YtldhmfkojaekfaaGreatDoor
open Go Go.RowKit
theorem bytes_nil {s:ByteArray} (h:s.size=0):s=⟨#[]⟩:=by
 apply ByteArray.ext
 apply Array.toList_inj.1
 exact List.eq_nil_of_length_eq_zero (by rw [<-Lib.size_eq];exact h)
theorem list_nil {s:ByteArray} (h:s.size=0):s.data.toList=[]:=List.eq_nil_of_length_eq_zero (by rw [<-Lib.size_eq];exact h)
theorem list_ne {s:ByteArray} (h:0<s.size):s.data.toList≠[]:=by
 intro h2
 have:=Lib.size_eq s
 rw [h2,List.length_nil] at this
 omega
theorem bytes_em {s:ByteArray} (h:0<s.size):s.toList.isEmpty=false/\¬ s.toList=[]:=by
 have h3:s.toList.length=s.size:=by rw [Go.Lib.toList_data];simp
 have:s.toList≠[]:=by intro h4;rw [h4,List.length_nil] at h3;omega
 exact ⟨by cases h4:s.toList with
  | nil=>exact absurd h4 this
  | cons=>rfl,this⟩
theorem byte_is (b c:UInt8):((b.toNat:Int)==(c.toNat:Int))=decide (b=c):=by
 rw [Bool.eq_iff_iff,beq_iff_eq,decide_eq_true_eq]
 constructor
 ·intro h;exact UInt8.toNat_inj.1 (by omega)
 ·rintro rfl;rfl
theorem byte_n (b:UInt8) (c:UInt8) (n:Int) (hn:n=(c.toNat:Int)) (h:b≠c):((b.toNat:Int)==n)=false/\((b.toNat:Int) != n)=true:=by
 subst hn
 have:=byte_is b c
 rw [decide_eq_false h] at this
 exact ⟨this,by unfold bne;rw [this];rfl⟩
theorem byte_y (b:UInt8) (c:UInt8) (n:Int) (hn:n=(c.toNat:Int)) (h:b=c):((b.toNat:Int)==n)=true/\((b.toNat:Int) != n)=false:=by
 subst hn
 have:=byte_is b c
 rw [decide_eq_true h] at this
 exact ⟨this,by unfold bne;rw [this];rfl⟩
theorem cons_of (s:ByteArray) (h:0<s.size):s.data.toList=s[0]::s.data.toList.drop 1:=by
 have h2:0<s.data.toList.length:=by simpa using h
 have e:s.data.toList.drop 0=s.data.toList[0]::s.data.toList.drop 1:=List.drop_eq_getElem_cons h2
 rw [List.drop_zero] at e
 exact e
theorem drop_cons (s:ByteArray) (k:Nat) (h:k<s.size):s.data.toList.drop k=s[k]::s.data.toList.drop (k+1):=by
 have h2:k<s.data.toList.length:=by simpa using h
 exact List.drop_eq_getElem_cons h2
theorem ext_front (s:ByteArray) (k:Nat):(s.extract 0 k).data.toList=s.data.toList.take k:=by rw [Lib.extract_data,List.drop_zero,Nat.sub_zero]
end Go.Proofs.YtldhmfkojaekfaaGreatDoor
namespace Go.Proofs.YtldhmfkojaekfaaGreatDoor
open Go.RowKit Gx
set_option maxRecDepth 100000
def ErrVar (w:World):Prop:=∃ te pe,w.cell? ⟨4,0,none⟩=some (.iface te pe)
theorem ErrVar.keep {w w':World} (h:ErrVar w) (hb:Below w.heap.size w w'):ErrVar w':=by
 obtain ⟨te,pe,h⟩:=h
 exact ⟨te,pe,(hb.cell (World.block_lt_of_cell? w _ h)).trans h⟩
def PUPost (l:List UInt8) (w:World) (e:Ending) (w':World):Prop :=
 (∃ v:Nat,hexVal l 0=some v/\e=.returned (.tuple #[.int .u64 v,.nilIface])/\Below w.heap.size w w') \/
 (hexVal l 0=none/\∃ N,e=.returned (.tuple #[.int .u64 0,.iface 232 (.pointer (some ⟨N,0,none⟩))])/\Below w.heap.size w w')
set_option maxHeartbeats 1000000 in
theorem parseUint_any (s:ByteArray) (w:World) (h1:1<=s.size) (h6:s.size<=6) (hE:ErrVar w):Calls Tryz.prog 138 #[.string s,.int .i64 16,.int .i64 32] w (PUPost s.data.toList w):=by
 have hP:=parseU_any s w h1 h6
 unfold ParseUPost at hP
 have HP:=Lib.hid hP
 have HYES:=Lib.hid (fun (v:Nat) w' (h:hexVal s.data.toList 0=some v) (hb:Below w.heap.size w w')=>(show PUPost s.data.toList w (.returned (.tuple #[.int .u64 v,.nilIface])) w' from .inl ⟨v,h,rfl,hb⟩))
 have HNO:=Lib.hid (fun N w' (h:hexVal s.data.toList 0=none) (hb:Below w.heap.size w w')=>(show PUPost s.data.toList w (.returned (.tuple #[.int .u64 0,.iface 232 (.pointer (some ⟨N,0,none⟩))])) w' from .inr ⟨h,N,rfl,hb⟩))
 have HE:=Lib.hid hE
 generalize PUPost s.data.toList w=POST at *
 generalize hexVal s.data.toList 0=HV at *
 clear hP hE
 go_enter Tryz.func138,Tryz.ntmps138
 go_wp2_with fail
 refine HP.out.mono ?_
 rintro e0 w1 (⟨v,hv,rfl,hb⟩|⟨hv,rfl,hb⟩)
 ·have N:=Lib.hid (HYES.out v w1 hv hb)
  clear hv hb
  go_wp2_with fail
  try go_ret2
  exact N.out
 ·obtain ⟨te,pe,hc⟩:=HE.out.keep hb
  have HTE:=Lib.hid (Tryz.strconv_toError_syntax ⟨#[80,97,114,115,101,85,105,110,116]⟩ s 16 32 (.iface te pe) w1 (by omega) hc (.inr ⟨te,pe,rfl⟩))
  have HV:=Lib.hid hv
  have B1:=Lib.hid hb
  clear hv hb hc
  go_wp2_with fail
  refine HTE.out.mono ?_
  rintro e0 w2 ⟨N,rfl,-,-,hb2⟩
  have NN:=Lib.hid (HNO.out N w2 HV.out (B1.out.trans (hb2.mono B1.out.size)))
  clear hb2
  go_wp2_with fail
  try go_ret2
  exact NN.out
def EscPost (l:List UInt8) (w:World) (e:Ending) (w':World):Prop :=
 (∃ (r:Int) (n:Nat),escOf l=some (r,n)/\e=.returned (.tuple #[.int .i32 r,.int .i64 n,.int .i64 0])/\Below w.heap.size w w') \/
 (escOf l=none/\∃ c:Int,c≠0/\e=.returned (.tuple #[.int .i32 0,.int .i64 0,.int .i64 c])/\Below w.heap.size w w')
theorem escOf_cons (c:UInt8) (t:List UInt8):escOf (c::t)=if c=34\/c=92\/c=47 then some ((c.toNat:Int),1)
 else if c=110 then some (10,1) else if c=116 then some (9,1) else if c=114 then some (13,1) else uOf (c::t):=rfl
theorem uOf_bad (s:List UInt8) (h:Lib.hasPrefix s [117,123]=false\/Lib.indexByte (s.drop 2) 125<1\/6<Lib.indexByte (s.drop 2) 125):uOf s=none:=by
 unfold uOf
 split
 ·rename_i hp
  rcases h with h|h
  ·rw [h] at hp;cases hp
  ·rw [if_pos h]
 ·rfl
theorem uOf_hex (s:List UInt8) (k:Nat) (h:Lib.hasPrefix s [117,123]=true) (hk:Lib.indexByte (s.drop 2) 125=(k:Int)) (h1:1<=k) (h6:k<=6):uOf s=match hexVal ((s.drop 2).take k) 0 with
 | none=>none
 | some n=>if good (n:Int)=true then some ((n:Int),3+k) else none:=by
 unfold uOf
 rw [if_pos h,hk,Int.toNat_natCast,if_neg (by omega)]
 rfl
theorem runeSize_iff (r:Int):(runeSize r==0)=!good r:=by
 unfold runeSize
 cases hg:good r with
 | false=>rfl
 | true =>
   rw [if_pos rfl]
   split
   ·rfl
   split
   ·rfl
   split<;>rfl
set_option maxHeartbeats 4000000 in
theorem escape_any (s:ByteArray) (w:World) (hs:s.size<=281474976710656) (hE:ErrVar w):Calls Tryz.prog 117 #[.string s] w (EscPost s.data.toList w):=by
 have HYES:=Lib.hid (fun (r:Int) (n:Nat) w' (h:escOf s.data.toList=some (r,n)) (hb:Below w.heap.size w w')=>(show EscPost s.data.toList w (.returned (.tuple #[.int .i32 r,.int .i64 n,.int .i64 0])) w' from .inl ⟨r,n,h,rfl,hb⟩))
 have HNO:=Lib.hid (fun (c:Int) w' (hc:c≠0) (h:escOf s.data.toList=none) (hb:Below w.heap.size w w')=>(show EscPost s.data.toList w (.returned (.tuple #[.int .i32 0,.int .i64 0,.int .i64 c])) w' from .inr ⟨h,c,hc,rfl,hb⟩))
 have HE:=Lib.hid hE
 clear hE
 generalize EscPost s.data.toList w=POST at *
 rcases Nat.eq_zero_or_pos s.size with zs|ps
 ·obtain rfl:=bytes_nil zs
  have N:=Lib.hid (HNO.out 4 w (by decide) rfl (Below.refl _ _))
  clear zs HNO HYES
  go_enter Tryz.func117,Tryz.ntmps117
  go_wp2_with fail
  try go_ret3
  exact N.out
 obtain ⟨em1,em2⟩:=bytes_em ps
 have hcons:=cons_of s ps
 have hesc:=escOf_cons s[0] (s.data.toList.drop 1)
 rw [<-hcons] at hesc
 generalize escOf s.data.toList=EV at *
 have p1:(0:Int)<(s.size:Int):=by omega
 have hx:=UInt8.toNat_lt s[0]
 by_cases c1:s[0]=34\/s[0]=92\/s[0]=47
 ·rw [if_pos c1] at hesc
  have N:=Lib.hid (HYES.out _ _ w hesc (Below.refl _ _))
  have hw:IntKind.i32.wrap (s[0].toNat:Int)=(s[0].toNat:Int):=by rw [IntKind.wrap_i32];omega
  rcases c1 with h|h|h
  ·have y1:=(byte_y s[0] 34 34 rfl h).1
   clear hesc hcons h
   go_enter Tryz.func117,Tryz.ntmps117
   go_wp2_with fail
   try go_ret3
   exact N.out
  ·have n1:=(byte_n s[0] 34 34 rfl (by rw [h];decide)).1
   have y1:=(byte_y s[0] 92 92 rfl h).1
   clear hesc hcons h
   go_enter Tryz.func117,Tryz.ntmps117
   go_wp2_with fail
   try go_ret3
   exact N.out
  ·have n1:=(byte_n s[0] 34 34 rfl (by rw [h];decide)).1
   have n2:=(byte_n s[0] 92 92 rfl (by rw [h];decide)).1
   have y1:=(byte_y s[0] 47 47 rfl h).1
   clear hesc hcons h
   go_enter Tryz.func117,Tryz.ntmps117
   go_wp2_with fail
   try go_ret3
   exact N.out
 rw [if_neg c1] at hesc
 have n1:=(byte_n s[0] 34 34 rfl (fun h=>c1 (.inl h))).1
 have n2:=(byte_n s[0] 92 92 rfl (fun h=>c1 (.inr (.inl h)))).1
 have n3:=(byte_n s[0] 47 47 rfl (fun h=>c1 (.inr (.inr h)))).1
 by_cases c110:s[0]=110
 ·rw [if_pos c110] at hesc
  have N:=Lib.hid (HYES.out _ _ w hesc (Below.refl _ _))
  have y1:=(byte_y s[0] 110 110 rfl c110).1
  clear hesc hcons c1 c110
  go_enter Tryz.func117,Tryz.ntmps117
  go_wp2_with fail
  try go_ret3
  exact N.out
 rw [if_neg c110] at hesc
 have n4:=(byte_n s[0] 110 110 rfl c110).1
 by_cases c116:s[0]=116
 ·rw [if_pos c116] at hesc
  have N:=Lib.hid (HYES.out _ _ w hesc (Below.refl _ _))
  have y1:=(byte_y s[0] 116 116 rfl c116).1
  clear hesc hcons c1 c116
  go_enter Tryz.func117,Tryz.ntmps117
  go_wp2_with fail
  try go_ret3
  exact N.out
 rw [if_neg c116] at hesc
 have n5:=(byte_n s[0] 116 116 rfl c116).1
 by_cases c114:s[0]=114
 ·rw [if_pos c114] at hesc
  have N:=Lib.hid (HYES.out _ _ w hesc (Below.refl _ _))
  have y1:=(byte_y s[0] 114 114 rfl c114).1
  clear hesc hcons c1 c114
  go_enter Tryz.func117,Tryz.ntmps117
  go_wp2_with fail
  try go_ret3
  exact N.out
 rw [if_neg c114] at hesc
 have n6:=(byte_n s[0] 114 114 rfl c114).1
 have HCP:=Tryz.strings_CutPrefix s ⟨#[117,123]⟩ w
 have eu:(⟨#[117,123]⟩:ByteArray).data.toList=[117,123]:=rfl
 rw [eu] at HCP
 clear c1 c110 c116 c114 hcons eu
 cases hp:Lib.hasPrefix s.data.toList [117,123] with
 | false =>
   have hbad:=uOf_bad s.data.toList (.inl hp)
   rw [hbad] at hesc
   have N:=Lib.hid (HNO.out 4 w (by decide) hesc (Below.refl _ _))
   rw [hp] at HCP
   obtain ⟨D,hD⟩:∃ D:ByteArray,D=⟨(Lib.trimPrefix s.data.toList [117,123]).toArray⟩:=⟨_,rfl⟩
   rw [<-hD] at HCP
   have HC:=Lib.hid HCP
   have HI:=Lib.hid (fun w0=>Tryz.strings_IndexByte D 125 w0)
   clear hesc HCP hbad hD hp HYES HNO
   go_enter Tryz.func117,Tryz.ntmps117
   go_wp2_with fail
   refine HC.out.mono ?_
   rintro e0 w1 ⟨rfl,rfl⟩
   go_wp2_with fail
   refine (HI.out w1).mono ?_
   rintro e0 w2 ⟨rfl,rfl⟩
   go_wp2_with fail
   try go_ret3
   exact N.out
 | true =>
   have htr:Lib.trimPrefix s.data.toList [117,123]=s.data.toList.drop 2:=by unfold Lib.trimPrefix;rw [if_pos hp];rfl
   rw [hp,htr] at HCP
   obtain ⟨D,hD⟩:∃ D:ByteArray,D=⟨(s.data.toList.drop 2).toArray⟩:=⟨_,rfl⟩
   have hDl:D.data.toList=s.data.toList.drop 2:=by rw [hD]
   rw [<-hD] at HCP
   have hI:=fun w0=>Tryz.strings_IndexByte D 125 w0
   have e125:(125:Int).toNat.toUInt8=(125:UInt8):=rfl
   have hbd:=indexByte_bound 125 D.data.toList
   rw [<-Lib.size_eq] at hbd
   simp only [e125] at hI
   have hbad:=uOf_bad s.data.toList
   have hhex:=fun k h=>uOf_hex s.data.toList k hp h
   rw [<-hDl] at hbad hhex
   obtain ⟨I,hIe⟩:∃ I,I=Lib.indexByte D.data.toList 125:=⟨_,rfl⟩
   simp only [<-hIe] at hI hbd hbad hhex
   have HC:=Lib.hid HCP
   have HI:=Lib.hid hI
   by_cases hk:I<1\/6<I
   ·rw [hbad (.inr hk)] at hesc
    have N:=Lib.hid (HNO.out 4 w (by decide) hesc (Below.refl _ _))
    clear hesc HCP hbad hhex hD hDl hp HYES HNO hI hIe e125 htr
    rcases hk with hk|hk
    ·go_enter Tryz.func117,Tryz.ntmps117
     go_wp2_with fail
     refine HC.out.mono ?_
     rintro e0 w1 ⟨rfl,rfl⟩
     go_wp2_with fail
     refine (HI.out w1).mono ?_
     rintro e0 w2 ⟨rfl,rfl⟩
     go_wp2_with fail
     try go_ret3
     exact N.out
    ·have hk1:¬ I<1:=by omega
     go_enter Tryz.func117,Tryz.ntmps117
     go_wp2_with fail
     refine HC.out.mono ?_
     rintro e0 w1 ⟨rfl,rfl⟩
     go_wp2_with fail
     refine (HI.out w1).mono ?_
     rintro e0 w2 ⟨rfl,rfl⟩
     go_wp2_with fail
     try go_ret3
     exact N.out
   ·obtain ⟨k,rfl⟩:∃ k:Nat,I=(k:Int):=⟨I.toNat,by omega⟩
    have hh:=hhex k rfl (by omega) (by omega)
    rw [hh] at hesc
    have hsz:(D.extract 0 k).size=k:=by simp;omega
    have HPU:=Lib.hid (fun w0 (h:ErrVar w0)=>parseUint_any (D.extract 0 k) w0 (by omega) (by omega) h)
    unfold PUPost at HPU
    rw [ext_front] at HPU
    have hvl:=fun v h=>hexVal_lt (D.data.toList.take k) 0 v h
    have hkl:(D.data.toList.take k).length<=6:=by rw [List.length_take];omega
    generalize D.data.toList.take k=T at *
    have HESC:=Lib.hid hesc
    have HVL:=Lib.hid hvl
    obtain ⟨k1,k2,k3⟩:(1:Int)<=(k:Int)/\(k:Int)<=6/\(k:Int)<=(D.size:Int):=by omega
    have nk1:¬ (k:Int)<1:=by omega
    have nk6:¬ 6<(k:Int):=by omega
    clear hesc HCP hbad hhex hh hD hDl hp hI hIe e125 htr hvl hsz hk hbd
    go_enter Tryz.func117,Tryz.ntmps117
    go_wp2_with fail
    refine HC.out.mono ?_
    rintro e0 w1 ⟨rfl,rfl⟩
    go_wp2_with fail
    refine (HI.out w1).mono ?_
    rintro e0 w2 ⟨rfl,rfl⟩
    go_wp2_with fail
    refine (HPU.out w2 HE.out).mono ?_
    rintro e0 w3 (⟨v,hv,rfl,hb⟩|⟨hv,N,rfl,hb⟩)
    ·have hv6:v<16777216:=by
      have h1:=HVL.out v hv
      have h2:16 ^ T.length<=16 ^ 6:=Nat.pow_le_pow_right (by decide) hkl
      have h3:(16:Nat) ^ 6=16777216:=by decide
      omega
     have HS:=Lib.hid (size_any (v:Int) w3)
     unfold SizePost at HS
     have hr:=runeSize_iff (v:Int)
     have hE2:=HESC.out
     rw [hv] at hE2
     simp only at hE2
     cases hg:good (v:Int) with
     | true =>
       rw [hg] at hr
       rw [if_pos hg] at hE2
       have NN:=Lib.hid (HYES.out _ _ w3 hE2 hb)
       generalize runeSize (v:Int)=z at *
       have tz:(z==0)=false:=hr
       have HV6:=Lib.hid hv6
       have v6:(v:Int)<16777216:=by omega
       clear hv hb hE2 hr hg HESC HVL hv6
       go_wp2_with fail
       refine HS.out.mono ?_
       rintro e0 w4 ⟨rfl,rfl⟩
       go_wp2_with fail
       try go_ret3
       exact NN.out
     | false =>
       rw [hg] at hr
       rw [if_neg (by rw [hg];decide)] at hE2
       have NN:=Lib.hid (HNO.out 3 w3 (by decide) hE2 hb)
       generalize runeSize (v:Int)=z at *
       have tz:(z==0)=true:=hr
       have v6:(v:Int)<16777216:=by omega
       clear hv hb hE2 hr hg HESC HVL hv6
       go_wp2_with fail
       refine HS.out.mono ?_
       rintro e0 w4 ⟨rfl,rfl⟩
       go_wp2_with fail
       try go_ret3
       exact NN.out
    ·have hE2:=HESC.out
     rw [hv] at hE2
     have NN:=Lib.hid (HNO.out 4 w3 (by decide) hE2 hb)
     clear hv hb hE2 HESC HVL
     go_wp2_with fail
     try go_ret3
     exact NN.out
def Tabs (w:World):Prop:=Lib.Utf8Tabs 1 2 w
theorem Tabs.keep {w w':World} (h:Tabs w) (hb:Below w.heap.size w w'):Tabs w':=Utf8Tabs_below h hb
def dec (l:List UInt8):Nat×Nat:=if l=[] then (65533,0) else Lib.decodeL l
theorem decodeGo_dec (s:ByteArray):Lib.decodeGo s=dec s.data.toList:=by
 unfold Lib.decodeGo dec
 have h:=Lib.decodeL_drop s 0
 rw [List.drop_zero] at h
 by_cases h0:s.data.toList=[]
 ·rw [if_pos h0,if_pos (by rw [Lib.size_eq,h0];rfl)]
 ·rw [if_neg h0,if_neg (by rw [Lib.size_eq];intro e;exact h0 (List.eq_nil_of_length_eq_zero e)),h]
theorem decodeL_le_len (l:List UInt8) (hne:l≠[]):(Lib.decodeL l).2<=l.length:=by
 rw [Lib.decodeL_N]
 exact Lib.decodeN_width_le _ _ _ _ _ (List.length_pos_iff.2 hne)
def NextPost (l:List UInt8) (w:World) (e:Ending) (w':World):Prop :=
 ∃ r:Int,e=.returned (.tuple #[.int .i32 r,.int .i64 (dec l).2])/\Below w.heap.size w w'
set_option maxHeartbeats 400000 in
theorem next_any (s:ByteArray) (w:World) (hT:Tabs w):Calls Tryz.prog 85 #[.string s] w (NextPost s.data.toList w):=by
 have hc:=Tryz.utf8_DecodeRuneInString s w hT
 rw [decodeGo_dec] at hc
 obtain ⟨r,hr⟩:∃ r,r=(dec s.data.toList).1:=⟨_,rfl⟩
 obtain ⟨n,hn⟩:∃ n,n=(dec s.data.toList).2:=⟨_,rfl⟩
 rw [<-hr,<-hn] at hc
 have HC:=Lib.hid hc
 have HN:=Lib.hid hn
 clear hc hr hn
 by_cases h1:r=65533
 ·subst h1
  by_cases h2:n<2
  ·go_enter Tryz.func85,Tryz.ntmps85
   go_wp2_with fail
   refine HC.out.mono ?_
   rintro e w2 ⟨rfl,hb⟩
   go_wp2
   go_ret2
   exact ⟨-1,by rw [<-HN.out];rfl,hb⟩
  ·go_enter Tryz.func85,Tryz.ntmps85
   go_wp2_with fail
   refine HC.out.mono ?_
   rintro e w2 ⟨rfl,hb⟩
   go_wp2
   go_ret2
   exact ⟨_,by rw [<-HN.out];rfl,hb⟩
 ·go_enter Tryz.func85,Tryz.ntmps85
  go_wp2_with fail
  refine HC.out.mono ?_
  rintro e w2 ⟨rfl,hb⟩
  go_wp2
  go_ret2
  exact ⟨_,by rw [<-HN.out];rfl,hb⟩
def nextR (l:List UInt8):Int:=if (dec l).1=65533/\(dec l).2<2 then -1 else ((dec l).1:Int)
def NextFull (l:List UInt8) (w:World) (e:Ending) (w':World):Prop :=
 e=.returned (.tuple #[.int .i32 (nextR l),.int .i64 (dec l).2])/\Below w.heap.size w w'
set_option maxHeartbeats 400000 in
theorem next_full (s:ByteArray) (w:World) (hT:Tabs w):Calls Tryz.prog 85 #[.string s] w (NextFull s.data.toList w):=by
 have hc:=Tryz.utf8_DecodeRuneInString s w hT
 rw [decodeGo_dec] at hc
 obtain ⟨r,hr⟩:∃ r,r=(dec s.data.toList).1:=⟨_,rfl⟩
 obtain ⟨n,hn⟩:∃ n,n=(dec s.data.toList).2:=⟨_,rfl⟩
 rw [<-hr,<-hn] at hc
 have hf:nextR s.data.toList=if r=65533/\n<2 then -1 else (r:Int):=by unfold nextR;rw [<-hr,<-hn]
 have HC:=Lib.hid hc
 have HN:=Lib.hid hn
 have HF:=Lib.hid hf
 clear hf
 clear hc hr hn
 by_cases h1:r=65533
 ·subst h1
  by_cases h2:n<2
  ·have FX:=Lib.hid (HF.out.trans (if_pos ⟨rfl,h2⟩))
   go_enter Tryz.func85,Tryz.ntmps85
   go_wp2_with fail
   refine HC.out.mono ?_
   rintro e w2 ⟨rfl,hb⟩
   go_wp2
   go_ret2
   exact ⟨by rw [<-HN.out,FX.out];rfl,hb⟩
  ·have FX:=Lib.hid (HF.out.trans (if_neg (fun h=>h2 h.2)))
   go_enter Tryz.func85,Tryz.ntmps85
   go_wp2_with fail
   refine HC.out.mono ?_
   rintro e w2 ⟨rfl,hb⟩
   go_wp2
   go_ret2
   exact ⟨by rw [<-HN.out,FX.out];rfl,hb⟩
 ·have FX:=Lib.hid (HF.out.trans (if_neg (fun h=>h1 h.1)))
  go_enter Tryz.func85,Tryz.ntmps85
  go_wp2_with fail
  refine HC.out.mono ?_
  rintro e w2 ⟨rfl,hb⟩
  go_wp2
  go_ret2
  exact ⟨by rw [<-HN.out,FX.out];rfl,hb⟩
def BadPost (l:List UInt8) (w:World) (e:Ending) (w':World):Prop :=
 ∃ i:Int,e=.returned (.int .i64 i)/\(i<0↔okText l)/\Below w.heap.size w w'
theorem drop_ne {l:List UInt8} {p:Nat} (h:p<l.length):l.drop p≠[]:=by
 intro e
 have:=congrArg List.length e
 simp at this
 omega
set_option maxHeartbeats 1000000 in
theorem bad_any (s:ByteArray) (w:World) (hT:Tabs w) (hs:s.size<=4611686018427387904):Calls Tryz.prog 51 #[.string s] w (BadPost s.data.toList w):=by
 have hsl:=Lib.size_eq s
 obtain ⟨l,hl⟩:∃ l,l=s.data.toList:=⟨_,rfl⟩
 rw [<-hl] at hsl ⊢
 have HL:=Lib.hid hl
 have HSL:=Lib.hid hsl
 have HT:=Lib.hid hT
 clear hl hsl hT
 go_enter Tryz.func51,Tryz.ntmps51
 go_wp2
 go_loopw [] (fun wr=>∃ pos:Nat,wr.heap[w.heap.size]?=some (.stringIter s pos)/\Below w.heap.size w wr/\Hid (okText (l.drop pos)↔okText l)/\pos<=s.size) (fun wr=>s.size - wr.iterPos w.heap.size)
 case atStart =>
  refine ⟨0,World.iter_heap w s 0,(Below.refl _ w).alloc (Nat.le_refl _) _,?_,Nat.zero_le _⟩
  show _↔_
  rw [List.drop_zero]
 case round =>
  obtain ⟨pos,hit,hbw,hok,hps⟩:=hrel
  have hsz:w.heap.size<wr.heap.size:=(Array.getElem?_eq_some_iff.1 hit).1
  by_cases hp:pos<s.size
  ·have hnx:∀ ty,(Instr.next (.pointer (some ⟨w.heap.size,0,none⟩)) true ty).run Tryz.prog wr=_:=fun ty=>Lib.run_next_any_at wr w.heap.size s pos ty hit hp
   have hdd:=Lib.decodeL_drop s pos
   rw [<-HL.out] at hdd
   rw [<-hdd] at hnx
   have hne:l.drop pos≠[]:=drop_ne (by have:=HSL.out;omega)
   have hd1:=decodeL_pos (l.drop pos)
   have hd4:pos+(Lib.decodeL (l.drop pos)).2<=s.size:=by
    have h5:=decodeL_le_len (l.drop pos) hne
    rw [List.length_drop,<-HSL.out] at h5
    omega
   have hst:=okText_step (l.drop pos) hne
   rw [hok.out,List.drop_drop] at hst
   obtain ⟨r,hr⟩:∃ r,r=(Lib.decodeL (l.drop pos)).1:=⟨_,rfl⟩
   obtain ⟨n,hn⟩:∃ n,n=(Lib.decodeL (l.drop pos)).2:=⟨_,rfl⟩
   have hpair:Lib.decodeL (l.drop pos)=(r,n):=by rw [hr,hn]
   rw [<-hr,<-hn] at hnx
   rw [<-hn] at hd1 hd4
   rw [hpair] at hst
   have hdec:dec (l.drop pos)=(r,n):=by unfold dec;rw [if_neg hne,hpair]
   have hit2:=Lib.iterAt_heap wr w.heap.size s pos (pos+n) hit
   have hbw2:=Lib.below_iterAt hbw (k:=w.heap.size) (Nat.le_refl _) s (pos+n)
   have hsz2:w.heap.size<(wr.iterAt w.heap.size s (pos+n)).heap.size:=by rw [Lib.iterAt_size];exact hsz
   have HST:=Lib.hid hst
   have HDEC:=Lib.hid hdec
   clear hst hdec hpair hr hn hne hdd
   by_cases h1:r=65533
   ·subst h1
    obtain ⟨w1,hw1⟩:∃ w1,w1=wr.iterAt w.heap.size s (pos+n):=⟨_,rfl⟩
    rw [<-hw1] at hit2 hbw2 hsz2
    have HX:=Lib.hid (next_any (s.extract pos s.size) w1 (HT.out.keep hbw2))
    unfold NextPost at HX
    rw [Lib.extract_to_end,<-HL.out,HDEC.out] at HX
    have HW:=Lib.hid hw1
    by_cases h2:n=1
    ·subst h2
     go_wp2_with fail
     rw [<-HW.out]
     refine HX.out.mono ?_
     rintro e w2 ⟨r2,rfl,hb⟩
     have hb2:Below w.heap.size w w2:=hbw2.trans (hb.mono (by omega))
     go_wp2
     go_ret
     refine ⟨(pos:Int),rfl,⟨fun h=>by omega,fun h=>?_⟩,hb2⟩
     exact absurd rfl (HST.out.1 h).1
    ·have hb2:((n:Int)==1)=false:=by simp;omega
     have hn1:((65533,n):Nat×Nat)≠(65533,1):=by intro e;exact h2 (Prod.mk.inj e).2
     go_wp2_with fail
     rw [<-HW.out]
     refine HX.out.mono ?_
     rintro e w2 ⟨r2,rfl,hb⟩
     have hb3:Below w.heap.size w w2:=hbw2.trans (hb.mono (by omega))
     have hit3:w2.heap[w.heap.size]?=some (.stringIter s (pos+n)):=by rw [hb.block _ hsz2];exact hit2
     have hok2:Hid (okText (l.drop (pos+n))↔okText l):=by
      show _↔_
      rw [HST.out];exact ⟨fun h=>⟨hn1,h⟩,fun h=>h.2⟩
     clear hb hit2 hbw2
     go_wp2
     go_roundw
     case rel=>exact ⟨pos+n,hit3,hb3,hok2,hd4⟩
     case measure =>
      simp only [World.iterPos,hit3,hit]
      omega
   ·have hn1:((r,n):Nat×Nat)≠(65533,1):=by intro e;exact h1 (Prod.mk.inj e).1
    have hok2:Hid (okText (l.drop (pos+n))↔okText l):=by
     show _↔_
     rw [HST.out];exact ⟨fun h=>⟨hn1,h⟩,fun h=>h.2⟩
    have hr2:((r:Int)==65533)=false:=by simp;omega
    go_wp2
    go_roundw
    case rel=>exact ⟨pos+n,hit2,hbw2,hok2,hd4⟩
    case measure =>
     simp only [World.iterPos,hit2,hit]
     omega
  ·have hnx:∀ ty,(Instr.next (.pointer (some ⟨w.heap.size,0,none⟩)) true ty).run Tryz.prog wr=_:=fun ty=>Lib.run_next_end_at wr w.heap.size s pos ty hit hp
   have hfin:okText l:=by
    rw [<-hok.out,List.drop_eq_nil_of_le (by have:=HSL.out;omega)];exact okText_nil
   go_wp2
   go_ret
   exact ⟨-1,rfl,⟨fun _=>hfin,fun _=>by omega⟩,hbw⟩
end Go.Proofs.YtldhmfkojaekfaaGreatDoor
