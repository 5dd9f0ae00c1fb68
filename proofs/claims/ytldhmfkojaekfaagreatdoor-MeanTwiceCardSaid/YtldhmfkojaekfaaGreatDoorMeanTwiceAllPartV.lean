/-
  Lemmas for the statement: plain laws, and what functions answer; the conditions stand in each.
-/
import Derived.Laws.EntriesVeiled
import Derived.Test.YtldhmfkojaekfaaGreatDoorRows
import Derived.Lib.LaidTab
import Derived.Lib.LaidU8
import Derived.PinnedBridge
import Derived.ProofKit
import Derived.LaidLaws
import Derived.HandedShaped
import Derived.Test.YtldhmfkojaekfaaGreatDoorMeanTwiceAllPartU
set_option linter.unusedVariables false
set_option linter.unusedSimpArgs false
namespace Go.Proofs.YtldhmfkojaekfaaGreatDoor
open Go.RowKit Gx
set_option maxRecDepth 100000
set_option maxHeartbeats 8000000 in
theorem all2_any (b:Nat) (many:Bool) (l:List UInt8) (deep:Nat) (xs:List (List UInt8)) (c1 c2 c3:Value) (Q:Nat->Prop) (w:World) (h:Prn b many l w) (hdp:deep<=20) (hn:xs.length<=1000) (M:Nat) (hM:M<=1000000000000) (hop:l.length+1+(partsT many deep xs).length+100<=M)
 (hone:∀ (i:Nat) (x:List UInt8),xs[i]?=some x->∀ (W:World) (l':List UInt8),Prn b many l' W->KeepP b w W->l'.length+x.length+100<=M->Calls Tryz.prog 59 #[.int .i64 i,c1,c2,c3] W (PrnQ b many (l'++x) (Q i) W)) :
 Calls Tryz.prog 57 #[.pointer (some ⟨b,0,none⟩),.string ⟨#[123,125]⟩,.int .i64 xs.length,.int .i64 deep,.func (.func 59) #[] #[c1,c2,c3]] w
  (PrnQ b many (l++123::(partsT many deep xs++(tailT many deep xs.length++[125]))) (∀ i,i<xs.length->Q i) w):=by
 have HP:=Lib.hid h
 have HONE:=Lib.hid hone
 have HOP:=Lib.hid hop
 obtain ⟨n,hnn⟩:∃ n,xs.length=n:=⟨_,rfl⟩
 rw [hnn] at hn ⊢
 have HN:=Lib.hid hnn
 clear h hone hop hnn
 go_enter Tryz.func57,Tryz.ntmps57
 have HWB:Hid (Calls Tryz.prog 33 #[.pointer (some ⟨b,0,none⟩),.int .u8 (((⟨#[123,125]⟩:ByteArray)[0]'(by decide)).toNat:Nat)] w.drew (PrnPost .nilIface b many (l++[123]) w.drew)):=Lib.hid (writeByteP b many l 123 w.drew (HP.out.keep (Gx.drewN_below w 1 _)) (by have:=HOP.out;omega))
 go_wp2_with fail
 go_region_law (first|(go_simp;(with_reducible refine HWB.out.mono ?_);rintro e w2 ⟨rfl,h2,hb2,ho2,hz2⟩;have H2:=Lib.hid h2;have HK2:=Lib.hid (KeepP.mk hb2 ho2 hz2);clear h2 hb2 ho2 hz2))
 have HK:Hid (KeepP b w w2):=Lib.hid ((KeepP.of_below (Gx.drewN_below w 1 _) (Nat.le_of_lt HP.out.lt)).trans HK2.out)
 have H2':Hid (Prn b many (l++123::partsT many deep (xs.take 0)) w2):=Lib.hid (by have:=H2.out;simpa [partsT,elemsT] using this)
 clear HWB H2 HK2
 go_wp2_with fail
 go_loopw [18] (fun i wr=>∃ j:Nat,j<=n/\i=.int .i64 j/\Hid (Prn b many (l++123::partsT many deep (xs.take j)) wr)/\Hid (KeepP b w wr)/\Hid (∀ i,i<j->Q i)) (fun i _=>n - (intOf i).toNat)
 case atStart=>exact ⟨0,Nat.zero_le _,rfl,H2',HK,Lib.hid (fun i hi=>absurd hi (Nat.not_lt_zero i))⟩
 case round =>
  obtain ⟨j,hj,rfl,hP,hK,hQ⟩:=hrel
  by_cases hlt:j<n
  ·obtain ⟨x,hx⟩:∃ x,xs[j]?=some x:=⟨_,List.getElem?_eq_getElem (by have:=HN.out;omega)⟩
   have hlen:(l++123::partsT many deep (xs.take (j+1))).length+100<=M:=by
    have h1:=HOP.out
    have h2:=partsT_le (many:=many) (deep:=deep) (xs:=xs) (j+1)
    simp only [List.length_append,List.length_cons]
    omega
   have hnx:=partsT_take (many:=many) (deep:=deep) hx
   have e1:l++123::partsT many deep (xs.take (j+1))=((l++123::partsT many deep (xs.take j))++preT many deep j)++x++postT many:=by rw [hnx];simp
   rw [e1] at hlen
   have HX:=Lib.hid hx
   have HE:=Lib.hid e1
   obtain ⟨l',hl'⟩:∃ l',l'=l++123::partsT many deep (xs.take j):=⟨_,rfl⟩
   rw [<-hl'] at hlen
   have HL':=Lib.hid hl'
   have HLEN:=Lib.hid hlen
   rw [<-hl'] at hP
   clear hx hnx e1 hlen hl' H2'
   have hm:=hP.out.many_
   cases many with
   | true =>
     have hlb:((l'++preT true deep j)++x++postT true).length=l'.length+(preT true deep j).length+x.length+1:=by simp [postT];omega
     have HLB:=Lib.hid hlb
     have HRP:=Lib.hid (rep2_any (deep+1) (by omega) (IntKind.i64.wrap ((deep:Int)+1)) (by rw [IntKind.wrap_i64];omega))
     clear hlb
     have hcat:¬ 9223372036854775807<1+(indentT (deep+1)).length:=by simp [indentT];omega
     have HPW:Hid (Prn b true l' wr.drew):=Lib.hid (hP.out.keep (Gx.drewN_below wr 1 _))
     have HKW:Hid (KeepP b w wr.drew):=Lib.hid (hK.out.trans (KeepP.of_below (Gx.drewN_below wr 1 _) (Nat.le_of_lt hP.out.lt)))
     have HLS:Hid (l'.length+((⟨#[10]⟩:ByteArray)++⟨(indentT (deep+1)).toArray⟩).size<=140737488355328):=Lib.hid (by
      have:=HLEN.out;rw [HLB.out] at this;rw [nl_size];simp [indentT];omega)
     have HLX:Hid ((l'++preT true deep j).length+x.length+100<=M):=Lib.hid (by
      have:=HLEN.out;rw [HLB.out] at this;rw [List.length_append];omega)
     have HLY:Hid (((l'++preT true deep j)++x).length+1<=140737488355328):=Lib.hid (by
      have:=HLEN.out;rw [HLB.out] at this;rw [List.length_append,List.length_append];omega)
     clear hP hK HLB
     go_wp2_with fail
     clear hm
     go_region_law (first|(go_simp;(with_reducible refine (HRP.out _).mono ?_);rintro e w3 ⟨rfl,hb3⟩;have HB3:=Lib.hid hb3;clear hb3)|(go_simp;(with_reducible refine (writeStrP b true l' _ w3 (HPW.out.keep HB3.out) HLS.out).mono ?_);rintro e w4 ⟨rfl,h4,hb4,ho4,hz4⟩;have H4:=Lib.hid h4;have HK4:=Lib.hid (KeepP.mk hb4 ho4 hz4);clear h4 hb4 ho4 hz4))
     have H5:Hid (Prn b true (l'++preT true deep j) w4):=Lib.hid (by have:=H4.out;rw [nl_list] at this;exact this)
     have HK5:Hid (KeepP b w w4):=Lib.hid ((HKW.out.trans (KeepP.of_below HB3.out (Nat.le_of_lt HPW.out.lt))).trans HK4.out)
     clear H4 HK4 HB3 HKW HPW HLS HRP hcat
     go_wp2_with fail
     refine (HONE.out j x HX.out w4 _ H5.out HK5.out HLX.out).mono ?_
     rintro e w6 ⟨⟨⟨v6,rfl⟩,h6,hk6⟩,hq6⟩
     have HQ6:Hid (∀ i,i<j+1->Q i):=Lib.hid (fun i hi=>by rcases Nat.lt_succ_iff_lt_or_eq.1 hi with h|h;exact hQ.out i h;rw [h];exact hq6)
     have hm6:=h6.many_
     have HWB:Hid (Calls Tryz.prog 33 #[.pointer (some ⟨b,0,none⟩),.int .u8 44] w6 (PrnPost .nilIface b true (((l'++preT true deep j)++x)++[44]) w6)):=Lib.hid (writeByteP b true _ 44 w6 h6 HLY.out)
     have HK6:=Lib.hid (HK5.out.trans hk6)
     clear h6 hk6 H5 HK5 HLX HLY
     go_wp2_with fail
     (with_reducible refine HWB.out.mono ?_)
     rintro e w7 ⟨rfl,h7,hb7,ho7,hz7⟩
     have H7:Hid (Prn b true (l++123::partsT true deep (xs.take (j+1))) w7):=Lib.hid (by rw [HE.out,<-HL'.out];exact h7)
     have HK7:=Lib.hid (HK6.out.trans (KeepP.mk hb7 ho7 hz7))
     clear h7 hb7 ho7 hz7 HWB HK6 HE HL' HLEN
     go_wp2_with fail
     go_roundw
     case rel=>exact ⟨j+1,by omega,by go_num,H7,HK7,HQ6⟩
     case measure=>simp [intOf];omega
   | false =>
     have hlb:((l'++preT false deep j)++x++postT false).length=l'.length+(preT false deep j).length+x.length:=by simp [postT];omega
     have HLB:=Lib.hid hlb
     clear hlb
     have HLX:Hid ((l'++preT false deep j).length+x.length+100<=M):=Lib.hid (by
      have:=HLEN.out;rw [HLB.out] at this;rw [List.length_append];omega)
     have HEND:Hid (∀ l2:List UInt8,l2=(l'++preT false deep j)++x->l2=l++123::partsT false deep (xs.take (j+1))):=Lib.hid (fun l2 h2=>by rw [HE.out,<-HL'.out,h2];simp [postT])
     by_cases hj0:0<j
     ·have hji:(0:Int)<(j:Int):=by omega
      have HPR:Hid (preT false deep j=[44,32]):=Lib.hid (by simp only [preT,Bool.false_eq_true,if_false];rw [if_neg (by omega)])
      have HWS:=Lib.hid (writeStrP b false l' ⟨#[44,32]⟩ wr hP.out (by have:=HLEN.out;rw [HLB.out,HPR.out] at this;show l'.length+2<=_;simp only [List.length_cons,List.length_nil] at this;omega))
      clear HLB
      go_wp2_with fail
      (with_reducible refine HWS.out.mono ?_)
      rintro e w4 ⟨rfl,h4,hb4,ho4,hz4⟩
      have H5:Hid (Prn b false (l'++preT false deep j) w4):=Lib.hid (by rw [HPR.out];exact h4)
      have HK5:=Lib.hid (hK.out.trans (KeepP.mk hb4 ho4 hz4))
      clear h4 hb4 ho4 hz4 HWS HPR hm hji hP hK
      go_wp2_with fail
      refine (HONE.out j x HX.out w4 _ H5.out HK5.out HLX.out).mono ?_
      rintro e w6 ⟨⟨⟨v6,rfl⟩,h6,hk6⟩,hq6⟩
      have HQ6:Hid (∀ i,i<j+1->Q i):=Lib.hid (fun i hi=>by rcases Nat.lt_succ_iff_lt_or_eq.1 hi with h|h;exact hQ.out i h;rw [h];exact hq6)
      have hm6:=h6.many_
      have H7:Hid (Prn b false (l++123::partsT false deep (xs.take (j+1))) w6):=Lib.hid (by rw [<-HEND.out _ rfl];exact h6)
      have HK7:=Lib.hid (HK5.out.trans hk6)
      clear h6 hk6 H5 HK5 HLX HEND HE HL' HLEN
      go_wp2_with fail
      go_roundw
      case rel=>exact ⟨j+1,by omega,by go_num,H7,HK7,HQ6⟩
      case measure=>simp [intOf];omega
     ·obtain rfl:j=0:=by omega
      have H5:Hid (Prn b false (l'++preT false deep 0) wr):=Lib.hid (by simp only [preT,Bool.false_eq_true,if_false,if_true,List.append_nil];exact hP.out)
      clear HLB
      go_wp2_with fail
      refine (HONE.out 0 x HX.out wr _ H5.out hK.out HLX.out).mono ?_
      rintro e w6 ⟨⟨⟨v6,rfl⟩,h6,hk6⟩,hq6⟩
      have HQ6:Hid (∀ i,i<0+1->Q i):=Lib.hid (fun i hi=>by rcases Nat.lt_succ_iff_lt_or_eq.1 hi with h|h;exact hQ.out i h;rw [h];exact hq6)
      have hm6:=h6.many_
      have H7:Hid (Prn b false (l++123::partsT false deep (xs.take (0+1))) w6):=Lib.hid (by rw [<-HEND.out _ rfl];exact h6)
      have HK7:=Lib.hid (hK.out.trans hk6)
      clear h6 hk6 H5 hP hK HLX HEND HE HL' HLEN hm
      go_wp2_with fail
      go_roundw
      case rel=>exact ⟨0+1,by omega,by go_num,H7,HK7,HQ6⟩
      case measure=>simp [intOf];omega
  ·obtain rfl:j=n:=by omega
   have hT:xs.take j=xs:=by rw [<-HN.out,List.take_length]
   rw [hT] at hP
   have hm:=hP.out.many_
   have HW':=hP
   clear hT H2'
   cases many with
   | true =>
     by_cases hj0:0<j
     ·have hji:(0:Int)<(j:Int):=by omega
      have HTL:Hid (tailT true deep j=10::indentT deep):=Lib.hid (by simp [tailT,hj0])
      have HWC:Hid (∀ W:World,Prn b true (l++123::(partsT true deep xs++tailT true deep j)) W->Calls Tryz.prog 33 #[.pointer (some ⟨b,0,none⟩),.int .u8 (((⟨#[123,125]⟩:ByteArray)[1]'(by decide)).toNat:Nat)] W (PrnPost .nilIface b true ((l++123::(partsT true deep xs++tailT true deep j))++[125]) W)):=Lib.hid (fun W hW=>writeByteP b true _ 125 W hW (by
       have h1:=HOP.out;have h2:=tailT_le true deep j
       simp only [List.length_append,List.length_cons];omega))
      have hcat:¬ 9223372036854775807<1+(indentT deep).length:=by simp [indentT];omega
      have HRP:=Lib.hid (rep2_any deep (by omega) (deep:Int) rfl)
      have HPW:Hid (Prn b true (l++123::partsT true deep xs) wr.drew):=Lib.hid (hP.out.keep (Gx.drewN_below wr 1 _))
      have HKW:Hid (KeepP b w wr.drew):=Lib.hid (hK.out.trans (KeepP.of_below (Gx.drewN_below wr 1 _) (Nat.le_of_lt hP.out.lt)))
      have HLS:Hid ((l++123::partsT true deep xs).length+((⟨#[10]⟩:ByteArray)++⟨(indentT deep).toArray⟩).size<=140737488355328):=Lib.hid (by
       have h1:=HOP.out;rw [nl_size];simp only [List.length_append,List.length_cons,indentT,List.length_replicate];omega)
      clear hP hK HW'
      go_wp2_with fail
      clear hm
      go_region_law (first|(go_simp;(with_reducible refine (HRP.out _).mono ?_);rintro e w3 ⟨rfl,hb3⟩;have HB3:=Lib.hid hb3;clear hb3)|(go_simp;(with_reducible refine (writeStrP b true _ _ w3 (HPW.out.keep HB3.out) HLS.out).mono ?_);rintro e w4 ⟨rfl,h4,hb4,ho4,hz4⟩;have H4:=Lib.hid h4;have HK4:=Lib.hid (KeepP.mk hb4 ho4 hz4);clear h4 hb4 ho4 hz4))
      have HQ:Hid (Prn b true (l++123::(partsT true deep xs++tailT true deep j)) w4.drew):=Lib.hid (by
       have:=H4.out;rw [nl_list] at this;rw [HTL.out];exact (by simpa using this:Prn b true _ w4).keep (Gx.drewN_below w4 1 _))
      have HKQ:Hid (KeepP b w w4.drew):=Lib.hid (((HKW.out.trans (KeepP.of_below HB3.out (Nat.le_of_lt HPW.out.lt))).trans HK4.out).trans (KeepP.of_below (Gx.drewN_below w4 1 _) (Nat.le_of_lt H4.out.lt)))
      clear H4 HK4 HB3 HKW HPW HLS HRP hcat
      go_wp2_with fail
      go_region_law (first|(go_simp;(with_reducible refine (HWC.out _ HQ.out).mono ?_);rintro e w9 ⟨rfl,h9,hb9,ho9,hz9⟩;have H9:=Lib.hid h9;have HK9:=Lib.hid (KeepP.mk hb9 ho9 hz9);clear h9 hb9 ho9 hz9))
      go_wp2_with fail
      try go_end0
      exact ⟨⟨⟨_,rfl⟩,by have:=H9.out;simpa using this,HKQ.out.trans HK9.out⟩,hQ.out⟩
     ·obtain rfl:j=0:=by omega
      have HWC:Hid (∀ W:World,Prn b true (l++123::(partsT true deep xs++tailT true deep 0)) W->Calls Tryz.prog 33 #[.pointer (some ⟨b,0,none⟩),.int .u8 (((⟨#[123,125]⟩:ByteArray)[1]'(by decide)).toNat:Nat)] W (PrnPost .nilIface b true ((l++123::(partsT true deep xs++tailT true deep 0))++[125]) W)):=Lib.hid (fun W hW=>writeByteP b true _ 125 W hW (by
       have h1:=HOP.out;have h2:=tailT_le true deep 0
       simp only [List.length_append,List.length_cons];omega))
      have HQ:Hid (Prn b true (l++123::(partsT true deep xs++tailT true deep 0)) wr.drew):=Lib.hid (by
       have:Prn b true _ wr.drew:=hP.out.keep (Gx.drewN_below wr 1 _);simpa [tailT] using this)
      have HKQ:Hid (KeepP b w wr.drew):=Lib.hid (hK.out.trans (KeepP.of_below (Gx.drewN_below wr 1 _) (Nat.le_of_lt hP.out.lt)))
      clear hP hK HW'
      go_wp2_with fail
      go_region_law (first|(go_simp;(with_reducible refine (HWC.out _ HQ.out).mono ?_);rintro e w9 ⟨rfl,h9,hb9,ho9,hz9⟩;have H9:=Lib.hid h9;have HK9:=Lib.hid (KeepP.mk hb9 ho9 hz9);clear h9 hb9 ho9 hz9))
      go_wp2_with fail
      try go_end0
      exact ⟨⟨⟨_,rfl⟩,by have:=H9.out;simpa using this,HKQ.out.trans HK9.out⟩,hQ.out⟩
   | false =>
     have HWC:Hid (∀ W:World,Prn b false (l++123::(partsT false deep xs++tailT false deep j)) W->Calls Tryz.prog 33 #[.pointer (some ⟨b,0,none⟩),.int .u8 (((⟨#[123,125]⟩:ByteArray)[1]'(by decide)).toNat:Nat)] W (PrnPost .nilIface b false ((l++123::(partsT false deep xs++tailT false deep j))++[125]) W)):=Lib.hid (fun W hW=>writeByteP b false _ 125 W hW (by
      have h1:=HOP.out;have h2:=tailT_le false deep j
      simp only [List.length_append,List.length_cons];omega))
     have HQ:Hid (Prn b false (l++123::(partsT false deep xs++tailT false deep j)) wr.drew):=Lib.hid (by
      have:Prn b false _ wr.drew:=hP.out.keep (Gx.drewN_below wr 1 _);simpa [tailT] using this)
     have HKQ:Hid (KeepP b w wr.drew):=Lib.hid (hK.out.trans (KeepP.of_below (Gx.drewN_below wr 1 _) (Nat.le_of_lt hP.out.lt)))
     clear hP hK HW'
     go_wp2_with fail
     go_region_law (first|(go_simp;(with_reducible refine (HWC.out _ HQ.out).mono ?_);rintro e w9 ⟨rfl,h9,hb9,ho9,hz9⟩;have H9:=Lib.hid h9;have HK9:=Lib.hid (KeepP.mk hb9 ho9 hz9);clear h9 hb9 ho9 hz9))
     go_wp2_with fail
     try go_end0
     exact ⟨⟨⟨_,rfl⟩,by have:=H9.out;simpa using this,HKQ.out.trans HK9.out⟩,hQ.out⟩
set_option maxRecDepth 100000
theorem bx_new (b deep:Nat) (q:Loc) (W:World) (hb:b<W.heap.size):Bx b W.heap.size deep q (((W.alloc (.cells #[.pointer (some ⟨b,0,none⟩)] 70)).alloc (.cells #[.int .i64 q.v.k,.int .i64 q.v.n,.int .u64 q.v.f,.string q.v.s,.slice q.ad q.v.l.length q.cap,.slice q.bd q.v.e.length q.dap] 26)).alloc (.cells #[.int .i64 deep] 3)):=by
 obtain ⟨w1,hw1⟩:∃ w1,w1=W.alloc (.cells #[.pointer (some ⟨b,0,none⟩)] 70):=⟨_,rfl⟩
 obtain ⟨w2,hw2⟩:∃ w2,w2=w1.alloc (.cells #[.int .i64 q.v.k,.int .i64 q.v.n,.int .u64 q.v.f,.string q.v.s,.slice q.ad q.v.l.length q.cap,.slice q.bd q.v.e.length q.dap] 26):=⟨_,rfl⟩
 have z1:w1.heap.size=W.heap.size+1:=by rw [hw1];simp
 have z2:w2.heap.size=W.heap.size+2:=by rw [hw2];simp [z1]
 rw [<-hw1,<-hw2]
 refine ⟨hb,?_,?_,?_⟩
 ·rw [Below.heap_alloc _ _ _ (by omega),hw2,Below.heap_alloc _ _ _ (by omega),hw1];exact heap_alloc_new W _
 ·rw [Below.heap_alloc _ _ _ (by omega),hw2,<-z1];exact heap_alloc_new w1 _
 ·rw [<-z2];exact heap_alloc_new w2 _
theorem keepP_new (b deep:Nat) (q:Loc) (W:World) (hb:b<W.heap.size):KeepP b W (((W.alloc (.cells #[.pointer (some ⟨b,0,none⟩)] 70)).alloc (.cells #[.int .i64 q.v.k,.int .i64 q.v.n,.int .u64 q.v.f,.string q.v.s,.slice q.ad q.v.l.length q.cap,.slice q.bd q.v.e.length q.dap] 26)).alloc (.cells #[.int .i64 deep] 3)) :=
 KeepP.of_below (((Below.refl _ W).alloc (Nat.le_refl _) _).alloc (by simp) _ |>.alloc (by simp;omega) _) (Nat.le_of_lt hb)
theorem get_map {α β:Type} {f:α->β} {l:List α} {i:Nat} {x:β} (h:(l.map f)[i]?=some x):∃ y,l[i]?=some y/\f y=x:=by
 rw [List.getElem?_map,Option.map_eq_some_iff] at h
 exact h
theorem partsT_map (many:Bool) (deep:Nat) {α:Type} (E:α->List UInt8) (l:List α):partsT many deep (l.map E)=elemsT many deep E 0 l:=by
 unfold partsT;rw [elemsT_map]
set_option maxHeartbeats 8000000 in
theorem valueSh_step (many:Bool) (b d deep:Nat) (hdd:deep+(d+1)<=20) (HV:ValOkS many b d (deep+1)):ValOkS many b (d+1) deep:=by
 intro q W l hp hq hg hl wt hwt hT hbw
 have hbl:=hp.lt
 have hbx:=bx_new b deep q W hbl
 have hkp:=keepP_new b deep q W hbl
 have hbb:Below W.heap.size W (((W.alloc (.cells #[.pointer (some ⟨b,0,none⟩)] 70)).alloc (.cells #[.int .i64 q.v.k,.int .i64 q.v.n,.int .u64 q.v.f,.string q.v.s,.slice q.ad q.v.l.length q.cap,.slice q.bd q.v.e.length q.dap] 26)).alloc (.cells #[.int .i64 deep] 3)) :=
  ((Below.refl _ W).alloc (Nat.le_refl _) _).alloc (by simp) _ |>.alloc (by simp;omega) _
 obtain ⟨w3,hw3⟩:∃ w3,w3=(((W.alloc (.cells #[.pointer (some ⟨b,0,none⟩)] 70)).alloc (.cells #[.int .i64 q.v.k,.int .i64 q.v.n,.int .u64 q.v.f,.string q.v.s,.slice q.ad q.v.l.length q.cap,.slice q.bd q.v.e.length q.dap] 26)).alloc (.cells #[.int .i64 deep] 3)):=⟨_,rfl⟩
 rw [<-hw3] at hbx hkp hbb
 have hp3:=hp.keep hbb
 have hq3:=vat_keep hq hkp
 have hbw3:=hbw.trans hkp.below
 have hsz3:=hbw3.size
 have hsz3b:b<=w3.heap.size:=by rw [<-hwt];exact hsz3
 have hTW:∀ W2:World,Below b wt W2->STabs W2:=fun W2 hb=>hT.keep (by rw [hwt];exact hb)
 have ok:=hg.ok
 have hos:=ownV_zero hg.1
 obtain ⟨n0,hn0⟩:∃ n0,n0=W.heap.size:=⟨_,rfl⟩
 have z1:(W.alloc (.cells #[.pointer (some ⟨b,0,none⟩)] 70)).heap.size=n0+1:=by rw [hn0];simp
 have z2:((W.alloc (.cells #[.pointer (some ⟨b,0,none⟩)] 70)).alloc (.cells #[.int .i64 q.v.k,.int .i64 q.v.n,.int .u64 q.v.f,.string q.v.s,.slice q.ad q.v.l.length q.cap,.slice q.bd q.v.e.length q.dap] 26)).heap.size=n0+2:=by rw [hn0];simp
 rw [<-hn0] at hbx
 have cp:=hbx.cp
 obtain ⟨v0,v1,v2,v3,v4,v5⟩:=hbx.cv
 have cd:=hbx.cd
 unfold Loc.val
 by_cases h5:q.v.k=5
 ·have he0:q.v.e=[]:=ok.e (by omega)
  have hall:Calls Tryz.prog 57 #[.pointer (some ⟨b,0,none⟩),.string ⟨#[91,93]⟩,.int .i64 q.v.l.length,.int .i64 deep,.func (.func 58) #[] #[.pointer (some ⟨n0,0,none⟩),.pointer (some ⟨n0+1,0,none⟩),.pointer (some ⟨n0+2,0,none⟩)]] w3 (PrnQ b many (l++shwD leafT keyT many (d+1) deep q.v) (Tx (d+1) q.v) w3):=by
   have e1:shwD leafT keyT many (d+1) deep q.v=91::(elemsT many deep (shwD leafT keyT many d (deep+1)) 0 q.v.l++(tailT many deep q.v.l.length++[93])):=by rw [shwD,if_pos h5]
   have ha:=all1_any b many l deep (q.v.l.map (shwD leafT keyT many d (deep+1))) (.pointer (some ⟨n0,0,none⟩)) (.pointer (some ⟨n0+1,0,none⟩)) (.pointer (some ⟨n0+2,0,none⟩)) (fun i=>∀ y,q.v.l[i]?=some y->Tx d y) w3 hp3 (by omega) (by rw [List.length_map];omega) (1000000000000 - 100 * d) (by omega) (by
    rw [partsT_map];rw [e1] at hl;simp only [List.length_cons,List.length_append] at hl;omega) (fun i x hx W2 l' hp2 hk2 hl2=>by
    obtain ⟨y,hy,rfl⟩:=get_map hx
    refine (one1_any many b d deep n0 q HV wt hwt hT (by omega) hg i y hy W2 l' hp2 (hbx.keep hk2) (vat_keep hq3 hk2) (hbw3.trans hk2.below) (by omega)).mono ?_
    rintro e w' ⟨h1,h2⟩
    exact ⟨h1,fun z hz=>by rw [hy] at hz;obtain rfl:=Option.some.inj hz;exact h2⟩)
   rw [List.length_map,partsT_map,<-e1] at ha
   refine ha.mono ?_
   rintro e w' ⟨h1,h2⟩
   refine ⟨h1,hq.wf,fun h=>by omega,fun x hx=>?_,fun x hx=>by rw [he0] at hx;cases hx⟩
   obtain ⟨i,hi,rfl⟩:=List.getElem_of_mem hx
   exact h2 i hi _ (List.getElem?_eq_getElem hi)
  have HC:=Lib.hid hall
  have HKP:=Lib.hid hkp
  have HW3:=Lib.hid hw3
  clear hall HV hp hq hl hT hbw hbx hkp hbb hp3 hq3 hbw3 hTW hos ok he0 hg hw3 z1 z2
  rw [h5] at v0 HW3 ⊢
  go_enter Tryz.func32,Tryz.ntmps32
  go_upto_region 1 with fail
  rw [<-HW3.out,<-hn0]
  clear HW3 hn0
  go_wp2_with fail
  refine HC.out.mono ?_
  rintro e w4 ⟨⟨⟨v,rfl⟩,h4,hk4⟩,ht⟩
  have HR:Hid (PrnQ b many (l++shwD leafT keyT many (d+1) deep q.v) (Tx (d+1) q.v) W (.returned (.tuple #[])) w4):=Lib.hid ⟨⟨⟨_,rfl⟩,h4,HKP.out.trans hk4⟩,ht⟩
  clear h4 hk4 ht HC HKP cp cd v0 v1 v2 v3 v4 v5
  go_wp2_with fail
  try go_end0
  exact HR.out
 by_cases h6:q.v.k=6
 ·have he0:q.v.l=[]:=ok.l (by omega)
  have hall:Calls Tryz.prog 57 #[.pointer (some ⟨b,0,none⟩),.string ⟨#[123,125]⟩,.int .i64 q.v.e.length,.int .i64 deep,.func (.func 59) #[] #[.pointer (some ⟨n0+1,0,none⟩),.pointer (some ⟨n0,0,none⟩),.pointer (some ⟨n0+2,0,none⟩)]] w3 (PrnQ b many (l++shwD leafT keyT many (d+1) deep q.v) (Tx (d+1) q.v) w3):=by
   have e1:shwD leafT keyT many (d+1) deep q.v=123::(elemsT many deep (fun x:ByteArray×V=>keyT x.1++([58,32]++shwD leafT keyT many d (deep+1) x.2)) 0 q.v.e++(tailT many deep q.v.e.length++[125])):=by rw [shwD,if_neg h5,if_pos h6]
   have ha:=all2_any b many l deep (q.v.e.map (fun x:ByteArray×V=>keyT x.1++([58,32]++shwD leafT keyT many d (deep+1) x.2))) (.pointer (some ⟨n0+1,0,none⟩)) (.pointer (some ⟨n0,0,none⟩)) (.pointer (some ⟨n0+2,0,none⟩)) (fun i=>∀ y,q.v.e[i]?=some y->Tx d y.2) w3 hp3 (by omega) (by rw [List.length_map];omega) (1000000000000 - 100 * d) (by omega) (by
    rw [partsT_map];rw [e1] at hl;simp only [List.length_cons,List.length_append] at hl ⊢;omega) (fun i x hx W2 l' hp2 hk2 hl2=>by
    obtain ⟨y,hy,rfl⟩:=get_map hx
    refine (one2_any many b d deep n0 q HV wt hwt hT (by omega) hg i y hy W2 l' hp2 (hbx.keep hk2) (vat_keep hq3 hk2) (hbw3.trans hk2.below) (by omega)).mono ?_
    rintro e w' ⟨h1,h2⟩
    exact ⟨h1,fun z hz=>by rw [hy] at hz;obtain rfl:=Option.some.inj hz;exact h2⟩)
   rw [List.length_map,partsT_map,<-e1] at ha
   refine ha.mono ?_
   rintro e w' ⟨h1,h2⟩
   refine ⟨h1,hq.wf,fun h=>by omega,fun x hx=>(by rw [he0] at hx;cases hx),fun x hx=>?_⟩
   obtain ⟨i,hi,rfl⟩:=List.getElem_of_mem hx
   exact h2 i hi _ (List.getElem?_eq_getElem hi)
  have HC:=Lib.hid hall
  have HKP:=Lib.hid hkp
  have HW3:=Lib.hid hw3
  clear hall HV hp hq hl hT hbw hbx hkp hbb hp3 hq3 hbw3 hTW hos ok he0 hg hw3 z1 z2
  rw [h6] at v0 HW3 ⊢
  go_enter Tryz.func32,Tryz.ntmps32
  go_upto_region 1 with fail
  rw [<-HW3.out,<-hn0]
  clear HW3 hn0
  go_wp2_with fail
  refine HC.out.mono ?_
  rintro e w4 ⟨⟨⟨v,rfl⟩,h4,hk4⟩,ht⟩
  have HR:Hid (PrnQ b many (l++shwD leafT keyT many (d+1) deep q.v) (Tx (d+1) q.v) W (.returned (.tuple #[])) w4):=Lib.hid ⟨⟨⟨_,rfl⟩,h4,HKP.out.trans hk4⟩,ht⟩
  clear h4 hk4 ht HC HKP cp cd v0 v1 v2 v3 v4 v5
  go_wp2_with fail
  try go_end0
  exact HR.out
 ·have e1:shwD leafT keyT many (d+1) deep q.v=leafT q.v:=by rw [shwD,if_neg h5,if_neg h6]
  rw [e1] at hl ⊢
  have hll:l.length+(leafT q.v).length<=1000000000000:=by omega
  have hx5:q.v.e=[]:=ok.e h6
  have hl5:q.v.l=[]:=ok.l h5
  have hw3d:Below w3.heap.size w3 w3.drew:=Gx.drewN_below w3 1 _
  have hk0:KeepP b w3 w3.drew:=KeepP.drew hsz3b
  have hlf:=leafSh_any d q w3.drew (hTW _ (hbw3.trans hk0.below)) hg hq.wf h5 h6
  unfold Loc.val at hlf
  have HLF:=Lib.hid hlf
  have HK0:=Lib.hid (hkp.trans hk0)
  have HP3:=Lib.hid (hp3.keep hw3d)
  have HLL:=Lib.hid hll
  have HBX:=Lib.hid (hbx.keep hk0)
  have HTX:Hid ((q.v.k=3->∃ t,TextIs q.v.f.toNat t)->Tx (d+1) q.v):=Lib.hid (fun h=>⟨hq.wf,h,fun x hx=>(by rw [hl5] at hx;cases hx),fun x hx=>(by rw [hx5] at hx;cases hx)⟩)
  have HW3:=Lib.hid hw3
  have c5:(q.v.k==5)=false:=by rw [beq_eq_false_iff_ne];exact h5
  have c6:(q.v.k==6)=false:=by rw [beq_eq_false_iff_ne];exact h6
  have c5':decide (q.v.k=5)=false:=decide_eq_false h5
  have c6':decide (q.v.k=6)=false:=decide_eq_false h6
  clear hlf hk0 hw3d hll hl5 hx5 e1 HV hp hq hl hT hbw hbx hkp hbb hp3 hq3 hbw3 hTW hos ok hg hw3 z1 z2 h5 h6
  go_enter Tryz.func32,Tryz.ntmps32
  go_upto_region 1 with fail
  rw [<-HW3.out,<-hn0]
  clear HW3 hn0
  go_wp2_with fail
  go_region_law (first
   | (go_simp;(with_reducible refine HLF.out.mono ?_);rintro e w4 ⟨rfl,hb4,ht4⟩
      have hk4:KeepP b w3.drew w4:=KeepP.of_below hb4 (Nat.le_of_lt HP3.out.lt)
      have HK4:=Lib.hid (HK0.out.trans hk4);have cp4:=(HBX.out.keep hk4).cp
      have HWS:=Lib.hid (writeStrP b many l ⟨(leafT q.v).toArray⟩ w4 (HP3.out.keep hb4) (Nat.le_trans HLL.out (by decide)))
      have HTX4:=Lib.hid (HTX.out ht4)
      clear hb4 ht4 hk4)
   | (go_simp;(with_reducible refine HWS.out.mono ?_);rintro e w5 ⟨rfl,h5,hb5,ho5,hz5⟩
      have HR:Hid (PrnQ b many (l++leafT q.v) (Tx (d+1) q.v) W (.returned (.tuple #[])) w5):=Lib.hid ⟨⟨⟨_,rfl⟩,h5,HK4.out.trans ⟨hb5,ho5,hz5⟩⟩,HTX4.out⟩
      clear h5 hb5 ho5 hz5))
  all_goals
   go_wp2_with fail
   try go_end0
   exact HR.out
theorem valueSh_any (many:Bool) (b:Nat):∀ (d deep:Nat),deep+d<=20->ValOkS many b d deep
 | 0,_,_=>fun _ _ _ _ _ hg=>hg.elim
 | d+1,deep,h=>valueSh_step many b d deep (by omega) (valueSh_any many b d (deep+1) (by omega))
set_option maxRecDepth 100000
theorem itoa_le (n:Int) (h0:-9223372036854775808<=n) (h1:n<=9223372036854775807):(Lib.itoa n).length<=20:=by
 unfold Lib.itoa
 split
 ·rw [decDigits_text,List.length_cons]
  have:=decText_len n.natAbs 19 (by omega) (by omega)
  omega
 ·rw [decDigits_text]
  have:=decText_len n.toNat 19 (by omega) (by omega)
  omega
theorem fTxt_le (b:Nat):(fTxt b).length<=30:=by
 by_cases h:∃ t,TextIs b t
 ·obtain ⟨t,ht⟩:=h
  rw [fTxt_is ht]
  exact (text_ch ht).2.2
 ·unfold fTxt
  rw [dif_neg h]
  decide
theorem quoteT_le {s:ByteArray} (h:okText s.data.toList):(quoteT s).length<=6 * s.size+2:=by
 obtain ⟨h1,h2⟩:=runesT_ok h
 have:=quoteOf_le _ h1
 rw [<-h2,<-Lib.size_eq] at this
 exact this
theorem leafT_le {d:Nat} {v:V} (h:Gd (d+1) v) (hw:v.wf):(leafT v).length<=30000:=by
 have hs:=(ownV_zero h.1).2
 unfold leafT
 split
 ·decide
 split
 ·split<;>decide
 split
 ·have:=itoa_le v.n hw.n0 hw.n1;omega
 split
 ·have:=fTxt_le v.f.toNat;omega
 ·have:=quoteT_le hs.2.2.2;omega
theorem keyT_le {k:ByteArray} (h:KeyOk k):(keyT k).length<=1000:=by
 unfold keyT
 split
 ·rw [<-Lib.size_eq];have:=h.1;omega
 ·have:=quoteT_le h.2;have:=h.1;omega
theorem elems_le {α:Type} {many:Bool} {deep C:Nat} {E:α->List UInt8} {n:α->Nat} (hd:deep<=20):∀ (l:List α) (i:Nat),(∀ x∈l,(E x).length+50<=C * n x)->(elemsT many deep E i l).length<=C * (l.map n).sum
 | [],_,_=>by simp [elemsT]
 | x::l,i,h=>by
   have h1:=h x (by simp)
   have h2:=elems_le (many:=many) (deep:=deep) hd l (i+1) (fun y hy=>h y (by simp [hy]))
   have h3:(preT many deep i).length<=43:=by
    unfold preT indentT
    split
    ·simp;omega
    ·split<;>simp
   have h4:(postT many).length<=1:=by unfold postT;split<;>simp
   simp only [elemsT,List.length_append,List.map_cons,List.sum_cons,Nat.mul_add]
   omega
theorem shw_le {many:Bool}:∀ (d deep:Nat) (v:V),deep+d<=20->Gd d v->WfAll v->(shwD leafT keyT many d deep v).length+2000<=40000 * v.nodes
 | 0,_,_,_,h,_=>h.elim
 | d+1,deep,v,hdd,h,hw=>by
   have ht:=tailT_le many deep
   rw [nodes_eq v]
   unfold V.parts
   rw [nodesL_app]
   by_cases h5:v.k=5
   ·have he:v.e=[]:=h.ok.e (by omega)
    have h1:=elems_le (many:=many) (deep:=deep) (C:=40000) (E:=shwD leafT keyT many d (deep+1)) (n:=V.nodes) (by omega) v.l 0 (fun x hx=>by
     have:=shw_le (many:=many) d (deep+1) x (by omega) (h.l x hx) (hw.l x hx);omega)
    have h2:=ht v.l.length
    rw [shwD,if_pos h5,he]
    simp only [List.length_cons,List.length_append,List.length_nil,List.map_nil,nodesL_nil]
    unfold nodesL
    omega
   by_cases h6:v.k=6
   ·have he:v.l=[]:=h.ok.l (by omega)
    have h1:=elems_le (many:=many) (deep:=deep) (C:=40000) (E:=fun x:ByteArray×V=>keyT x.1++([58,32]++shwD leafT keyT many d (deep+1) x.2)) (n:=fun x:ByteArray×V=>x.2.nodes) (by omega) v.e 0 (fun x hx=>by
     have h1:=shw_le (many:=many) d (deep+1) x.2 (by omega) (h.e x hx) (hw.e x hx)
     have h2:=keyT_le (keyE_short _ _ h.2.1 x hx)
     simp only [List.length_append,List.length_cons,List.length_nil]
     omega)
    have h2:=ht v.e.length
    rw [shwD,if_neg h5,if_pos h6,he]
    simp only [List.length_cons,List.length_append,List.length_nil,nodesL_nil]
    unfold nodesL
    rw [List.map_map]
    have e:(v.e.map (V.nodes ∘ fun x=>x.2))=v.e.map (fun x:ByteArray×V=>x.2.nodes):=rfl
    have e2:(v.e.map (V.nodes ∘ Prod.snd))=v.e.map (fun x:ByteArray×V=>x.2.nodes):=rfl
    first|rw [e2]|rw [e]
    omega
   ·have h1:=leafT_le h hw.own
    rw [shwD,if_neg h5,if_neg h6]
    omega
theorem chk_nodes:∀ (d:Nat) (v:V) (m:Nat),(chk d v m).1=0->(chk d v m).2=m+v.nodes
 | 0,v,m,h=>by simp only [chk] at h;split at h<;>cases h
 | d+1,v,m,h=>by
   simp only [chk] at h ⊢
   by_cases h1:2000<m+1
   ·rw [if_pos h1] at h;cases h
   rw [if_neg h1] at h ⊢
   by_cases h2:ownV v≠0
   ·rw [if_pos h2] at h;exact absurd h h2
   rw [if_neg h2] at h ⊢
   by_cases h3:keyE none v.e≠0
   ·rw [if_pos h3] at h;exact absurd h h3
   rw [if_neg h3] at h ⊢
   rw [nodes_eq v]
   have hall:∀ (xs:List V) (m:Nat),(chkAll (chk d) xs m).1=0->(chkAll (chk d) xs m).2=m+nodesL xs:=by
    intro xs
    induction xs with
    | nil=>intro m _;simp [chkAll,nodesL_nil]
    | cons y ys ih =>
      intro m hm
      have e:chkAll (chk d) (y::ys) m=if (chk d y m).1=0 then chkAll (chk d) ys (chk d y m).2 else chk d y m:=rfl
      rw [e] at hm ⊢
      by_cases hy:(chk d y m).1=0
      ·rw [if_pos hy] at hm ⊢
       rw [ih _ hm,chk_nodes d y m hy,nodesL_cons];omega
      ·rw [if_neg hy] at hm;exact absurd hm hy
   rw [hall _ _ h];omega
theorem good_nodes {v:V} (h:chkV v=0):v.nodes<=2000:=by
 unfold chkV at h
 have h1:=chk_nodes 20 v 0 h
 have h2:=(chk_le 20 v 0 (by omega)).2 h
 omega
theorem good_gd {v:V} (h:chkV v=0):Gd 20 v:=chk_gd 20 v 0 h
noncomputable def shwT (many:Bool) (v:V):List UInt8:=shwD leafT keyT many 20 0 v++(if many then [10] else [])
theorem shwT_le {many:Bool} {v:V} (h:chkV v=0) (hw:WfAll v):(shwD leafT keyT many 20 0 v).length<=80000000:=by
 have h1:=shw_le (many:=many) 20 0 v (by omega) (good_gd h) hw
 have h2:=good_nodes h
 omega
theorem shw_ne {many:Bool} {d deep:Nat} {v:V} (h:Gt (d+1) v):shwD leafT keyT many (d+1) deep v≠[]:=by
 obtain ⟨c,t,h1,-⟩:=shw_head (G:=Gt) (K:=KeyOk) (many:=many) (deep:=deep) tells h
 rw [h1];simp
set_option maxRecDepth 100000
def ShownPost (many:Bool) (v:V) (w:World) (e:Ending) (w':World):Prop :=
 ((chkV v≠0/\e=.returned (.tuple #[.string ⟨#[]⟩,.int .i64 (chkV v)]))\/(chkV v=0/\Tx 20 v/\e=.returned (.tuple #[.string ⟨(shwT many v).toArray⟩,.int .i64 0])))/\Below w.heap.size w w'
theorem prn_new (w:World) (many:Bool):Prn w.heap.size many [] (w.alloc (.cells #[.pointer none,.slice none 0 0,.bool many] 76)) :=
 ⟨.pointer none,.slice none 0 0,.inl rfl,heap_alloc_new w _,World.ownsRow_nil _ _ _ _⟩
set_option maxHeartbeats 8000000 in
theorem shown_any (many:Bool) (q:Loc) (w:World) (hT:STabs w) (hq:VAt w (fun _=>True) q):Calls Tryz.prog 22 #[q.val,.bool many] w (ShownPost many q.v w):=by
 obtain ⟨wb,hwb⟩:∃ wb,wb=w.alloc (.cells #[.int .i64 q.v.k,.int .i64 q.v.n,.int .u64 q.v.f,.string q.v.s,.slice q.ad q.v.l.length q.cap,.slice q.bd q.v.e.length q.dap] 26):=⟨_,rfl⟩
 have hb0:Below w.heap.size w wb:=by rw [hwb];exact (Below.refl w.heap.size w).alloc (Nat.le_refl _) _
 have hc:=CellsAt.box (q:=q) (heap_alloc_new w (.cells #[.int .i64 q.v.k,.int .i64 q.v.n,.int .u64 q.v.f,.string q.v.s,.slice q.ad q.v.l.length q.cap,.slice q.bd q.v.e.length q.dap] 26))
 have hszb:wb.heap.size=w.heap.size+1:=by rw [hwb];simp
 rw [<-hwb] at hc
 have hqb:=hq.keep hb0
 have hTb:=hT.keep hb0
 have hchk:=Check_any q wb hTb.1.u hqb
 have hwf:=hq.wfAll
 have HQ:=Lib.hid hqb
 have HT:=Lib.hid hTb
 have HB0:=Lib.hid hb0
 have HWF:=Lib.hid hwf
 have HWB:=Lib.hid hwb
 unfold Loc.val at hchk ⊢
 unfold CheckPost at hchk
 have HCHK:=Lib.hid hchk
 have HCC:=Lib.hid hc
 obtain ⟨a0,a1,a2,a3,a4,a5⟩:=hc
 have HSZ:=Lib.hid hszb
 clear hqb hTb hchk hwf hb0 hq hT hwb hszb
 obtain ⟨R,hR⟩:∃ R,R=chkV q.v:=⟨_,rfl⟩
 rw [<-hR] at HCHK
 have HRR:=Lib.hid hR
 clear hR
 go_enter Tryz.func22,Tryz.ntmps22
 go_upto_region 1 with fail
 rw [<-HWB.out]
 clear HWB
 go_wp2_with fail
 (with_reducible refine HCHK.out.mono ?_)
 rintro e w1 ⟨rfl,hb1⟩
 have HB1:=Lib.hid hb1
 have HB01:=Lib.hid (HB0.out.trans (hb1.mono HB0.out.size))
 clear hb1 HCHK a0 a1 a2 a3 a4 a5
 by_cases h0:R=0
 ·subst h0
  have hg0:chkV q.v=0:=HRR.out.symm
  have HGD:=Lib.hid (good_gd hg0)
  have HG0:=Lib.hid hg0
  have HLE:=Lib.hid (shwT_le (many:=many) hg0 HWF.out)
  obtain ⟨b,hb⟩:∃ b,b=w1.heap.size:=⟨_,rfl⟩
  obtain ⟨w2,hw2⟩:∃ w2,w2=w1.alloc (.cells #[.pointer none,.slice none 0 0,.bool many] 76):=⟨_,rfl⟩
  have hp2:=prn_new w1 many
  have hb2:Below w1.heap.size w1 w2:=by rw [hw2];exact (Below.refl _ w1).alloc (Nat.le_refl _) _
  rw [<-hw2,<-hb] at hp2
  have hq1:=HQ.out.keep HB1.out
  have hq2:VAt w2 (fun k=>k<b) q:=(hq1.weak (C:=fun k=>k<b) (fun k _ hk=>by rw [hb];exact hk)).keep hb2
  have hc2:CellsAt w2 w.heap.size 0 q:=HCC.out.through ((hb2.block _ (by have:=HB1.out.size;have:=HSZ.out;omega)).trans (HB1.out.block _ (by have:=HSZ.out;omega)))
  have hT1:=HT.out.keep HB1.out
  have hval:=valueSh_any many b 20 0 (by omega) q w2 [] hp2 hq2 (good_gd hg0) (by have:=HLE.out;simp only [List.length_nil];omega) w1 hb.symm hT1 (by rw [hb];exact hb2)
  unfold Loc.val at hval
  rw [List.nil_append,show ((0:Nat):Int)=0 from rfl] at hval
  have HV:=Lib.hid hval
  have HW2:=Lib.hid hw2
  have HB2:=Lib.hid (HB01.out.trans (hb2.mono (by have:=HB1.out.size;have:=HSZ.out;omega)))
  have hbz:w.heap.size<=b:=by have:=HB1.out.size;have:=HSZ.out;omega
  obtain ⟨d0,d1,d2,d3,d4,d5⟩:=hc2
  clear hval hw2 hp2 hb2 hq1 hq2 hT1 hg0 HCC HQ HT HB0 HB1 HSZ HRR HWF HB01
  cases many with
  | true =>
    go_upto_region 5 with fail
    rw [<-HW2.out,<-hb]
    clear HW2 hb
    go_wp2_with fail
    (with_reducible refine HV.out.mono ?_)
    rintro e w3 ⟨⟨⟨v,rfl⟩,h3,hk3⟩,ht3⟩
    have HB3:=Lib.hid (HB2.out.trans (hk3.below.mono hbz))
    have hle:=HLE.out
    have HWR:Hid (Calls Tryz.prog 33 #[.pointer (some ⟨b,0,none⟩),.int .u8 10] w3 (PrnPost .nilIface b true (shwD leafT keyT true 20 0 q.v++[10]) w3)):=Lib.hid (writeByteP b true _ 10 w3 h3 (by omega))
    have HTX:=Lib.hid ht3
    clear h3 hk3 ht3 HV HB2 hle d0 d1 d2 d3 d4 d5
    go_wp2_with fail
    (with_reducible refine HWR.out.mono ?_)
    rintro e w4 ⟨rfl,h4,hb4,ho4,hz4⟩
    have HB4:=Lib.hid (HB3.out.trans (hb4.mono hbz))
    have HBT:=Lib.hid (builtP b true _ w4 h4 (by simp))
    clear h4 hb4 ho4 hz4 HWR HB3
    go_wp2_with fail
    (with_reducible refine HBT.out.mono ?_)
    rintro e w5 ⟨rfl,hb5⟩
    have HR:Hid (ShownPost true q.v w (.returned (.tuple #[.string ⟨(shwD leafT keyT true 20 0 q.v++[10]).toArray⟩,.int .i64 0])) w5):=Lib.hid ⟨.inr ⟨HG0.out,HTX.out,by unfold shwT;rw [if_pos rfl]⟩,HB4.out.trans (hb5.mono hbz)⟩
    clear hb5 HBT HB4 HTX HG0 HLE HGD
    go_wp2_with fail
    try go_ret2
    exact HR.out
  | false =>
    go_upto_region 5 with fail
    rw [<-HW2.out,<-hb]
    clear HW2 hb
    go_wp2_with fail
    (with_reducible refine HV.out.mono ?_)
    rintro e w3 ⟨⟨⟨v,rfl⟩,h3,hk3⟩,ht3⟩
    have HB3:=Lib.hid (HB2.out.trans (hk3.below.mono hbz))
    have HTX:=Lib.hid ht3
    have HBT:=Lib.hid (builtP b false _ w3 h3 (shw_ne (d:=19) ⟨HGD.out,ht3⟩))
    clear h3 hk3 ht3 HV HB2 d0 d1 d2 d3 d4 d5
    go_wp2_with fail
    (with_reducible refine HBT.out.mono ?_)
    rintro e w5 ⟨rfl,hb5⟩
    have HR:Hid (ShownPost false q.v w (.returned (.tuple #[.string ⟨(shwD leafT keyT false 20 0 q.v).toArray⟩,.int .i64 0])) w5):=Lib.hid ⟨.inr ⟨HG0.out,HTX.out,by unfold shwT;rw [if_neg (by decide),List.append_nil]⟩,HB3.out.trans (hb5.mono hbz)⟩
    clear hb5 HBT HB3 HTX HG0 HLE HGD
    go_wp2_with fail
    try go_ret2
    exact HR.out
 ·have HR:Hid (ShownPost many q.v w (.returned (.tuple #[.string ⟨#[]⟩,.int .i64 R])) w1):=Lib.hid ⟨.inl ⟨by rw [<-HRR.out];exact h0,by rw [<-HRR.out]⟩,HB01.out⟩
  have h0i:¬ (R:Int)=0:=by omega
  have t0:((R:Int) != 0)=true:=by rw [bne_iff_ne];exact h0i
  clear HRR HB01 HB1 HB0 HT HQ HWF HCC HSZ
  go_wp2_with fail
  try go_ret2
  exact HR.out
set_option maxRecDepth 100000
set_option maxHeartbeats 1000000 in
theorem line_any (q:Loc) (w:World) (hT:STabs w) (hq:VAt w (fun _=>True) q):Calls Tryz.prog 11 #[q.val] w (ShownPost false q.v w):=by
 obtain ⟨wb,hwb⟩:∃ wb,wb=w.alloc (.cells #[.int .i64 q.v.k,.int .i64 q.v.n,.int .u64 q.v.f,.string q.v.s,.slice q.ad q.v.l.length q.cap,.slice q.bd q.v.e.length q.dap] 26):=⟨_,rfl⟩
 have hb0:Below w.heap.size w wb:=by rw [hwb];exact (Below.refl w.heap.size w).alloc (Nat.le_refl _) _
 have hc:=CellsAt.box (q:=q) (heap_alloc_new w (.cells #[.int .i64 q.v.k,.int .i64 q.v.n,.int .u64 q.v.f,.string q.v.s,.slice q.ad q.v.l.length q.cap,.slice q.bd q.v.e.length q.dap] 26))
 rw [<-hwb] at hc
 have hs:=shown_any false q wb (hT.keep hb0) (hq.keep hb0)
 unfold Loc.val at hs ⊢
 have HS:=Lib.hid hs
 have HB0:=Lib.hid hb0
 have HWB:=Lib.hid hwb
 obtain ⟨a0,a1,a2,a3,a4,a5⟩:=hc
 clear hs hb0 hwb hT hq
 go_enter Tryz.func11,Tryz.ntmps11
 go_upto_region 1 with fail
 rw [<-HWB.out]
 clear HWB
 go_wp2_with fail
 (with_reducible refine HS.out.mono ?_)
 rintro e w1 ⟨hx,hb1⟩
 have HB:=Lib.hid (HB0.out.trans (hb1.mono HB0.out.size))
 clear hb1 HS a0 a1 a2 a3 a4 a5
 rcases hx with ⟨h1,rfl⟩|⟨h1,h2,rfl⟩
 ·have HR:=Lib.hid h1
  clear h1
  go_wp2_with fail
  try go_ret2
  exact ⟨.inl ⟨HR.out,rfl⟩,HB.out⟩
 ·have HR:=Lib.hid (And.intro h1 h2)
  clear h1 h2
  go_wp2_with fail
  try go_ret2
  exact ⟨.inr ⟨HR.out.1,HR.out.2,rfl⟩,HB.out⟩
def BoolPostS (b:Bool) (w:World) (e:Ending) (w':World):Prop:=e=.returned (.bool b)/\Below w.heap.size w w'
structure PO (w:World) (q p:Loc) (W:World):Prop where
 two:Two w q p W
 hq:VAt W (fun _=>True) q
 hp:VAt W (fun _=>True) p
theorem PO.keep {w:World} {q p:Loc} {W W':World} (h:PO w q p W) (hb:Below W.heap.size W W'):PO w q p W':=⟨h.two.keep hb,h.hq.keep hb,h.hp.keep hb⟩
set_option maxRecDepth 100000
def textV (s:ByteArray):V:=.mk 4 0 0 s [] []
theorem textV_at (s:ByteArray) (w:World) (hs:s.size<=140737488351232):VAt w (fun _=>True) ⟨textV s,none,0,none,0⟩ :=
 ⟨⟨(by decide:(-9223372036854775808:Int)<=4),(by decide:(4:Int)<=9223372036854775807),(by decide:(-9223372036854775808:Int)<=0),(by decide:(0:Int)<=9223372036854775807),(by decide:(0:Int)<=0),(by decide:(0:Int)<=18446744073709551615),hs⟩,.nil _ _ _,.nil _ _ _⟩
theorem textV_line {s:ByteArray} (h:chkV (textV s)=0):okText s.data.toList/\shwT false (textV s)=quoteT s:=by
 refine ⟨(ownV_zero (good_gd h).1).2.2.2.2,?_⟩
 unfold shwT
 rw [shwD,if_neg (by show ¬ (4:Int)=5;decide),if_neg (by show ¬ (4:Int)=6;decide),if_neg (by decide),List.append_nil]
 unfold leafT
 rw [if_neg (by show ¬ (4:Int)=0;decide),if_neg (by show ¬ (4:Int)=1;decide),if_neg (by show ¬ (4:Int)=2;decide),if_neg (by show ¬ (4:Int)=3;decide)]
 rfl
theorem twice_any {s t S key:ByteArray} {v w:V} (hs:MeanOk s.data.toList v) (ht:MeanOk t.data.toList w) (hv:v.dep<=19) (hw:w.dep<=19) (hk:okText key.data.toList) (hks:key.size<=100) (hl:s.size+t.size<=18000)
 (hS:S.data.toList=twiceText (quoteT key) s.data.toList t.data.toList) (W:World) (hT:MTabs W) :
 Calls Tryz.prog 15 #[.string S] W (fun e w'=>Below W.heap.size W w'/\e=.returned (.tuple #[.agg #[.int .i64 0,.int .i64 0,.int .u64 0,.string ⟨#[]⟩,.slice none 0 0,.slice none 0 0],.int .i64 (((quoteT key).length+s.size+4:Nat):Int),.int .i64 6])):=by
 rw [Lib.size_eq s,Lib.size_eq t] at hl
 have hql:=quoteT_le hk
 obtain ⟨h1,h2⟩:=twice_told (q:=quoteT key) (quote_tok _ (runesT_ok hk).1) (quote_ne _) (by unfold keyOf;rw [if_pos rfl];exact said_quote hk) hs ht hv hw (by omega)
 have hm:=mean_any S W hT
 unfold MeanPost at hm
 refine hm.mono ?_
 rintro e w' ⟨hb,⟨q,hq,rfl,-⟩|⟨a,c,hbd,hc,rfl⟩⟩
 ·rw [hS] at hq
  exact (h1 _ hq).elim
 ·rw [hS] at hbd
  obtain ⟨rfl,rfl⟩:=h2 _ _ hbd
  rw [<-Lib.size_eq s]
  exact ⟨hb,rfl⟩
theorem mean_dep {l:List UInt8} {v:V} (h:MeanOk l v):v.dep<=20:=gd_dep 20 v (good_gd h.2.2.2)
set_option maxHeartbeats 16000000 in
theorem meanTwice_walk (s t key:ByteArray) (w:World) (hT:MTabs w) (hS:STabs w) (hk:key.size<=140737488351232):Calls Tryz.prog 8 #[.string s,.string t,.string key] w (BoolPostM true w):=by
 have HMS:=Lib.hid (means_any w hT)
 have HT:=Lib.hid hT
 have HST:=Lib.hid hS
 have HK:=Lib.hid hk
 clear hT hS hk
 unfold BoolPostM at HMS
 go_enter Tryz.func8,Tryz.ntmps8
 go_wp2_with fail
 (with_reducible refine HMS.out.mono ?_)
 rintro e w1 ⟨rfl,hb1⟩
 have hm:=mean_any s w1 (HT.out.keep hb1)
 unfold MeanPost at hm
 have HM:=Lib.hid hm
 have HB1:=Lib.hid hb1
 clear hm hb1 HMS
 go_wp2_with fail
 (with_reducible refine HM.out.mono ?_)
 rintro e w2 ⟨hb2,⟨q,hq,rfl,hv⟩|⟨a,c,hbad,hc,rfl⟩⟩
 rotate_left
 ·have hb3:=(HB1.out.trans (hb2.mono HB1.out.size)).alloc (HB1.out.trans (hb2.mono HB1.out.size)).size (.cells #[.int .i64 0,.int .i64 0,.int .u64 0,.string ⟨#[]⟩,.slice none 0 0,.slice none 0 0] 26)
  have HB3:=Lib.hid hb3
  have t1:(c != 0)=true:=by simpa using hc
  clear hb2 hb3 hbad hc HM HB1
  go_upto_region 4 with fail
  generalize World.alloc w2 _=w3 at HB3 ⊢
  have hm2:=mean_any t w3 (HT.out.keep HB3.out)
  unfold MeanPost at hm2
  have HM2:=Lib.hid hm2
  clear hm2
  go_wp2_with fail
  (with_reducible refine HM2.out.mono ?_)
  rintro e w4 ⟨hb4,⟨q,-,rfl,-⟩|⟨a,c,-,-,rfl⟩⟩
  ·have HB4:=Lib.hid (HB3.out.trans (hb4.mono HB3.out.size))
   clear hb4 HM2
   unfold Loc.val
   go_wp2_with fail
   try go_ret
   exact ⟨rfl,HB4.out.alloc HB4.out.size _⟩
  ·have HB4:=Lib.hid (HB3.out.trans (hb4.mono HB3.out.size))
   clear hb4 HM2
   go_wp2_with fail
   try go_ret
   exact ⟨rfl,HB4.out.alloc HB4.out.size _⟩
 have hb3:=hb2.alloc hb2.size (.cells #[.int .i64 q.v.k,.int .i64 q.v.n,.int .u64 q.v.f,.string q.v.s,.slice q.ad q.v.l.length q.cap,.slice q.bd q.v.e.length q.dap] 26)
 have HBX:=Lib.hid (heap_alloc_new w2 (.cells #[.int .i64 q.v.k,.int .i64 q.v.n,.int .u64 q.v.f,.string q.v.s,.slice q.ad q.v.l.length q.cap,.slice q.bd q.v.e.length q.dap] 26))
 have HB3:=Lib.hid (HB1.out.trans (hb3.mono HB1.out.size))
 have HV3:=Lib.hid ((hv.weak (C:=fun _=>True) (fun _ _ _=>trivial)).keep ((Below.refl w2.heap.size w2).alloc (Nat.le_refl _) (.cells #[.int .i64 q.v.k,.int .i64 q.v.n,.int .u64 q.v.f,.string q.v.s,.slice q.ad q.v.l.length q.cap,.slice q.bd q.v.e.length q.dap] 26)))
 have HQ:=Lib.hid hq
 unfold Loc.val
 clear hb2 hb3 hv hq HM HB1
 go_upto_region 4 with fail
 generalize hwx:World.alloc w2 _=w3 at HBX HB3 HV3 ⊢
 generalize hqb:w2.heap.size=qb at HBX ⊢
 clear hwx hqb
 have hm2:=mean_any t w3 (HT.out.keep HB3.out)
 unfold MeanPost at hm2
 have HM2:=Lib.hid hm2
 clear hm2
 go_wp2_with fail
 (with_reducible refine HM2.out.mono ?_)
 rintro e w4 ⟨hb4,⟨u,hu,rfl,hv4⟩|⟨a,c,hbad,hc,rfl⟩⟩
 rotate_left
 ·have HB4:=Lib.hid (HB3.out.trans (hb4.mono HB3.out.size))
  have t1:(c != 0)=true:=by simpa using hc
  clear hb4 HM2 hbad hc
  go_wp2_with fail
  try go_ret
  exact ⟨rfl,HB4.out.alloc HB4.out.size _⟩
 have hb5:=hb4.alloc hb4.size (.cells #[.int .i64 u.v.k,.int .i64 u.v.n,.int .u64 u.v.f,.string u.v.s,.slice u.ad u.v.l.length u.cap,.slice u.bd u.v.e.length u.dap] 26)
 have HBY:=Lib.hid (heap_alloc_new w4 (.cells #[.int .i64 u.v.k,.int .i64 u.v.n,.int .u64 u.v.f,.string u.v.s,.slice u.ad u.v.l.length u.cap,.slice u.bd u.v.e.length u.dap] 26))
 have HB5:=Lib.hid (HB3.out.trans (hb5.mono HB3.out.size))
 have HBX5:=Lib.hid ((hb5.block qb (Array.getElem?_eq_some_iff.1 HBX.out).1).trans HBX.out)
 have HVQ:=Lib.hid (HV3.out.keep hb5)
 have HVU:=Lib.hid ((hv4.weak (C:=fun _=>True) (fun _ _ _=>trivial)).keep ((Below.refl w4.heap.size w4).alloc (Nat.le_refl _) (.cells #[.int .i64 u.v.k,.int .i64 u.v.n,.int .u64 u.v.f,.string u.v.s,.slice u.ad u.v.l.length u.cap,.slice u.bd u.v.e.length u.dap] 26)))
 have HU:=Lib.hid hu
 have HNE:=Lib.hid (Nat.ne_of_lt (Nat.lt_of_lt_of_le (Array.getElem?_eq_some_iff.1 HBX.out).1 hb4.size))
 unfold Loc.val
 clear hb4 hb5 hv4 hu HM2 HBX HV3 HB3
 go_upto_region 5 with fail
 generalize hwx:World.alloc w4 _=w5 at HBY HB5 HBX5 HVQ HVU ⊢
 generalize hub:w4.heap.size=ub at HBY HNE ⊢
 clear hwx hub
 have ls:s.size<=20000:=by rw [Lib.size_eq s];exact HQ.out.1
 have lt:t.size<=20000:=by rw [Lib.size_eq t];exact HU.out.1
 have t0:((0:Int) != 0)=false:=by decide
 by_cases hbig:18000<s.size+t.size
 ·have t4:decide ((18000:Int)<(s.size:Int)+(t.size:Int))=true:=decide_eq_true (by omega)
  have t4':decide (18000<s.size+t.size)=true:=decide_eq_true hbig
  go_wp2_with fail
  try go_ret
  exact ⟨rfl,HB5.out⟩
 have t4:decide ((18000:Int)<(s.size:Int)+(t.size:Int))=false:=decide_eq_false (by omega)
 have t4':decide (18000<s.size+t.size)=false:=decide_eq_false hbig
 have hdq:=depth_any q w5 HVQ.out (by have:=mean_dep HQ.out;omega)
 have dq20:=mean_dep HQ.out
 obtain ⟨dq,hdqe⟩:∃ d,q.v.dep=d:=⟨_,rfl⟩
 rw [hdqe] at hdq dq20
 unfold DepthPost Loc.val at hdq
 have HDQ:=Lib.hid hdq
 have HDQE:=Lib.hid hdqe
 obtain ⟨a0,a1,a2,a3,a4,a5⟩:=six_cells HBX5.out
 clear hdq hdqe
 go_wp2_with fail
 (with_reducible refine HDQ.out.mono ?_)
 rintro e w6 ⟨rfl,hb6⟩
 have HB6:=Lib.hid (HB5.out.trans (hb6.mono HB5.out.size))
 have HBY6:=Lib.hid ((hb6.block ub (Array.getElem?_eq_some_iff.1 HBY.out).1).trans HBY.out)
 have HVU6:=Lib.hid (HVU.out.keep hb6)
 clear hb6 HDQ a0 a1 a2 a3 a4 a5 HBX5 HBY HB5 HVU HVQ
 by_cases hdq2:20<=dq
 ·have t5:decide ((20:Int)<=(dq:Int))=true:=decide_eq_true (by omega)
  have t5':decide (20<=dq)=true:=decide_eq_true hdq2
  go_wp2_with fail
  try go_ret
  exact ⟨rfl,HB6.out⟩
 have t5:decide ((20:Int)<=(dq:Int))=false:=decide_eq_false (by omega)
 have t5':decide (20<=dq)=false:=decide_eq_false hdq2
 have hdu:=depth_any u w6 HVU6.out (by have:=mean_dep HU.out;omega)
 have du20:=mean_dep HU.out
 obtain ⟨du,hdue⟩:∃ d,u.v.dep=d:=⟨_,rfl⟩
 rw [hdue] at hdu du20
 unfold DepthPost Loc.val at hdu
 have HDU:=Lib.hid hdu
 have HDUE:=Lib.hid hdue
 obtain ⟨b0,b1,b2,b3,b4,b5⟩:=six_cells HBY6.out
 clear hdu hdue
 go_wp2_with fail
 (with_reducible refine HDU.out.mono ?_)
 rintro e w7 ⟨rfl,hb7⟩
 have HB7:=Lib.hid (HB6.out.trans (hb7.mono HB6.out.size))
 clear hb7 HDU b0 b1 b2 b3 b4 b5 HBY6 HVU6 HB6
 by_cases hdu2:20<=du
 ·have t6:decide ((20:Int)<=(du:Int))=true:=decide_eq_true (by omega)
  have t6':decide (20<=du)=true:=decide_eq_true hdu2
  go_wp2_with fail
  try go_ret
  exact ⟨rfl,HB7.out⟩
 have t6:decide ((20:Int)<=(du:Int))=false:=decide_eq_false (by omega)
 have t6':decide (20<=du)=false:=decide_eq_false hdu2
 have HVD:=Lib.hid (show q.v.dep<=19/\u.v.dep<=19 from ⟨by rw [HDQE.out];omega,by rw [HDUE.out];omega⟩)
 have hln:=line_any ⟨textV key,none,0,none,0⟩ w7 (HST.out.keep HB7.out) (textV_at key w7 HK.out)
 have HLN:Hid (Calls Tryz.prog 11 #[.agg #[.int .i64 4,.int .i64 0,.int .u64 0,.string key,.slice none 0 0,.slice none 0 0]] w7 (ShownPost false (textV key) w7)):=Lib.hid hln
 unfold ShownPost at HLN
 clear hln HDQE HDUE
 go_wp2_with fail
 (with_reducible refine HLN.out.mono ?_)
 rintro e w8 ⟨hx8,hb8⟩
 have HB8:=Lib.hid (HB7.out.trans (hb8.mono HB7.out.size))
 clear hb8 HLN HB7
 rcases hx8 with ⟨h1,rfl⟩|⟨h1,h2,rfl⟩
 ·obtain ⟨cc,hcc⟩:∃ c,chkV (textV key)=c:=⟨_,rfl⟩
  rw [hcc] at h1 ⊢
  have t7:((cc:Int) != 0)=true:=by simp;omega
  clear hcc h1
  go_wp2_with fail
  try go_ret
  exact ⟨rfl,HB8.out⟩
 obtain ⟨hok,hln⟩:=textV_line h1
 rw [hln]
 have HOK:=Lib.hid hok
 clear h1 h2 hok hln
 by_cases hk100:100<key.size
 ·have t7:decide ((100:Int)<(key.size:Int))=true:=decide_eq_true (by omega)
  have t7':decide (100<key.size)=true:=decide_eq_true hk100
  go_wp2_with fail
  try go_ret
  exact ⟨rfl,HB8.out⟩
 have t7:decide ((100:Int)<(key.size:Int))=false:=decide_eq_false (by omega)
 have t7':decide (100<key.size)=false:=decide_eq_false hk100
 have hql:=quoteT_le HOK.out
 obtain ⟨kq,hkq⟩:∃ k:ByteArray,(⟨(quoteT key).toArray⟩:ByteArray)=k:=⟨_,rfl⟩
 have hkd:kq.data.toList=quoteT key:=by rw [<-hkq]
 have hks:kq.size=(quoteT key).length:=by rw [Lib.size_eq,hkd]
 have hkl:kq.size<=602:=by omega
 rw [hkq]
 have HKD:=Lib.hid hkd
 have HKS:=Lib.hid hks
 clear hkq hkd hks hql
 go_upto_region 11 with fail
 have hfs:(⟨#[123]⟩++kq++⟨#[58]⟩++s++⟨#[10,44]⟩:ByteArray).size=kq.size+s.size+4:=by
  have e1:(⟨#[123]⟩:ByteArray).size=1:=rfl
  have e2:(⟨#[58]⟩:ByteArray).size=1:=rfl
  have e3:(⟨#[10,44]⟩:ByteArray).size=2:=rfl
  simp only [ByteArray.size_append]
  omega
 have hfd:(⟨#[123]⟩++kq++⟨#[58]⟩++s++⟨#[10,44]⟩:ByteArray).data.toList=123::(quoteT key++58::(s.data.toList++[10,44])):=by simp [ByteArray.data_append,HKD.out]
 generalize (⟨#[123]⟩++kq++⟨#[58]⟩++s++⟨#[10,44]⟩:ByteArray)=fr at hfs hfd ⊢
 obtain ⟨P,hP⟩:∃ P:Nat,kq.size+s.size+4=P:=⟨_,rfl⟩
 have HTW:Hid (Calls Tryz.prog 15 #[.string (fr++kq++⟨#[61]⟩++t++⟨#[10,125]⟩)] w8 (fun e w'=>Below w8.heap.size w8 w'/\e=.returned (.tuple #[.agg #[.int .i64 0,.int .i64 0,.int .u64 0,.string ⟨#[]⟩,.slice none 0 0,.slice none 0 0],.int .i64 (P:Int),.int .i64 6]))):=by
  rw [<-hP,HKS.out]
  exact Lib.hid (twice_any HQ.out HU.out HVD.out.1 HVD.out.2 HOK.out (by omega) (by omega) (by simp [twiceText,ByteArray.data_append,HKD.out,hfd]) w8 (HT.out.keep HB8.out))
 have HFS:Hid (fr.size=P):=Lib.hid (hfs.trans hP)
 have hfl:fr.size<=30000:=by omega
 clear hfs hfd hP
 go_wp2_with fail
 (with_reducible refine HTW.out.mono ?_)
 rintro e w9 ⟨hb9,rfl⟩
 have hb10:=hb9.alloc hb9.size (.cells #[.int .i64 0,.int .i64 0,.int .u64 0,.string ⟨#[]⟩,.slice none 0 0,.slice none 0 0] 26)
 have hbx:=heap_alloc_new w9 (.cells #[.int .i64 0,.int .i64 0,.int .u64 0,.string ⟨#[]⟩,.slice none 0 0,.slice none 0 0] 26)
 have HB10:=Lib.hid (HB8.out.trans (hb10.mono HB8.out.size))
 have hal:=alike_any ⟨.zero,none,0,none,0⟩ ⟨.zero,none,0,none,0⟩ (w9.alloc (.cells #[.int .i64 0,.int .i64 0,.int .u64 0,.string ⟨#[]⟩,.slice none 0 0,.slice none 0 0] 26)) (VAt.zero _ _ _ _ _ _) (VAt.zero _ _ _ _ _ _)
 have HAL:Hid (Calls Tryz.prog 16 #[.agg #[.int .i64 0,.int .i64 0,.int .u64 0,.string ⟨#[]⟩,.slice none 0 0,.slice none 0 0],.agg #[.int .i64 0,.int .i64 0,.int .u64 0,.string ⟨#[]⟩,.slice none 0 0,.slice none 0 0]] (w9.alloc (.cells #[.int .i64 0,.int .i64 0,.int .u64 0,.string ⟨#[]⟩,.slice none 0 0,.slice none 0 0] 26)) (AlikePost V.zero V.zero (w9.alloc (.cells #[.int .i64 0,.int .i64 0,.int .u64 0,.string ⟨#[]⟩,.slice none 0 0,.slice none 0 0] 26)))):=Lib.hid hal
 unfold AlikePost at HAL
 clear hb9 hb10 hal HTW HB8
 go_upto_region 12 with fail
 generalize hwx:World.alloc w9 _=w10 at hbx HAL HB10 ⊢
 clear hwx
 obtain rfl:=HFS.out
 have t8:(((fr.size:Nat):Int)==((fr.size:Nat):Int))=true:=beq_self_eq_true _
 have t9:((6:Int)==6)=true:=by decide
 obtain ⟨x0,x1,x2,x3,x4,x5,-⟩:=six_cells hbx
 clear HFS
 go_wp2_with fail
 (with_reducible refine HAL.out.mono ?_)
 rintro e w11 ⟨b,rfl,hb,hb11⟩
 obtain rfl:b=true:=hb.2 (by first|rfl|trivial)
 have HB11:=Lib.hid (HB10.out.trans (hb11.mono HB10.out.size))
 clear hb11 hb HAL x0 x1 x2 x3 x4 x5
 go_wp2_with fail
 try go_ret
 exact ⟨rfl,HB11.out⟩
theorem tab_of_reads {P:Program} {W:World} {name:String} {k:IntKind} {zs:List Int} {g:Nat} {t e:TypeId} {n:Nat}
 (hg:P.globalNamed name=some g) (hty:(P.globals[g]?).map (·.type)=some t) (ht:P.underlying t=some (.array n e)) (he:P.underlying e=some (.int k)) (hce:P.cellsOf e=1) (hct:P.cellsOf t=n)
 (h:Lib.VarReads P W name (Lib.tabData k zs)):Lib.TabIs P W name k zs:=by
 obtain ⟨g',t',cs,fuel,p,hg',ht',hvar,hd⟩:=h
 obtain rfl:=Option.some.inj (hg.symm.trans hg')
 obtain rfl:=Option.some.inj (hty.symm.trans ht')
 unfold Lib.TabIs
 rw [hvar,<-Lib.cells_of_tab ht he hce hct hd]
def deB64:List Int:=[0,1,56,2,57,49,28,3,61,58,42,50,38,29,17,4,62,47,59,36,45,43,51,22,53,39,33,30,24,18,12,5,63,55,48,27,60,41,37,16,46,35,44,21,52,32,23,11,54,26,40,15,34,20,31,10,25,14,19,9,13,8,7,6]
theorem err_of_reads {P:Program} {W:World} {name nm:String} {d:DataW Unit} {g:Nat} {t:TypeId} {ms:Array (String×TypeId)}
 (hg:P.globalNamed name=some g) (hty:(P.globals[g]?).map (·.type)=some t) (ht:P.underlying t=some (.interface ms)) (h:Lib.VarReads P W name (.iface nm d)):∃ te pe,W.cell? ⟨g,0,none⟩=some (.iface te pe):=by
 obtain ⟨g',t',cs,fuel,p,hg',ht',hvar,hd⟩:=h
 obtain rfl:=Option.some.inj (hg.symm.trans hg')
 obtain rfl:=Option.some.inj (hty.symm.trans ht')
 obtain ⟨f2,u,v,hcs,-,-⟩:=iface_of_trod ht hd
 obtain ⟨l⟩:=cs
 have hl:l=[.iface u v]:=hcs
 subst hl
 exact ⟨u,v,by simpa using World.var?_cell hg hvar 0⟩
theorem meanTwice_tabs {W:World} (hL:laidMetH Tryz.prog Rows.meanTwiceRow.laid W) (hsh:W.ShapedOpen Tryz.prog):MTabs W:=by
 have h2:=Lib.laidMet.reads hL (.tail _ (.head _))
 have h3:=Lib.laidMet.reads hL (.tail _ (.tail _ (.head _)))
 have h4:=Lib.laidMet.reads hL (.tail _ (.tail _ (.tail _ (.head _))))
 have h6:=Lib.laidMet.reads hL (.tail _ (.tail _ (.tail _ (.tail _ (.tail _ (.head _))))))
 have h7:=Lib.laidMet.reads hL (.tail _ (.tail _ (.tail _ (.tail _ (.tail _ (.tail _ (.head _)))))))
 have e2:Rows.laid_math_bits_deBruijn64tab=Lib.tabData (H:=Unit) .u8 deB64:=by kernel_rfl
 have e3:Rows.laid_internal_strconv_uint64pow10=Lib.tabData (H:=Unit) .u64 Lib.pow10Tab:=by kernel_rfl
 rw [e2] at h2
 rw [e3] at h3
 have t2:=tab_of_reads (g:=7) (t:=(Tryz.prog.globals[7]!).type) (by kernel_rfl) (by kernel_rfl) (n:=64) (e:=5) (by kernel_rfl) (by kernel_rfl) (by kernel_rfl) (by kernel_rfl) h2
 have t3:=tab_of_reads (g:=3) (t:=(Tryz.prog.globals[3]!).type) (by kernel_rfl) (by kernel_rfl) (n:=20) (e:=22) (by kernel_rfl) (by kernel_rfl) (by kernel_rfl) (by kernel_rfl) h3
 have hU:=Go.Proofs.utf8Tabs_of_reads Tryz.lays260 ⟨by kernel_rfl,by kernel_rfl,by kernel_rfl,by kernel_rfl,by kernel_rfl,by kernel_rfl,by kernel_rfl⟩
  (w:=W) (Pinned.utf8First_eq▸h7) ((show Rows.laid_unicode_utf8_acceptRanges=Lib.acceptData by kernel_rfl)▸h4)
 exact ⟨⟨hU,⟨⟨t2.cell (g:=7) (by kernel_rfl) 1 (by decide),t2.cell (g:=7) (by kernel_rfl) 7 (by decide),t2.cell (g:=7) (by kernel_rfl) 15 (by decide)⟩,t3⟩,
  err_of_reads (t:=(Tryz.prog.globals[4]!).type) (by kernel_rfl) (by kernel_rfl) Tryz.underlying79 h6⟩,Tryz.laysM143.s1_3 W hsh⟩
end Go.Proofs.YtldhmfkojaekfaaGreatDoor
