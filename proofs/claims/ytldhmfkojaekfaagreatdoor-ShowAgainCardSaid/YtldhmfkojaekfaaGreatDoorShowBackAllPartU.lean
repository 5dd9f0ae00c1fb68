/-
  Lemmas for the statement: plain laws, and what functions answer; the conditions stand in each.
-/
import Derived.Lib.OwnKind
import Derived.Lib.UnsafeStr
import Derived.Lib.AppendStr
import Derived.Deep.DeepFit
import Derived.WalkLawsBesides
import Derived.Deep.DeepCutAuto
import Derived.Deep.CutBlock
import Derived.Outline
import Derived.StillTailTactics
import Derived.Deep.RegionLaw
import Derived.Deep.RegionHeld3
import Derived.Test.YtldhmfkojaekfaaGreatDoorShowBackAllPartT
set_option linter.unusedVariables false
set_option linter.unusedSimpArgs false
namespace Go.Proofs.YtldhmfkojaekfaaGreatDoor
open Go.RowKit Gx
set_option maxRecDepth 100000
theorem stop_class {z:List UInt8} (hz:Stop z):∀ c,z.head?=some c->classOf (c.toNat:Int)≠4:=by
 intro c hc
 rcases hz c hc with rfl|rfl|rfl|rfl<;>decide
theorem kbs_word {p z:List UInt8} (hp:p≠[]) (h:∀ c∈p,classOf (c.toNat:Int)=4) (hz:∀ c,z.head?=some c->classOf (c.toNat:Int)≠4):kbs (p++z)=(4,p)::kbs z:=by
 rw [<-kbs_sol (p++z) 0,solO_word 0 hp h hz,List.map_cons,kbs_sol];rfl
theorem toks_word {p:List UInt8} (hp:p≠[]) (h:∀ c∈p,classOf (c.toNat:Int)=4):Toks p [(4,p)]:=fun z hz=>kbs_word hp h (stop_class hz)
theorem u8_all {p:UInt8->Prop} (h:∀ e:Fin 256,p (UInt8.ofNat e.val)) (c:UInt8):p c:=by
 have:=h ⟨c.toNat,c.toNat_lt⟩
 rwa [show UInt8.ofNat c.toNat=c from UInt8.ofNat_toNat] at this
theorem fCh_word {c:UInt8} (h:fCh c=true):classOf (c.toNat:Int)=4:=by
 have key:∀ e:Fin 256,fCh (UInt8.ofNat e.val)=true->classOf ((UInt8.ofNat e.val).toNat:Int)=4:=by decide +kernel
 exact u8_all (p:=fun c=>fCh c=true->classOf (c.toNat:Int)=4) key c h
theorem int_word (n:Int) (h0:-9223372036854775808<=n) (h1:n<=9223372036854775807):leafOf 4 (Lib.itoa n)=some (.mk 2 n 0 ⟨#[]⟩ [] []):=by
 have hi:∀ l:List UInt8,(∃ c∈l,iCh c=false)->Lib.itoa n≠l:=by
  rintro l ⟨c,hc,hf⟩ e
  have:=itoa_ch n c (by rw [e];exact hc)
  rw [hf] at this;cases this
 unfold leafOf wordOf
 rw [if_neg (by decide),if_neg (hi _ ⟨110,by decide,by decide⟩),if_neg (hi _ ⟨116,by decide,by decide⟩),if_neg (hi _ ⟨102,by decide,by decide⟩),read_itoa n h0 h1]
 rfl
theorem loop_none (b:Nat):∀ (l:List Int) (y:Int) (n:Nat) (o:Int),(∃ c∈l,c≠95/\(b:Int)<=digitOf c)->numLoop b l y n o=none
 | [],_,_,_,⟨_,hc,_⟩=>absurd hc List.not_mem_nil
 | a::t,y,n,o,⟨c,hc,h1,h2⟩=>by
   rw [numLoop]
   rcases List.mem_cons.1 hc with rfl|hc
   ·rw [if_neg h1,if_pos h2]
   ·by_cases ha:a=95
    ·rw [if_pos ha]
     split
     ·rfl
     ·exact loop_none b t _ _ _ ⟨c,hc,h1,h2⟩
    ·rw [if_neg ha]
     split
     ·rfl
     ·exact loop_none b t _ _ _ ⟨c,hc,h1,h2⟩
theorem off_digit {c:UInt8} (h:fCh c=true) (hi:iCh c=false):(c.toNat:Int)≠95/\(10:Int)<=digitOf (c.toNat:Int)/\c≠45:=by
 have key:∀ e:Fin 256,fCh (UInt8.ofNat e.val)=true->iCh (UInt8.ofNat e.val)=false->((UInt8.ofNat e.val).toNat:Int)≠95/\(10:Int)<=digitOf ((UInt8.ofNat e.val).toNat:Int)/\UInt8.ofNat e.val≠45:=by decide +kernel
 exact u8_all (p:=fun c=>fCh c=true->iCh c=false->(c.toNat:Int)≠95/\(10:Int)<=digitOf (c.toNat:Int)/\c≠45) key c h hi
theorem prefix_mem {l:List UInt8} {a b:UInt8} (h:Lib.hasPrefix l [a,b]=true):b∈l:=by
 unfold Lib.hasPrefix at h
 match l,h with
 | [],h=>simp at h
 | [_],h=>simp at h
 | x::y::t,h =>
   simp only [List.isPrefixOf,Bool.and_true,Bool.and_eq_true,beq_iff_eq] at h
   rw [h.2];simp
theorem read_none {t:List UInt8} (h1:∀ c∈t,fCh c=true) (h2:∃ c∈t,iCh c=false) (hl:t.length<=80):(readOf t).2=4:=by
 obtain ⟨c,hc,hci⟩:=h2
 obtain ⟨k1,k2,k3⟩:=off_digit (h1 c hc) hci
 have hs:(∀ d∈Lib.trimPrefix t [45],fCh d=true)/\c∈Lib.trimPrefix t [45]:=by
  unfold Lib.trimPrefix
  split
  ·rename_i hp
   unfold Lib.hasPrefix at hp
   cases t with
   | nil=>exact absurd hc List.not_mem_nil
   | cons a t =>
     simp only [List.isPrefixOf,Bool.and_true,beq_iff_eq] at hp
     subst hp
     refine ⟨fun d hd=>h1 d (List.mem_cons_of_mem _ hd),?_⟩
     rcases List.mem_cons.1 hc with h|h
     ·exact absurd h k3
     ·exact h
  ·exact ⟨h1,hc⟩
 have hb:baseOf (Lib.trimPrefix t [45])=(10,Lib.trimPrefix t [45]):=by
  have hn:∀ a b:UInt8,fCh b=false->¬ Lib.hasPrefix (Lib.trimPrefix t [45]) [a,b]=true:=fun a b hb hp=>by
   have:=hs.1 b (prefix_mem hp)
   rw [hb] at this;cases this
  unfold baseOf
  rw [if_neg (hn 48 120 (by decide)),if_neg (hn 48 111 (by decide)),if_neg (hn 48 98 (by decide))]
 unfold readOf
 rw [if_neg (by omega),hb]
 unfold readBy
 simp only
 split
 ·rfl
 ·rw [loop_none 10 (intsNm (Lib.trimPrefix t [45])) 95 0 0 ⟨(c.toNat:Int),List.mem_map.2 ⟨c,hs.2,rfl⟩,k1,k2⟩]
  rfl
theorem float_word {b:Nat} {t:List UInt8} (hb:b<18446744073709551616) (ht:TextIs b t) (hn:isNan b->b=9221120237041090561):leafOf 4 t=some (.mk 3 0 (b:Int) ⟨#[]⟩ [] []):=by
 obtain ⟨c1,c2,c3⟩:=text_ch ht
 have hi:∀ l:List UInt8,(∃ c∈l,fCh c=false)->t≠l:=by
  rintro l ⟨c,hc,hf⟩ e
  have:=c1 c (by rw [e];exact hc)
  rw [hf] at this;cases this
 have h4:=read_none c1 c2 (by omega)
 have hr:=text_reads hb ht
 have hx:(if b / 4503599627370496 % 2048=2047/\b % 4503599627370496≠0 then 9221120237041090561 else b)=b:=by
  split
  ·rename_i h;exact (hn h).symm
  ·rfl
 rw [hx] at hr
 unfold leafOf wordOf
 rw [if_neg (by decide),if_neg (hi _ ⟨117,by decide,by decide⟩),if_neg (hi _ ⟨116,by decide,by decide⟩),if_neg (hi _ ⟨108,by decide,by decide⟩),if_neg (by rw [h4];decide),if_pos h4,float_yes hr]
 rfl
theorem scan_calm:∀ (x y:List UInt8) (i:Nat),(∀ c∈x,c≠10/\c≠34/\c≠92)->textScan (x++y) false i=textScan y false (i+x.length)
 | [],y,i,_=>by simp
 | c::x,y,i,h=>by
   obtain ⟨h1,h2,h3⟩:=h c List.mem_cons_self
   have e:(c==92)=false:=beq_eq_false_iff_ne.2 h3
   rw [List.cons_append,textScan,if_neg h1,if_neg (by decide),if_neg h2,e,scan_calm x y (i+1) (fun d hd=>h d (List.mem_cons_of_mem _ hd)),List.length_cons]
   congr 1;omega
theorem scan_esc (c:UInt8) (y:List UInt8) (i:Nat) (hc:c≠10):textScan (92::c::y) false i=textScan y false (i+2):=by
 have e:((92:UInt8)==92)=true:=rfl
 rw [textScan,if_neg (by decide),if_neg (by decide),if_neg (by decide),e,textScan,if_neg hc,if_pos rfl]
theorem hex_calm (n:Nat) (h:n<128):∀ c∈hexText n,c≠10/\c≠34/\c≠92:=by
 have key:∀ e:Fin 128,∀ c∈hexText e.val,c≠10/\c≠34/\c≠92:=by decide +kernel
 exact key ⟨n,h⟩
theorem scan_quoteR (r:Int) (hg:good r=true) (y:List UInt8) (i:Nat):textScan (quoteR r++y) false i=textScan y false (i+(quoteR r).length):=by
 have hg2:=hg
 rw [good_iff] at hg2
 unfold quoteR
 by_cases c1:r=34\/r=92
 ·rw [if_pos c1]
  rcases c1 with rfl|rfl
  ·rw [enc_ascii 34 (by decide) (by decide)];exact scan_esc _ y i (by decide)
  ·rw [enc_ascii 92 (by decide) (by decide)];exact scan_esc _ y i (by decide)
 rw [if_neg c1]
 by_cases c2:r=10
 ·rw [if_pos c2];exact scan_esc _ y i (by decide)
 rw [if_neg c2]
 by_cases c3:r=9
 ·rw [if_pos c3];exact scan_esc _ y i (by decide)
 rw [if_neg c3]
 by_cases c4:r=13
 ·rw [if_pos c4];exact scan_esc _ y i (by decide)
 rw [if_neg c4]
 by_cases c5:r<32\/r=127
 ·rw [if_pos c5]
  have hx:=hex_calm r.natAbs (by omega)
  have e:[92,117,123]++hexText r.natAbs++[125]++y=92::117::((123::(hexText r.natAbs++[125]))++y):=by simp
  rw [e,scan_esc 117 _ i (by decide),scan_calm _ _ _ (fun c hc=>?_)]
  ·congr 1;simp;omega
  ·rcases List.mem_cons.1 hc with rfl|hc
   ·decide
   ·rcases List.mem_append.1 hc with hc|hc
    ·exact hx c hc
    ·obtain rfl:=List.mem_singleton.1 hc;decide
 rw [if_neg c5]
 refine scan_calm _ _ _ (fun c hc=>?_)
 rcases Int.lt_or_le r 128 with h|h
 ·rw [enc_ascii r (by omega) (by omega),List.mem_singleton] at hc
  have hn:=byteNat r (by omega) (by omega)
  rw [<-hc] at hn
  have key:∀ m:UInt8,(m.toNat:Int)≠r->c≠m:=fun m hm e=>hm (by rw [<-e];omega)
  exact ⟨key 10 (fun e=>c2 e.symm),key 34 (fun e=>c1 (.inl e.symm)),key 92 (fun e=>c1 (.inr e.symm))⟩
 ·have hh:=enc_high r hg h c hc
  have key:∀ m:UInt8,m.toNat<128->c≠m:=fun m hm e=>by rw [e] at hh;omega
  exact ⟨key 10 (by decide),key 34 (by decide),key 92 (by decide)⟩
theorem scan_quotes:∀ (rs:List Int),rs.all good=true->∀ (y:List UInt8) (i:Nat),textScan (quotes rs++y) false i=textScan y false (i+(quotes rs).length)
 | [],_,y,i=>rfl
 | r::rs,hg,y,i=>by
   rw [List.all_cons,Bool.and_eq_true] at hg
   have e:quotes (r::rs)=quoteR r++quotes rs:=rfl
   rw [e,List.append_assoc,scan_quoteR r hg.1,scan_quotes rs hg.2,List.length_append]
   congr 1;omega
theorem next_quote (p:List UInt8) (h:textLen (34::p)≠0):nextTok (34::p)=(5,textLen (34::p)):=by
 have e5:classOf ((34:UInt8).toNat:Int)=5:=by decide
 unfold nextTok
 simp only [e5]
 rw [if_neg (by omega),if_neg (by omega),if_pos trivial,if_neg h]
theorem quote_tok (rs:List Int) (hg:rs.all good=true):nextTok (quoteOf rs)=(5,(quoteOf rs).length):=by
 have ht:textLen (quoteOf rs)=(quoteOf rs).length:=by
  unfold textLen quoteOf
  rw [List.drop_succ_cons,List.drop_zero,scan_quotes rs hg,textScan,if_neg (by decide),if_neg (by decide),if_pos rfl]
  simp;omega
 have hn:textLen (quoteOf rs)≠0:=by rw [ht];unfold quoteOf;simp
 have:=next_quote (quotes rs++[34]) hn
 rw [show (34::(quotes rs++[34]):List UInt8)=quoteOf rs from rfl,ht] at this
 exact this
theorem quote_ne (rs:List Int):quoteOf rs≠[]:=by unfold quoteOf;simp
theorem kbs_quote (rs:List Int) (hg:rs.all good=true) (z:List UInt8):kbs (quoteOf rs++z)=(5,quoteOf rs)::kbs z:=by
 rw [<-kbs_sol (quoteOf rs++z) 0,solO_tok (p:=quoteOf rs) (k:=5) 0 (quote_ne rs) (next_app (quote_tok rs hg) (quote_ne rs) (by decide) ⟨fun h=>absurd h (by decide),fun _ h=>absurd h (by decide)⟩),List.map_append,kbs_sol];rfl
theorem said_quote {s:ByteArray} (h:okText s.data.toList):saidOf (quoteT s)=some s:=by
 obtain ⟨h1,h2⟩:=runesT_ok h
 have hq:=unquote_quote (runesT s.data.toList) h1 []
 rw [List.append_nil] at hq
 unfold saidOf quoteT
 rw [hq]
 refine congrArg some (ByteArray.ext (Array.toList_inj.1 ?_))
 show encs (runesT s.data.toList)=s.data.toList
 exact h2.symm
theorem leaf_back {d:Nat} {v:V} (h:Gd (d+1) v) (hq:Tx (d+1) v) (h5:v.k≠5) (h6:v.k≠6):∃ t:Kb,(t.1=4\/t.1=5)/\leafOf t.1 t.2=some v/\Toks (leafT v) [t]:=by
 have ok:=h.ok
 have k0:=ok.k0
 have k6:=ok.k6
 have hl:=ok.l h5
 have he:=ok.e h6
 have word:∀ t:List UInt8,leafT v=t->t≠[]->(∀ c∈t,classOf (c.toNat:Int)=4)->leafOf 4 t=some v->∃ t:Kb,(t.1=4\/t.1=5)/\leafOf t.1 t.2=some v/\Toks (leafT v) [t] :=
  fun t h1 h2 h3 h4=>⟨(4,t),.inl rfl,h4,by rw [h1];exact toks_word h2 h3⟩
 by_cases c0:v.k=0
 ·refine word nullS (by unfold leafT;rw [if_pos c0]) (by decide) (by decide) ?_
  unfold leafOf wordOf
  rw [if_neg (by decide),if_pos (show nullS=nullT from rfl)]
  exact congrArg some (V.ext' c0.symm (ok.n (by omega) (by omega)).symm (ok.f (by omega)).symm (ok.s (by omega)).symm hl.symm he.symm)
 by_cases c1:v.k=1
 ·rcases ok.n1 c1 with hn|hn
  ·refine word falseS (by unfold leafT;rw [if_neg c0,if_pos c1,if_neg (by omega)]) (by decide) (by decide) ?_
   unfold leafOf wordOf
   rw [if_neg (by decide),if_neg (by decide),if_neg (by decide),if_pos (show falseS=falseT from rfl)]
   exact congrArg some (V.ext' c1.symm hn.symm (ok.f (by omega)).symm (ok.s (by omega)).symm hl.symm he.symm)
  ·refine word trueS (by unfold leafT;rw [if_neg c0,if_pos c1,if_pos hn]) (by decide) (by decide) ?_
   unfold leafOf wordOf
   rw [if_neg (by decide),if_neg (by decide),if_pos (show trueS=trueT from rfl)]
   exact congrArg some (V.ext' c1.symm hn.symm (ok.f (by omega)).symm (ok.s (by omega)).symm hl.symm he.symm)
 by_cases c2:v.k=2
 ·refine word (Lib.itoa v.n) (by unfold leafT;rw [if_neg c0,if_neg c1,if_pos c2]) (itoa_ne _) (fun c hc=>fCh_word (iCh_f (itoa_ch _ c hc))) ?_
  rw [int_word v.n hq.1.n0 hq.1.n1]
  exact congrArg some (V.ext' c2.symm rfl (ok.f (by omega)).symm (ok.s (by omega)).symm hl.symm he.symm)
 by_cases c3:v.k=3
 ·obtain ⟨t,ht⟩:=hq.2.1 c3
  have hf0:=hq.1.f0
  have hf1:=hq.1.f1
  obtain ⟨a1,⟨c,a2,-⟩,-⟩:=text_ch ht
  refine word t (by unfold leafT;rw [if_neg c0,if_neg c1,if_neg c2,if_pos c3,fTxt_is ht]) (fun e=>by rw [e] at a2;cases a2) (fun c hc=>fCh_word (a1 c hc)) ?_
  rw [float_word (by omega) ht (nanBad_of hf0 hf1 ok.nan)]
  exact congrArg some (V.ext' c3.symm (ok.n (by omega) (by omega)).symm (by show ((v.f.toNat:Nat):Int)=v.f;omega) (ok.s (by omega)).symm hl.symm he.symm)
 ·have c4:v.k=4:=by omega
  have ho:=(ownV_zero h.1).2.2.2.2
  obtain ⟨r1,r2⟩:=runesT_ok ho
  refine ⟨(5,quoteT v.s),.inr rfl,?_,?_⟩
  ·unfold leafOf
   rw [if_pos rfl,said_quote ho]
   exact congrArg some (V.ext' c4.symm (ok.n (by omega) (by omega)).symm (ok.f (by omega)).symm rfl hl.symm he.symm)
  ·intro z _
   unfold leafT
   rw [if_neg c0,if_neg c1,if_neg c2,if_neg c3]
   exact kbs_quote _ r1 z
theorem bare_word {l:List UInt8} (h:bareOf l=true):l≠[]/\∀ c∈l,classOf (c.toNat:Int)=4:=by
 have key:∀ e:Fin 256,(letterB (UInt8.ofNat e.val).toNat || moreB (UInt8.ofNat e.val).toNat)=true->classOf ((UInt8.ofNat e.val).toNat:Int)=4:=by decide +kernel
 refine ⟨?_,fun c hc=>u8_all (p:=fun c=>(letterB c.toNat || moreB c.toNat)=true->classOf (c.toNat:Int)=4) key c (bare_bytes h c hc)⟩
 unfold bareOf at h
 simp only [Bool.and_eq_true,decide_eq_true_eq] at h
 exact h.1.1.1
theorem key_back (k:ByteArray) (h:okText k.data.toList):∃ t:Kb,(t.1=4\/t.1=5)/\keyOf t.1 t.2=some k/\∀ z,kbs (keyT k++58::z)=t::kbs (58::z):=by
 unfold keyT
 by_cases hb:bareOf k.data.toList=true
 ·rw [if_pos hb]
  obtain ⟨b1,b2⟩:=bare_word hb
  refine ⟨(4,k.data.toList),.inl rfl,?_,fun z=>kbs_word b1 b2 (fun c hc=>by obtain rfl:=Option.some.inj hc;decide)⟩
  show keyOf 4 k.data.toList=some k
  unfold keyOf
  rw [if_neg (by decide),if_pos hb]
 ·rw [if_neg hb]
  refine ⟨(5,quoteT k),.inr rfl,?_,fun z=>kbs_quote _ (runesT_ok h).1 _⟩
  unfold keyOf
  rw [if_pos rfl,said_quote h]
end Go.Proofs.YtldhmfkojaekfaaGreatDoor
namespace Go.Proofs.YtldhmfkojaekfaaGreatDoor
open Go.RowKit Go.Shelf Gx
set_option maxRecDepth 100000
structure Prn (b:Nat) (many:Bool) (l:List UInt8) (w:World):Prop where
 ex:∃ p v,(p=.pointer none\/p=.pointer (some ⟨b,0,none⟩))/\w.heap[b]?=some (.cells #[p,v,.bool many] 76)/\w.ownsRow (b+1) 5 1 v l.length (Lib.byteCells l)
theorem Prn.lt {b:Nat} {many:Bool} {l:List UInt8} {w:World} (h:Prn b many l w):b<w.heap.size:=by
 obtain ⟨p,v,-,hb,-⟩:=h.ex
 exact (Array.getElem?_eq_some_iff.1 hb).1
theorem Prn.many_ {b:Nat} {many:Bool} {l:List UInt8} {w:World} (h:Prn b many l w):w.cell? ⟨b,2,none⟩=some (.bool many):=by
 obtain ⟨p,v,-,hb,-⟩:=h.ex
 rw [Lib.cell_of_heap hb];rfl
theorem Prn.keep {b:Nat} {many:Bool} {l:List UInt8} {w w':World} (h:Prn b many l w) (hb:Below w.heap.size w w'):Prn b many l w':=by
 obtain ⟨p,v,hp,hb',ho⟩:=h.ex
 exact ⟨p,v,hp,(hb.block _ h.lt).trans hb',own_keep ho hb⟩
def PrnPost (v:Value) (b:Nat) (many:Bool) (l:List UInt8) (w:World) (e:Ending) (w':World):Prop:=e=.returned v/\Prn b many l w'/\Below b w w'/\Lib.OthersKept 5 (some b) w w'/\w.heap.size<=w'.heap.size
def UsedPost (b:Nat) (many:Bool) (l:List UInt8) (w:World) (e:Ending) (w':World):Prop :=
 e=.returned (.tuple #[])/\(∃ v,w'.heap[b]?=some (.cells #[.pointer (some ⟨b,0,none⟩),v,.bool many] 76)/\w'.ownsRow (b+1) 5 1 v l.length (Lib.byteCells l))/\Below b w w'/\Lib.OthersKept 5 (some b) w w'/\w'.heap.size=w.heap.size
theorem info_builder:∃ j,Tryz.prog.info? 74=some j/\j.size=2:=Option.map_eq_some_iff.1 (show (Tryz.prog.info? 74).map (·.size)=some 2 by kernel_rfl)
set_option maxHeartbeats 2000000 in
theorem copyCheck_prn (b:Nat) (many:Bool) (l:List UInt8) (w:World) (h:Prn b many l w):Calls Tryz.prog 63 #[.pointer (some ⟨b,0,none⟩)] w (UsedPost b many l w):=by
 obtain ⟨p,v,hp,hb,ho⟩:=h.ex
 obtain ⟨j,hj,hjs⟩:=info_builder
 have hlt:=h.lt
 have c0:w.cell? ⟨b,0,none⟩=some p:=by rw [Lib.cell_of_heap hb];rfl
 have f0:w.frozen? ⟨b,0,none⟩=false:=Lib.frozen_of_heap hb 0
 have hsh:w.shape? b=some (76,3):=by simp [World.shape?,hb]
 rcases hp with rfl|rfl
 ·have hb2:(w.setCell ⟨b,0,none⟩ (.pointer (some ⟨b,0,none⟩))).heap[b]?=some (.cells #[.pointer (some ⟨b,0,none⟩),v,.bool many] 76):=by simp [World.setCell,Array.getElem?_modify,hb]
  have ho2:(w.setCell ⟨b,0,none⟩ (.pointer (some ⟨b,0,none⟩))).ownsRow (b+1) 5 1 v l.length (Lib.byteCells l):=ho.kept (row:=some b) ⟨rfl,rfl,rfl,by simp [World.setCell],fun k _ hk=>Below.heap_setCell _ _ _ _ (fun e=>hk (by simp [e]))⟩ (by
   cases hv:v.ownBlock with
   | none=>exact .inl rfl
   | some g=>exact .inr (fun e=>by have:=(ho.lt g hv).1;have:=Option.some.inj e;omega))
  have HB:=Lib.hid hb2
  have HO:=Lib.hid ho2
  clear hb hb2 ho ho2 h
  go_enter Tryz.func63,Tryz.ntmps63
  go_wp2
  rw [Lib.run_to_unsafe w ⟨b,0,none⟩ Tryz.underlying71 Tryz.underlying135 hj (by rw [hjs];decide) hsh (show (0:Nat)<3 by decide)]
  simp only [Result.andThen]
  rw [Oper.upon_value]
  go_wp2
  rw [run_callFunc_extern Tryz.func97 (by kernel_rfl) (by kernel_rfl) (by kernel_rfl) (e:=Extern.AbiNoEscape.same) (by kernel_rfl)]
  rw [Lib.run_noEscape]
  simp only [Result.andThen]
  rw [Oper.upon_value]
  go_wp2
  rw [Lib.run_from_unsafe w ⟨b,0,none⟩ Tryz.underlying135 Tryz.underlying71 hj hsh (by kernel_rfl)]
  simp only [Result.andThen]
  rw [Oper.upon_value]
  go_wp2
  go_end0
  exact ⟨rfl,⟨v,HB.out,HO.out⟩,(Below.refl b w).setCell (p:=⟨b,0,none⟩) (Nat.le_refl _) _,(Lib.OthersKept.refl _ _ w).setCell ⟨b,0,none⟩ rfl _,by simp [World.setCell]⟩
 ·refine (Any.Builder_copyCheck_used (P:=Tryz.prog) (ρ:=YtldhmfkojaekfaaGreatDoor.lays166_ren) { YtldhmfkojaekfaaGreatDoor.lays166 with } YtldhmfkojaekfaaGreatDoor.Builder_Extra_166.toX72 b w c0).mono ?_
  rintro e w' ⟨rfl,rfl⟩
  exact ⟨rfl,⟨v,hb,ho⟩,Below.refl _ _,Lib.OthersKept.refl _ _ _,rfl⟩
theorem Tryz.info_u8p:(Tryz.prog.info? 5).map (fun i=>(i.zero,i.size,i.bytes))=some (some (.int .u8 0),1,1):=by kernel_rfl
theorem prn_after {b:Nat} {many:Bool} {n:Nat} {xs:List Value} {p v:Value} {w1 w2:World} (hbk:w1.heap[b]?=some (.cells #[p,v,.bool many] 76)) (hown:w1.ownsRow (b+1) 5 1 v n xs) (hg:w1.grownBy w2 v.ownBlock) :
 w2.heap[b]?=some (.cells #[p,v,.bool many] 76)/\w2.cell? ⟨b,1,none⟩=some v/\w2.frozen? ⟨b,1,none⟩=false:=by
 have hlt:=(Array.getElem?_eq_some_iff.1 hbk).1
 have hne:v.ownBlock≠some b:=fun e=>by have:=(hown.lt b e).1;omega
 have hb2:=(hg.block b hlt (fun e=>hne e.symm)).trans hbk
 exact ⟨hb2,by rw [Lib.cell_of_heap hb2];rfl,Lib.frozen_of_heap hb2 1⟩
set_option maxHeartbeats 4000000 in
theorem writeByteP (b:Nat) (many:Bool) (l:List UInt8) (c:UInt8) (w:World) (h:Prn b many l w) (hlen:l.length+1<=140737488355328) :
 Calls Tryz.prog 33 #[.pointer (some ⟨b,0,none⟩),.int .u8 (c.toNat:Nat)] w (PrnPost .nilIface b many (l++[c]) w):=by
 have HCC:=Lib.hid (copyCheck_prn b many l w h)
 have hlt:=h.lt
 clear h
 go_enter Tryz.func33,Tryz.ntmps33
 go_wp2_with fail
 (with_reducible refine HCC.out.mono ?_)
 rintro e w1 ⟨rfl,⟨v,hbk,hown⟩,hb1,hk1,hz1⟩
 have c0:w1.cell? ⟨b,0,none⟩=some (.pointer (some ⟨b,0,none⟩)):=by rw [Lib.cell_of_heap hbk];rfl
 have c1:w1.cell? ⟨b,1,none⟩=some v:=by rw [Lib.cell_of_heap hbk];rfl
 have HBK:=Lib.hid hbk
 have HOW:=Lib.hid hown
 have HB1:=Lib.hid hb1
 have HK1:=Lib.hid hk1
 have HZ1:=Lib.hid hz1
 clear hbk hown hb1 hk1 hz1 HCC
 go_wp2_with (at_builtin;refine Gx.wpList_push w1 rfl (.tmp 11) (.tmp 13) 72 rfl (b+1) 5 (.int .u8 0) 1 1 Tryz.underlying72 Tryz.info_u8p rfl (by decide) v l.length (Lib.byteCells l) [.int .u8 (c.toNat:Nat)] _ rfl rfl HOW.out rfl rfl (fun u hu=>by rw [List.mem_singleton.1 hu];rfl) (by omega) (by omega) (by have:=HZ1.out;omega) ?_;intro v' w2 hown' hg' _ _;obtain ⟨ao,cc,rfl⟩:=own_form hown';have hx:=prn_after HBK.out HOW.out hg';obtain ⟨hb2,d1,f1⟩:=hx)
 have hb3:(w2.setCell ⟨b,1,none⟩ (.slice ao (l.length+1) cc)).heap[b]?=some (.cells #[.pointer (some ⟨b,0,none⟩),.slice ao (l.length+1) cc,.bool many] 76):=by simp [World.setCell,Array.getElem?_modify,hb2]
 have ho3:(w2.setCell ⟨b,1,none⟩ (.slice ao (l.length+1) cc)).ownsRow (b+1) 5 1 (.slice ao (l.length+1) cc) (l.length+1) (Lib.byteCells l++[.int .u8 (c.toNat:Nat)]):=hown'.kept (row:=some b) ⟨rfl,rfl,rfl,by simp [World.setCell],fun k _ hk=>Below.heap_setCell _ _ _ _ (fun e=>hk (by simp [e]))⟩ (by
  cases hv:Value.ownBlock (.slice ao (l.length+1) cc) with
  | none=>exact .inl rfl
  | some g=>exact .inr (fun e=>by have:=(hown'.lt g hv).1;have:=Option.some.inj e;omega))
 have HF:Hid (PrnPost .nilIface b many (l++[c]) w (.returned .nilIface) (w2.setCell ⟨b,1,none⟩ (.slice ao (l.length+1) cc))):=Lib.hid ⟨rfl,⟨_,_,.inr rfl,hb3,by rw [List.length_append,Lib.byteCells_append];exact ho3⟩,
  (HB1.out.grown hg' (by have:=HZ1.out;omega) (fun k e=>by have:=(HOW.out.lt k e).1;omega)).setCell (p:=⟨b,1,none⟩) (Nat.le_refl _) _,
  (HK1.out.grown hg' (Lib.ownsRow_kind HOW.out)).setCell ⟨b,1,none⟩ rfl _,by have:=hg'.size;have:=HZ1.out;simp [World.setCell];omega⟩
 clear hb2 hb3 ho3 hown' hg' HBK HOW HB1 HK1
 try go_wp2_with fail
 try go_ret
 exact HF.out
set_option maxHeartbeats 4000000 in
theorem writeStrP (b:Nat) (many:Bool) (l:List UInt8) (s:ByteArray) (w:World) (h:Prn b many l w) (hlen:l.length+s.size<=140737488355328) :
 Calls Tryz.prog 61 #[.pointer (some ⟨b,0,none⟩),.string s] w (PrnPost (.tuple #[.int .i64 s.size,.nilIface]) b many (l++s.data.toList) w):=by
 have HCC:=Lib.hid (copyCheck_prn b many l w h)
 have hlt:=h.lt
 obtain ⟨i0,hi,hz0,hz1,hz2⟩:=info_parts Tryz.info_u8p
 clear h
 go_enter Tryz.func61,Tryz.ntmps61
 go_wp2_with fail
 (with_reducible refine HCC.out.mono ?_)
 rintro e w1 ⟨rfl,⟨v,hbk,hown⟩,hb1,hk1,hz1'⟩
 have c0:w1.cell? ⟨b,0,none⟩=some (.pointer (some ⟨b,0,none⟩)):=by rw [Lib.cell_of_heap hbk];rfl
 have c1:w1.cell? ⟨b,1,none⟩=some v:=by rw [Lib.cell_of_heap hbk];rfl
 have HBK:=Lib.hid hbk
 have HOW:=Lib.hid hown
 have HB1:=Lib.hid hb1
 have HK1:=Lib.hid hk1
 have HZ1:=Lib.hid hz1'
 clear hbk hown hb1 hk1 hz1' HCC
 go_wp2_with (at_builtin;refine Lib.wpList_append_own_string _ rfl _ _ 72 9 rfl (b+1) 5 i0 Tryz.underlying72 Tryz.underlying9 hi hz0 hz1 hz2 v l.length (Lib.byteCells l) rfl HOW.out s rfl (by unfold maxLen;omega) (by omega) (by have:=HZ1.out;omega) ?_;intro v' w2 hown' hg' _;obtain ⟨ao,cc,rfl⟩:=own_form hown';have hx:=prn_after HBK.out HOW.out hg';obtain ⟨hb2,d1,f1⟩:=hx)
 have hb3:(w2.setCell ⟨b,1,none⟩ (.slice ao (l.length+s.size) cc)).heap[b]?=some (.cells #[.pointer (some ⟨b,0,none⟩),.slice ao (l.length+s.size) cc,.bool many] 76):=by simp [World.setCell,Array.getElem?_modify,hb2]
 have ho3:(w2.setCell ⟨b,1,none⟩ (.slice ao (l.length+s.size) cc)).ownsRow (b+1) 5 1 (.slice ao (l.length+s.size) cc) (l.length+s.size) (Lib.byteCells l++Lib.strCells s):=hown'.kept (row:=some b) ⟨rfl,rfl,rfl,by simp [World.setCell],fun k _ hk=>Below.heap_setCell _ _ _ _ (fun e=>hk (by simp [e]))⟩ (by
  cases hv:Value.ownBlock (.slice ao (l.length+s.size) cc) with
  | none=>exact .inl rfl
  | some g=>exact .inr (fun e=>by have:=(hown'.lt g hv).1;have:=Option.some.inj e;omega))
 have HF:Hid (PrnPost (.tuple #[.int .i64 s.size,.nilIface]) b many (l++s.data.toList) w (.returned (.tuple #[.int .i64 s.size,.nilIface])) (w2.setCell ⟨b,1,none⟩ (.slice ao (l.length+s.size) cc))):=Lib.hid ⟨rfl,⟨_,_,.inr rfl,hb3,by
  rw [List.length_append,Lib.byteCells_append,<-Lib.size_eq];exact ho3⟩,
  (HB1.out.grown hg' (by have:=HZ1.out;omega) (fun k e=>by have:=(HOW.out.lt k e).1;omega)).setCell (p:=⟨b,1,none⟩) (Nat.le_refl _) _,
  (HK1.out.grown hg' (Lib.ownsRow_kind HOW.out)).setCell ⟨b,1,none⟩ rfl _,by have:=hg'.size;have:=HZ1.out;simp [World.setCell];omega⟩
 clear hb2 hb3 ho3 hown' hg' HBK HOW HB1 HK1
 try go_wp2_with fail
 try go_ret2
 exact HF.out
set_option maxHeartbeats 2000000 in
theorem builtP (b:Nat) (many:Bool) (l:List UInt8) (w:World) (h:Prn b many l w) (h0:l≠[]) :
 Calls Tryz.prog 34 #[.pointer (some ⟨b,0,none⟩)] w fun e w'=>e=.returned (.string ⟨l.toArray⟩)/\Below b w w':=by
 obtain ⟨p,v,hp,hbk,hown⟩:=h.ex
 have hl0:l.length≠0:=by simpa using h0
 obtain ⟨g,cap,cur,rfl,hbg,hg,hnc,hcm,hcs,htake⟩:∃ g cap cur,v=.slice (some ⟨g,0,none⟩) l.length cap/\b+1<=g/\w.heap[g]?=some (.cells cur 5 (0,0))/\l.length<=cap/\cap<=maxLen/\cur.size=cap * 1/\cur.toList.take (l.length * 1)=Lib.byteCells l:=by
  rcases hown.2 with ⟨_,hz⟩|⟨g,cap,cur,hv,r⟩
  ·exact absurd hz hl0
  ·exact ⟨g,cap,cur,hv,r⟩
 have c1:w.drew.cell? ⟨b,1,none⟩=some (.slice (some ⟨g,0,none⟩) l.length cap):=by
  have:w.drew.heap[b]?=some (.cells #[p,.slice (some ⟨g,0,none⟩) l.length cap,.bool many] 76):=hbk
  rw [Lib.cell_of_heap this];rfl
 have c1':w.cell? ⟨b,1,none⟩=some (.slice (some ⟨g,0,none⟩) l.length cap):=by rw [Lib.cell_of_heap hbk];rfl
 have hSD:(Builtin.unsafeSliceData_ #[72] 106 #[.slice (some ⟨g,0,none⟩) l.length cap]).run Tryz.prog w.drew=.ok (.pointer (some ⟨g,0,none⟩)) w.drew :=
  Lib.run_unsafeSliceData_row _ _ _ _ _ _ (by omega)
 have hUS:(Builtin.unsafeString_ #[106,3] 9 #[.pointer (some ⟨g,0,none⟩),.int .i64 l.length]).run Tryz.prog w.drew=.ok (.string ⟨l.toArray⟩) (w.drew.freeze ⟨g,0,none⟩ l.length):=by
  refine Lib.run_unsafeString_row w.drew 106 3 9 5 Tryz.underlying106 (by kernel_rfl) g cur.size (by have hg':w.drew.heap[g]?=some (.cells cur 5 (0,0)):=hg;simp [World.shape?,hg']) l h0 (by omega) (by unfold maxLen at hcm;omega) ?_
  intro j x hx
  have:=hown.cells (g:=g) rfl j (.int .u8 x.toNat) (by simp [Lib.byteCells,hx])
  exact this
 have HB:Hid (Below b w (w.drew.freeze ⟨g,0,none⟩ l.length)):=Lib.hid (Lib.below_freeze (Below.drew (Below.refl b w)) (p:=⟨g,0,none⟩) (show b<=g by omega) _)
 clear hg hnc hcm hcs htake hbk hown h
 go_enter Tryz.func34,Tryz.ntmps34
 go_wp2
 go_region
 all_goals (go_wp2;go_ret;exact ⟨rfl,HB.out⟩)
end Go.Proofs.YtldhmfkojaekfaaGreatDoor
namespace Go.Proofs.YtldhmfkojaekfaaGreatDoor
open Go.RowKit Gx
set_option maxRecDepth 100000
structure KeepP (b:Nat) (w w':World):Prop where
 below:Below b w w'
 oth:Lib.OthersKept 5 (some b) w w'
 size:w.heap.size<=w'.heap.size
theorem KeepP.refl (b:Nat) (w:World):KeepP b w w:=⟨Below.refl _ _,Lib.OthersKept.refl _ _ _,Nat.le_refl _⟩
theorem KeepP.trans {b:Nat} {w w1 w2:World} (h:KeepP b w w1) (k:KeepP b w1 w2):KeepP b w w2:=⟨h.below.trans k.below,h.oth.trans k.oth,Nat.le_trans h.size k.size⟩
theorem KeepP.of_below {b:Nat} {w w':World} (h:Below w.heap.size w w') (hb:b<=w.heap.size):KeepP b w w' :=
 ⟨h.mono hb,fun k o hk _ _=>(h.block k (Array.getElem?_eq_some_iff.1 hk).1).trans hk,h.size⟩
theorem PrnPost.keep {v:Value} {b:Nat} {many:Bool} {l:List UInt8} {w w':World} {e:Ending} (h:PrnPost v b many l w e w'):KeepP b w w':=⟨h.2.2.1,h.2.2.2.1,h.2.2.2.2⟩
def PrnP (b:Nat) (many:Bool) (l:List UInt8) (w:World) (e:Ending) (w':World):Prop:=(∃ v,e=.returned v)/\Prn b many l w'/\KeepP b w w'
def PrnQ (b:Nat) (many:Bool) (l:List UInt8) (Q:Prop) (w:World) (e:Ending) (w':World):Prop:=PrnP b many l w e w'/\Q
theorem repeat_two (j:Nat):Lib.repeatL [32,32] j=List.replicate (2 * j) 32:=by
 induction j with
 | zero=>rfl
 | succ j ih=>rw [Lib.repeatL,ih,show 2 * (j+1)=2+2 * j by omega,<-List.replicate_append_replicate];rfl
def StrPostP (x:List UInt8) (w:World) (e:Ending) (w':World):Prop:=e=.returned (.string ⟨x.toArray⟩)/\Below w.heap.size w w'
theorem rep2_any (j:Nat) (hj:j<=100000) (D:Int) (hD:D=j) (w:World):Calls Tryz.prog 93 #[.string ⟨#[32,32]⟩,.int .i64 D] w (StrPostP (indentT j) w):=by
 subst hD
 have h:=Tryz.strings_Repeat ⟨#[32,32]⟩ j w (by omega) (by show 2 * j<=_;omega)
 rw [show (⟨#[32,32]⟩:ByteArray).data.toList=[32,32] from rfl,repeat_two] at h
 exact h
theorem elemsT_app {α:Type} (many:Bool) (deep:Nat) (E:α->List UInt8):∀ (l m:List α) (i:Nat),elemsT many deep E i (l++m)=elemsT many deep E i l++elemsT many deep E (i+l.length) m
 | [],m,i=>by simp [elemsT]
 | y::l,m,i=>by
   rw [List.cons_append,elemsT,elemsT,elemsT_app many deep E l m (i+1),show i+1+l.length=i+(y::l).length by simp;omega]
   simp
theorem elemsT_map {α β:Type} (many:Bool) (deep:Nat) (E:β->List UInt8) (g:α->β):∀ (l:List α) (i:Nat),elemsT many deep E i (l.map g)=elemsT many deep (fun x=>E (g x)) i l
 | [],_=>rfl
 | y::l,i=>by rw [List.map_cons,elemsT,elemsT,elemsT_map many deep E g l (i+1)]
def partsT (many:Bool) (deep:Nat) (xs:List (List UInt8)):List UInt8:=elemsT many deep (fun x=>x) 0 xs
theorem partsT_take {many:Bool} {deep k:Nat} {xs:List (List UInt8)} {x:List UInt8} (h:xs[k]?=some x):partsT many deep (xs.take (k+1))=partsT many deep (xs.take k)++preT many deep k++x++postT many:=by
 obtain ⟨hk,rfl⟩:=List.getElem?_eq_some_iff.1 h
 unfold partsT
 rw [List.take_succ_eq_append_getElem hk,elemsT_snoc,List.length_take,Nat.min_eq_left (by omega),Nat.zero_add]
 simp
theorem partsT_le {many:Bool} {deep:Nat} {xs:List (List UInt8)} (k:Nat):(partsT many deep (xs.take k)).length<=(partsT many deep xs).length:=by
 unfold partsT
 have e:xs=xs.take k++xs.drop k:=(List.take_append_drop k xs).symm
 conv=>rhs;rw [e]
 rw [elemsT_app,List.length_append]
 omega
theorem nl_size (l:List UInt8):((⟨#[10]⟩:ByteArray)++⟨l.toArray⟩).size=1+l.length:=by
 rw [ByteArray.size_append];rfl
theorem nl_list (l:List UInt8):((⟨#[10]⟩:ByteArray)++⟨l.toArray⟩).data.toList=10::l:=by
 rw [ByteArray.data_append];simp
theorem tailT_le (many:Bool) (deep n:Nat):(tailT many deep n).length<=1+2 * deep:=by
 unfold tailT indentT
 split<;>simp<;>omega
set_option maxRecDepth 100000
theorem itoa_le (n:Int) (h0:-9223372036854775808<=n) (h1:n<=9223372036854775807):(Lib.itoa n).length<=20:=by
 unfold Lib.itoa
 split
 ·rw [decDigits_text,List.length_cons]
  have:=decText_len n.natAbs 19 (by omega) (by omega)
  omega
 ·rw [decDigits_text]
  have:=decText_len n.toNat 19 (by omega) (by omega)
  omega
theorem fTxt_le (b:Nat):(fTxt b).length<=30:=by
 by_cases h:∃ t,TextIs b t
 ·obtain ⟨t,ht⟩:=h
  rw [fTxt_is ht]
  exact (text_ch ht).2.2
 ·unfold fTxt
  rw [dif_neg h]
  decide
theorem quoteT_le {s:ByteArray} (h:okText s.data.toList):(quoteT s).length<=6 * s.size+2:=by
 obtain ⟨h1,h2⟩:=runesT_ok h
 have:=quoteOf_le _ h1
 rw [<-h2,<-Lib.size_eq] at this
 exact this
theorem leafT_le {d:Nat} {v:V} (h:Gd (d+1) v) (hw:v.wf):(leafT v).length<=30000:=by
 have hs:=(ownV_zero h.1).2
 unfold leafT
 split
 ·decide
 split
 ·split<;>decide
 split
 ·have:=itoa_le v.n hw.n0 hw.n1;omega
 split
 ·have:=fTxt_le v.f.toNat;omega
 ·have:=quoteT_le hs.2.2.2;omega
theorem keyT_le {k:ByteArray} (h:KeyOk k):(keyT k).length<=1000:=by
 unfold keyT
 split
 ·rw [<-Lib.size_eq];have:=h.1;omega
 ·have:=quoteT_le h.2;have:=h.1;omega
theorem elems_le {α:Type} {many:Bool} {deep C:Nat} {E:α->List UInt8} {n:α->Nat} (hd:deep<=20):∀ (l:List α) (i:Nat),(∀ x∈l,(E x).length+50<=C * n x)->(elemsT many deep E i l).length<=C * (l.map n).sum
 | [],_,_=>by simp [elemsT]
 | x::l,i,h=>by
   have h1:=h x (by simp)
   have h2:=elems_le (many:=many) (deep:=deep) hd l (i+1) (fun y hy=>h y (by simp [hy]))
   have h3:(preT many deep i).length<=43:=by
    unfold preT indentT
    split
    ·simp;omega
    ·split<;>simp
   have h4:(postT many).length<=1:=by unfold postT;split<;>simp
   simp only [elemsT,List.length_append,List.map_cons,List.sum_cons,Nat.mul_add]
   omega
theorem shw_le {many:Bool}:∀ (d deep:Nat) (v:V),deep+d<=20->Gd d v->WfAll v->(shwD leafT keyT many d deep v).length+2000<=40000 * v.nodes
 | 0,_,_,_,h,_=>h.elim
 | d+1,deep,v,hdd,h,hw=>by
   have ht:=tailT_le many deep
   rw [nodes_eq v]
   unfold V.parts
   rw [nodesL_app]
   by_cases h5:v.k=5
   ·have he:v.e=[]:=h.ok.e (by omega)
    have h1:=elems_le (many:=many) (deep:=deep) (C:=40000) (E:=shwD leafT keyT many d (deep+1)) (n:=V.nodes) (by omega) v.l 0 (fun x hx=>by
     have:=shw_le (many:=many) d (deep+1) x (by omega) (h.l x hx) (hw.l x hx);omega)
    have h2:=ht v.l.length
    rw [shwD,if_pos h5,he]
    simp only [List.length_cons,List.length_append,List.length_nil,List.map_nil,nodesL_nil]
    unfold nodesL
    omega
   by_cases h6:v.k=6
   ·have he:v.l=[]:=h.ok.l (by omega)
    have h1:=elems_le (many:=many) (deep:=deep) (C:=40000) (E:=fun x:ByteArray×V=>keyT x.1++([58,32]++shwD leafT keyT many d (deep+1) x.2)) (n:=fun x:ByteArray×V=>x.2.nodes) (by omega) v.e 0 (fun x hx=>by
     have h1:=shw_le (many:=many) d (deep+1) x.2 (by omega) (h.e x hx) (hw.e x hx)
     have h2:=keyT_le (keyE_short _ _ h.2.1 x hx)
     simp only [List.length_append,List.length_cons,List.length_nil]
     omega)
    have h2:=ht v.e.length
    rw [shwD,if_neg h5,if_pos h6,he]
    simp only [List.length_cons,List.length_append,List.length_nil,nodesL_nil]
    unfold nodesL
    rw [List.map_map]
    have e:(v.e.map (V.nodes ∘ fun x=>x.2))=v.e.map (fun x:ByteArray×V=>x.2.nodes):=rfl
    have e2:(v.e.map (V.nodes ∘ Prod.snd))=v.e.map (fun x:ByteArray×V=>x.2.nodes):=rfl
    first|rw [e2]|rw [e]
    omega
   ·have h1:=leafT_le h hw.own
    rw [shwD,if_neg h5,if_neg h6]
    omega
theorem chk_nodes:∀ (d:Nat) (v:V) (m:Nat),(chk d v m).1=0->(chk d v m).2=m+v.nodes
 | 0,v,m,h=>by simp only [chk] at h;split at h<;>cases h
 | d+1,v,m,h=>by
   simp only [chk] at h ⊢
   by_cases h1:2000<m+1
   ·rw [if_pos h1] at h;cases h
   rw [if_neg h1] at h ⊢
   by_cases h2:ownV v≠0
   ·rw [if_pos h2] at h;exact absurd h h2
   rw [if_neg h2] at h ⊢
   by_cases h3:keyE none v.e≠0
   ·rw [if_pos h3] at h;exact absurd h h3
   rw [if_neg h3] at h ⊢
   rw [nodes_eq v]
   have hall:∀ (xs:List V) (m:Nat),(chkAll (chk d) xs m).1=0->(chkAll (chk d) xs m).2=m+nodesL xs:=by
    intro xs
    induction xs with
    | nil=>intro m _;simp [chkAll,nodesL_nil]
    | cons y ys ih =>
      intro m hm
      have e:chkAll (chk d) (y::ys) m=if (chk d y m).1=0 then chkAll (chk d) ys (chk d y m).2 else chk d y m:=rfl
      rw [e] at hm ⊢
      by_cases hy:(chk d y m).1=0
      ·rw [if_pos hy] at hm ⊢
       rw [ih _ hm,chk_nodes d y m hy,nodesL_cons];omega
      ·rw [if_neg hy] at hm;exact absurd hm hy
   rw [hall _ _ h];omega
theorem good_nodes {v:V} (h:chkV v=0):v.nodes<=2000:=by
 unfold chkV at h
 have h1:=chk_nodes 20 v 0 h
 have h2:=(chk_le 20 v 0 (by omega)).2 h
 omega
theorem good_gd {v:V} (h:chkV v=0):Gd 20 v:=chk_gd 20 v 0 h
noncomputable def shwT (many:Bool) (v:V):List UInt8:=shwD leafT keyT many 20 0 v++(if many then [10] else [])
theorem shwT_le {many:Bool} {v:V} (h:chkV v=0) (hw:WfAll v):(shwD leafT keyT many 20 0 v).length<=80000000:=by
 have h1:=shw_le (many:=many) 20 0 v (by omega) (good_gd h) hw
 have h2:=good_nodes h
 omega
theorem shw_ne {many:Bool} {d deep:Nat} {v:V} (h:Gt (d+1) v):shwD leafT keyT many (d+1) deep v≠[]:=by
 obtain ⟨c,t,h1,-⟩:=shw_head (G:=Gt) (K:=KeyOk) (many:=many) (deep:=deep) tells h
 rw [h1];simp
theorem kbs_nil:kbs []=[]:=by rw [<-kbs_sol [] 0,solO_nil];rfl
theorem shw_G {many:Bool} {v:V} (h:chkV v=0) (ht:Tx 20 v):G 20 (kbs (shwT many v)) v []:=by
 obtain ⟨ts,t1,t2⟩:=shw_toks (leafT:=leafT) (keyT:=keyT) (many:=many) (Q:=Tx) (fun d v h=>h.2.2.1) (fun d v h=>h.2.2.2) (fun d v h hq h5 h6=>leaf_back h hq h5 h6) (fun k _ hk=>key_back k hk) 20 0 v (good_gd h) ht
 have h2:=t2 []
 rw [List.append_nil] at h2
 have e:kbs (shwT many v)=ts:=by
  unfold shwT
  cases many with
  | true =>
    rw [if_pos rfl,t1 _ (fun c hc=>by obtain rfl:=Option.some.inj hc;exact .inr (.inr (.inr rfl))),kbs_line,kbs_nil,List.append_nil]
  | false =>
    rw [if_neg (by decide),t1 _ (fun c hc=>by cases hc),kbs_nil,List.append_nil]
 rw [e];exact h2
theorem shw_mean {many:Bool} {v:V} (h:chkV v=0) (ht:Tx 20 v) (hl:(shwT many v).length<=20000):MeanOk (shwT many v) v:=meanOk_iff.2 ⟨hl,shw_G h ht,h⟩
theorem quoteT_ten {s:ByteArray} (h:okText s.data.toList):(10:UInt8)∉quoteT s:=(quoteOf_ok _ (runesT_ok h).1).2
theorem fCh_ten {t:List UInt8} (h:∀ c∈t,fCh c=true):(10:UInt8)∉t:=fun hc=>by have:=h 10 hc;revert this;decide
theorem leaf_ten {d:Nat} {v:V} (h:Gd (d+1) v) (hq:Tx (d+1) v) (h5:v.k≠5) (h6:v.k≠6):(10:UInt8)∉leafT v:=by
 have ok:=h.ok
 have k0:=ok.k0
 have k6:=ok.k6
 unfold leafT
 split
 ·decide
 split
 ·split<;>decide
 split
 ·exact fCh_ten (fun c hc=>iCh_f (itoa_ch _ c hc))
 split
 ·rename_i c3
  obtain ⟨t,ht⟩:=hq.2.1 c3
  rw [fTxt_is ht]
  exact fCh_ten (text_ch ht).1
 ·exact quoteT_ten (ownV_zero h.1).2.2.2.2
theorem key_ten {k:ByteArray} (h:okText k.data.toList):(10:UInt8)∉keyT k:=by
 unfold keyT
 split
 ·rename_i hb
  intro hc
  have:=bare_bytes hb 10 hc
  revert this;decide
 ·exact quoteT_ten h
theorem elems_ten {α:Type} {deep:Nat} {E:α->List UInt8}:∀ (l:List α) (i:Nat),(∀ a∈l,(10:UInt8)∉E a)->(10:UInt8)∉elemsT false deep E i l
 | [],_,_=>by simp [elemsT]
 | x::l,i,h=>by
   have h1:=h x List.mem_cons_self
   have h2:=elems_ten (deep:=deep) l (i+1) (fun a ha=>h a (List.mem_cons_of_mem _ ha))
   intro hc
   simp only [elemsT,preT,postT,Bool.false_eq_true,if_false,List.append_nil,List.mem_append] at hc
   rcases hc with (hc|hc)|hc
   ·split at hc
    ·cases hc
    ·revert hc;decide
   ·exact h1 hc
   ·exact h2 hc
theorem shw_ten:∀ (d deep:Nat) (v:V),Gd d v->Tx d v->(10:UInt8)∉shwD leafT keyT false d deep v
 | 0,_,v,h,_=>h.elim
 | d+1,deep,v,h,hq=>by
   have tail:∀ n,tailT false deep n=[]:=fun n=>rfl
   rw [shwD]
   by_cases h5:v.k=5
   ·rw [if_pos h5,tail]
    have:=elems_ten (deep:=deep) (E:=shwD leafT keyT false d (deep+1)) v.l 0 (fun a ha=>shw_ten d _ a (h.l a ha) (hq.2.2.1 a ha))
    intro hc
    simp only [List.mem_cons,List.mem_append,List.nil_append,List.not_mem_nil,or_false] at hc
    rcases hc with hc|hc|hc
    ·revert hc;decide
    ·exact this hc
    ·revert hc;decide
   rw [if_neg h5]
   by_cases h6:v.k=6
   ·rw [if_pos h6,tail]
    have:=elems_ten (deep:=deep) (E:=fun x:ByteArray×V=>keyT x.1++([58,32]++shwD leafT keyT false d (deep+1) x.2)) v.e 0 (fun a ha=>by
     have g1:=key_ten (keyE_short v.e none h.2.1 a ha).2
     have g2:=shw_ten d (deep+1) a.2 (h.e a ha) (hq.2.2.2 a ha)
     intro hc
     simp only [List.mem_append,List.mem_cons,List.not_mem_nil,or_false] at hc
     rcases hc with hc|(hc|hc)|hc
     ·exact g1 hc
     ·revert hc;decide
     ·revert hc;decide
     ·exact g2 hc)
    intro hc
    simp only [List.mem_cons,List.mem_append,List.nil_append,List.not_mem_nil,or_false] at hc
    rcases hc with hc|hc|hc
    ·revert hc;decide
    ·exact this hc
    ·revert hc;decide
   ·rw [if_neg h6]
    exact leaf_ten h hq h5 h6
theorem line_ten {v:V} (h:chkV v=0) (ht:Tx 20 v):(10:UInt8)∉shwT false v:=by
 unfold shwT
 rw [if_neg (by decide),List.append_nil]
 exact shw_ten 20 0 v (good_gd h) ht
theorem show_end {v:V}:∃ l,shwT true v=l++[10]:=⟨_,by unfold shwT;rw [if_pos rfl]⟩
set_option maxRecDepth 100000
def TextPostF (b:Nat) (w:World) (e:Ending) (w':World):Prop:=∃ s:ByteArray,e=.returned (.string s)/\TextIs b s.data.toList/\s.size<=100/\Below w.heap.size w w'
set_option maxHeartbeats 4000000 in
theorem text_f (b:Nat) (w:World) (hb:b<18446744073709551616) (hT:FTab w):Calls Tryz.prog 96 #[.int .u64 b] w (TextPostF b w):=by
 have hsg:∃ sg:ByteArray,sg.data.toList=sgOf b/\((sg=⟨#[45]⟩/\decide ((9223372036854775808:Int)<=(b:Int))=true)\/(sg=⟨#[]⟩/\decide ((9223372036854775808:Int)<=(b:Int))=false)):=by
  unfold sgOf
  by_cases h:9223372036854775808<=b
  ·exact ⟨⟨#[45]⟩,by rw [if_pos h],.inl ⟨rfl,decide_eq_true (by omega)⟩⟩
  ·exact ⟨⟨#[]⟩,by rw [if_neg h],.inr ⟨rfl,decide_eq_false (by omega)⟩⟩
 obtain ⟨sg,hs0,hsg⟩:=hsg
 have HSG:=Lib.hid hs0
 have hfin:∀ (u:List UInt8) (s:ByteArray) w',s.data.toList=sg.data.toList++u->TextIs b (sgOf b++u)->u.length<=30->Below w.heap.size w w'->TextPostF b w (.returned (.string s)) w':=by
  intro u s w' h1 h2 h3 h4
  refine ⟨s,rfl,by rw [h1,hs0];exact h2,?_,h4⟩
  rw [Lib.size_eq,h1,List.length_append,<-Lib.size_eq]
  have:sg.size<=1:=by rcases hsg with ⟨rfl,-⟩|⟨rfl,-⟩<;>decide
  omega
 have hnan:b / 4503599627370496 % 2048=2047->b % 4503599627370496≠0->∀ w',Below w.heap.size w w'->TextPostF b w (.returned (.string ⟨#[110,97,110]⟩)) w':=by
  intro h1 h2 w' h4
  exact ⟨_,rfl,.inl ⟨h1,h2,rfl⟩,by decide,h4⟩
 have HFIN:=Lib.hid hfin
 have HNAN:=Lib.hid hnan
 have hP:=parts_anyFl b w hb
 have hS:=fun w0=>short_any b w0 hb
 unfold PartsPostFl at hP
 unfold ShortPost at hS
 have HP:=Lib.hid hP
 have HS:=Lib.hid hS
 have HT:=Lib.hid hT
 have hI:b / 4503599627370496 % 2048=2047->b % 4503599627370496=0->TextIs b (sgOf b++infTxt):=fun h1 h2=>.inr (.inl ⟨h1,h2,rfl⟩)
 have hZ:b / 4503599627370496 % 2048≠2047->b % 9223372036854775808=0->TextIs b (sgOf b++[48,46,48]):=fun h1 h2=>.inr (.inr (.inl ⟨h1,h2,rfl⟩))
 have HI:=Lib.hid hI
 have HZ:=Lib.hid hZ
 have hN:b / 4503599627370496 % 2048≠2047->b % 9223372036854775808≠0->∀ (c m z:Nat) (kk:Int),ShortIs (b % 9223372036854775808) c kk->c=m * 10 ^ z->m % 10≠0->m≠0->(decText m).length<=17->-500<=kk+(z:Int)->kk+(z:Int)<=500->TextIs b (sgOf b++pointOf (decText m) (kk+(z:Int))) :=
  fun h1 h2 c m z kk a1 a2 a3 a4 a5 a6 a7=>.inr (.inr (.inr ⟨h1,h2,c,m,z,kk,a1,a2,a3,a4,a5,a6,a7,rfl⟩))
 have HN:=Lib.hid hN
 generalize TextPostF b w=POST at *
 have hq1:∃ q,q=b / 4503599627370496 % 2048:=⟨_,rfl⟩
 obtain ⟨q,hq⟩:=hq1
 obtain ⟨f,hf⟩:∃ f,f=b % 4503599627370496:=⟨_,rfl⟩
 obtain ⟨B,hB⟩:∃ B,B=b % 9223372036854775808:=⟨_,rfl⟩
 rw [<-hq] at HP HS HNAN HI HZ HN
 rw [<-hf] at HP HNAN HI
 rw [<-hB] at HP HS HZ HN
 clear hfin hnan hP hS hT hI hZ hN hs0 hq hf hB
 rcases hsg with ⟨rfl,hsd⟩|⟨rfl,hsd⟩
 all_goals
  go_enter Tryz.func96,Tryz.ntmps96
  go_wp2_with fail
  refine HP.out.mono ?_
  rintro e0 w1 ⟨m,x,k,rfl,hcase,rfl⟩
  rcases hcase with ⟨h1,rfl,⟨h2,rfl⟩|⟨h2,rfl⟩⟩|⟨h1,rfl,h3,E,rfl,h5,h6,h7⟩
  ·have N:=Lib.hid (fun s hs=>HFIN.out infTxt s w hs (HI.out h1 h2) (by decide) (Below.refl _ _))
   clear h1 h2
   go_wp2_with fail
   try go_ret
   exact N.out _ rfl
  ·have N:=Lib.hid (HNAN.out h1 h2 w (Below.refl _ _))
   clear h1 h2
   go_wp2_with fail
   try go_ret
   exact N.out
  ·rcases Nat.eq_zero_or_pos m with rfl|hm
   ·have hz:B=0:=by omega
    have N:=Lib.hid (fun s hs=>HFIN.out [48,46,48] s w hs (HZ.out h1 hz) (by decide) (Below.refl _ _))
    clear h1 hz h3 h5 h6 h7
    go_wp2_with fail
    try go_ret
    exact N.out _ rfl
   ·have hz:B≠0:=by omega
    have tm:((m:Int)==0)=false:=by rw [beq_eq_false_iff_ne];omega
    have tm2:decide ((m:Int)=0)=false:=decide_eq_false (by omega)
    have H1:=Lib.hid h1
    have H2:=Lib.hid hz
    have HS2:=Lib.hid (HS.out w)
    clear h1 hz h3 h5 h6 h7
    go_wp2_with fail
    refine HS2.out.mono ?_
    rintro e0 w2 (⟨hbad,-,-⟩|⟨-,-,c,kk,hc,rfl,hb2⟩)
    ·exfalso
     rcases hbad with h|h
     ·exact H1.out h
     ·exact H2.out h
    ·have hc0:=shortIs_pos hc H2.out
     have hlen:=shortIs_len hc
     obtain ⟨M,z,e1,e2,e3,e4⟩:=short_parts c hc0
     have hdl:(decText c).length<=30:=dec_len c (by omega)
     have hM0:M≠0:=by intro h;rw [h,Nat.zero_mul] at e1;exact hc0 e1
     have hpos:=text_pos M
     have hkk:kk+((decText c).length:Int) - ((shortOf c).length:Int)=kk+(z:Int):=by rw [e3,e4];omega
     have hkr:-420<=kk/\kk<=400:=by
      obtain ⟨N,D,top,n0,-,-,-,g1,g2,⟨g3,-⟩,g4,rfl,-⟩:=hc
      omega
     rw [e3] at hlen
     have TI:=HN.out H1.out H2.out c M z kk hc e1 e2 hM0 hlen.2 (by omega) (by omega)
     obtain ⟨s,hs⟩:∃ s:ByteArray,s=⟨(shortOf c).toArray⟩:=⟨_,rfl⟩
     have hsl:s.data.toList=decText M:=by rw [hs,e3]
     have hsz:s.size=(decText M).length:=by rw [Lib.size_eq,hsl]
     rw [hkk,<-hs]
     have B2:=Lib.hid hb2
     have T2:=HT.out.keep hb2
     have hPT:=point_any s (kk+(z:Int)) w2 (by omega) (by omega) (by omega) (by omega) T2
     rw [hsl] at hPT
     have hpl:=point_len (decText M) (kk+(z:Int)) hlen.2 (by omega) (by omega)
     generalize pointOf (decText M) (kk+(z:Int))=PT at *
     have HPT:=Lib.hid hPT
     unfold StrPostFl at HPT
     have HTI:=Lib.hid TI
     generalize kk+(z:Int)=K at *
     clear hc hc0 e1 e2 e3 e4 hdl hM0 hpos hkk hkr TI hsl hsz hb2 T2 hPT hs hlen
     go_wp2_with fail
     refine HPT.out.mono ?_
     rintro e0 w3 ⟨rfl,hb3⟩
     have N:=Lib.hid (fun s hs=>HFIN.out PT s w3 hs HTI.out (by omega) (B2.out.trans (hb3.mono B2.out.size)))
     clear hb3
     go_wp2_with fail
     try go_ret
     exact N.out _ (by simp)
set_option maxRecDepth 100000
def STabs (w:World):Prop:=QTabs w/\FTab w
theorem STabs.keep {w w':World} (h:STabs w) (hb:Below w.heap.size w w'):STabs w':=⟨h.1.keep hb,h.2.keep hb⟩
def LeafPost (v:V) (w:World) (e:Ending) (w':World):Prop:=e=.returned (.string ⟨(leafT v).toArray⟩)/\Below w.heap.size w w'/\(v.k=3->∃ t,TextIs v.f.toNat t)
set_option maxHeartbeats 400000 in
theorem text_n (n:Int) (h0:-9223372036854775808<=n) (h1:n<=9223372036854775807) (w:World) (hT:FTab w):Calls Tryz.prog 95 #[.int .i64 n] w (StrPostFl (Lib.itoa n) w):=by
 have hf:Calls Tryz.prog 113 #[.int .i64 n,.int .i64 10] w (StrPostFl (Lib.itoa n) w):=by
  refine (Tryz.strconv_FormatInt_10 n h0 h1 w hT).mono ?_
  rintro e w2 ⟨rfl,k,os,rfl⟩
  exact ⟨rfl,below_growFl w k os⟩
 have HF:=Lib.hid hf
 clear hf hT
 go_enter Tryz.func95,Tryz.ntmps95
 go_wp2_with fail
 refine HF.out.mono ?_
 rintro e w2 ⟨rfl,hb⟩
 go_wp2
 go_ret
 exact ⟨rfl,hb⟩
theorem bytes_self (s:ByteArray):s=⟨s.data.toList.toArray⟩:=by
 apply ByteArray.ext;simp
theorem und_two:∃ S,Tryz.prog.underlying 132=some (.array 2 S)/\S=9:=⟨_,by kernel_rfl,rfl⟩
theorem index_two (x y:Value) (w:World):(Instr.index 132 (.agg #[x,y]) (.int .i64 0)).run Tryz.prog w=.ok x w/\(Instr.index 132 (.agg #[x,y]) (.int .i64 1)).run Tryz.prog w=.ok y w:=by
 obtain ⟨S,h,rfl⟩:=und_two
 constructor<;>simp [Instr.index,run_underlying h,asIntOf,go_sem]
set_option maxHeartbeats 4000000 in
theorem leafSh_any (d:Nat) (q:Loc) (w:World) (hT:STabs w) (hg:Gd (d+1) q.v) (hw:q.v.wf) (h5:q.v.k≠5) (h6:q.v.k≠6):Calls Tryz.prog 62 #[q.val] w (LeafPost q.v w):=by
 have hb0:Below w.heap.size w (w.alloc (.cells #[.int .i64 q.v.k,.int .i64 q.v.n,.int .u64 q.v.f,.string q.v.s,.slice q.ad q.v.l.length q.cap,.slice q.bd q.v.e.length q.dap] 26)):=(Below.refl w.heap.size w).alloc (Nat.le_refl _) _
 have hc:=CellsAt.box (q:=q) (heap_alloc_new w (.cells #[.int .i64 q.v.k,.int .i64 q.v.n,.int .u64 q.v.f,.string q.v.s,.slice q.ad q.v.l.length q.cap,.slice q.bd q.v.e.length q.dap] 26))
 unfold Loc.val
 have ok:=hg.ok
 have k0:=ok.k0
 have k6:=ok.k6
 have hos:=(ownV_zero hg.1).2.2.2.2
 have hoz:=(ownV_zero hg.1).2.1
 have hw0:=hw.n0
 have hw1:=hw.n1
 have hw2:=hw.f0
 have hw3:=hw.f1
 have HT:=Lib.hid (hT.keep hb0)
 clear hw hT hg
 obtain ⟨a0,a1,a2,a3,a4,a5⟩:=hc
 have HB0:=Lib.hid hb0
 clear hb0
 by_cases c0:q.v.k=0
 ·have HR:Hid (∀ w',Below w.heap.size w w'->LeafPost q.v w (.returned (.string ⟨#[110,117,108,108]⟩)) w'):=Lib.hid (fun w' hb=>⟨by unfold leafT;rw [if_pos c0];rfl,hb,fun h=>by omega⟩)
  clear ok hos k0 k6
  rw [c0] at a0 HB0 HT ⊢
  go_enter Tryz.func62,Tryz.ntmps62
  go_wp2_with fail
  try go_ret
  exact HR.out _ HB0.out
 by_cases c1:q.v.k=1
 ·rcases ok.n1 c1 with n|n
  ·have HR:Hid (∀ w',Below w.heap.size w w'->LeafPost q.v w (.returned (.string ⟨#[102,97,108,115,101]⟩)) w'):=Lib.hid (fun w' hb=>⟨by unfold leafT;rw [if_neg c0,if_pos c1,if_neg (by omega)];rfl,hb,fun h=>by omega⟩)
   have hbit:bits BinOp.and IntKind.i64 0 1=0:=by decide
   clear ok hos k0 k6
   rw [c1,n] at HB0 HT a0 a1 a2 a3 a4 a5 ⊢
   go_enter Tryz.func62,Tryz.ntmps62
   go_wp2_with fail
   rw [(index_two _ _ _).1]
   simp only [Result.andThen]
   rw [Oper.upon_value]
   go_wp2_with fail
   try go_ret
   exact HR.out _ HB0.out
  ·have HR:Hid (∀ w',Below w.heap.size w w'->LeafPost q.v w (.returned (.string ⟨#[116,114,117,101]⟩)) w'):=Lib.hid (fun w' hb=>⟨by unfold leafT;rw [if_neg c0,if_pos c1,if_pos n];rfl,hb,fun h=>by omega⟩)
   have hbit:bits BinOp.and IntKind.i64 1 1=1:=by decide
   clear ok hos k0 k6
   rw [c1,n] at HB0 HT a0 a1 a2 a3 a4 a5 ⊢
   go_enter Tryz.func62,Tryz.ntmps62
   go_wp2_with fail
   rw [(index_two _ _ _).2]
   simp only [Result.andThen]
   rw [Oper.upon_value]
   go_wp2_with fail
   try go_ret
   exact HR.out _ HB0.out
 by_cases c2:q.v.k=2
 ·have HR:Hid (∀ w',Below w.heap.size w w'->LeafPost q.v w (.returned (.string ⟨(Lib.itoa q.v.n).toArray⟩)) w'):=Lib.hid (fun w' hb=>⟨by unfold leafT;rw [if_neg c0,if_neg c1,if_pos c2],hb,fun h=>by omega⟩)
  have HN:=Lib.hid (text_n q.v.n hw0 hw1 _ HT.out.2)
  clear ok hos k0 k6
  rw [c2] at HB0 HT HN a0 a1 a2 a3 a4 a5 ⊢
  go_enter Tryz.func62,Tryz.ntmps62
  go_wp2_with fail
  (with_reducible refine HN.out.mono ?_)
  rintro e w2 ⟨rfl,hb⟩
  have HB2:=Lib.hid (HB0.out.trans (hb.mono HB0.out.size))
  clear hb HB0 HT HN a0 a1 a2 a3 a4 a5
  go_wp2_with fail
  try go_ret
  exact HR.out _ HB2.out
 by_cases c3:q.v.k=3
 ·obtain ⟨b,hb⟩:∃ b:Nat,q.v.f=b:=⟨q.v.f.toNat,by omega⟩
  have hbt:q.v.f.toNat=b:=by omega
  have HR:Hid (∀ w' (s:ByteArray),TextIs b s.data.toList->Below w.heap.size w w'->LeafPost q.v w (.returned (.string s)) w'):=Lib.hid (fun w' s ht hbw=>⟨by
   unfold leafT;rw [if_neg c0,if_neg c1,if_neg c2,if_pos c3,hbt,fTxt_is ht,<-bytes_self],hbw,fun h=>⟨_,by rw [hbt];exact ht⟩⟩)
  have HN:=Lib.hid (text_f b (w.alloc (.cells #[.int .i64 q.v.k,.int .i64 q.v.n,.int .u64 q.v.f,.string q.v.s,.slice q.ad q.v.l.length q.cap,.slice q.bd q.v.e.length q.dap] 26)) (by omega) HT.out.2)
  clear ok hos k0 k6 hbt hw2 hw3
  rw [c3,hb] at HB0 HT HN a0 a1 a2 a3 a4 a5 ⊢
  go_enter Tryz.func62,Tryz.ntmps62
  go_wp2_with fail
  (with_reducible refine HN.out.mono ?_)
  rintro e w2 ⟨s,rfl,ht,-,hb2⟩
  have HB2:=Lib.hid (HB0.out.trans (hb2.mono HB0.out.size))
  have HTI:=Lib.hid ht
  clear hb2 HB0 HT HN a0 a1 a2 a3 a4 a5 ht
  go_wp2_with fail
  try go_ret
  exact HR.out _ s HTI.out HB2.out
 ·have c4:q.v.k=4:=by omega
  obtain ⟨r1,r2⟩:=runesT_ok hos
  have HR:Hid (∀ w',Below w.heap.size w w'->LeafPost q.v w (.returned (.string ⟨(quoteOf (runesT q.v.s.data.toList)).toArray⟩)) w'):=Lib.hid (fun w' hb=>⟨by unfold leafT;rw [if_neg c0,if_neg c1,if_neg c2,if_neg c3];rfl,hb,fun h=>by omega⟩)
  have HN:=Lib.hid (quote_yes q.v.s (runesT q.v.s.data.toList) _ HT.out.1 (by omega) r1 r2)
  clear ok hos k0 k6 r1 r2
  rw [c4] at HB0 HT HN a0 a1 a2 a3 a4 a5 ⊢
  go_enter Tryz.func62,Tryz.ntmps62
  go_wp2_with fail
  (with_reducible refine HN.out.mono ?_)
  rintro e w2 ⟨rfl,hb⟩
  have HB2:=Lib.hid (HB0.out.trans (hb.mono HB0.out.size))
  clear hb HB0 HT HN a0 a1 a2 a3 a4 a5
  go_wp2_with fail
  try go_ret
  exact HR.out _ HB2.out
theorem key_any (s:ByteArray) (w:World) (hT:STabs w) (hk:KeyOk s):Calls Tryz.prog 60 #[.string s] w (StrErr (keyT s) 0 w):=by
 unfold keyT
 by_cases hb:bareOf s.data.toList=true
 ·rw [if_pos hb]
  refine (key_bare s w (by have:=hk.1;omega) hb).mono ?_
  rintro e w' ⟨rfl,h⟩
  exact ⟨by rw [<-bytes_self],h⟩
 ·rw [if_neg hb]
  obtain ⟨r1,r2⟩:=runesT_ok hk.2
  exact key_quote s _ 0 w (by have:=hk.1;omega) hT.1 (by simpa using hb) (fun w0 h0=>quote_yes s _ w0 h0 (by have:=hk.1;omega) r1 r2)
set_option maxRecDepth 100000
structure Bx (b n0 deep:Nat) (q:Loc) (W:World):Prop where
 lt:b<n0
 p:W.heap[n0]?=some (.cells #[.pointer (some ⟨b,0,none⟩)] 70)
 v:W.heap[n0+1]?=some (.cells q.cs.toArray 26)
 d:W.heap[n0+2]?=some (.cells #[.int .i64 deep] 3)
theorem Bx.keep {b n0 deep:Nat} {q:Loc} {W W':World} (h:Bx b n0 deep q W) (k:KeepP b W W'):Bx b n0 deep q W':=by
 have hb:=h.lt
 refine ⟨hb,k.oth _ _ h.p (fun e=>by have:=Option.some.inj e;omega) (fun c fz e=>?_),k.oth _ _ h.v (fun e=>by have:=Option.some.inj e;omega) (fun c fz e=>?_),k.oth _ _ h.d (fun e=>by have:=Option.some.inj e;omega) (fun c fz e=>?_)⟩<;>(injection e with e1 e2;exact absurd e2 (by decide))
theorem Bx.cp {b n0 deep:Nat} {q:Loc} {W:World} (h:Bx b n0 deep q W):W.cell? ⟨n0,0,none⟩=some (.pointer (some ⟨b,0,none⟩)):=by rw [Lib.cell_of_heap h.p];rfl
theorem Bx.cd {b n0 deep:Nat} {q:Loc} {W:World} (h:Bx b n0 deep q W):W.cell? ⟨n0+2,0,none⟩=some (.int .i64 deep):=by rw [Lib.cell_of_heap h.d];rfl
theorem Bx.cv {b n0 deep:Nat} {q:Loc} {W:World} (h:Bx b n0 deep q W):CellsAt W (n0+1) 0 q:=CellsAt.box h.v
theorem vat_keep {W W':World} {b:Nat} {q:Loc} (h:VAt W (fun k=>k<b) q) (k:KeepP b W W'):VAt W' (fun k=>k<b) q :=
 h.through k.size (fun i hi _=>k.below.block i hi) (fun _ h _=>h)
theorem KeepP.drew {b:Nat} {W:World} (h:b<=W.heap.size):KeepP b W W.drew:=KeepP.of_below (Gx.drewN_below W 1 _) h
def ValOkS (many:Bool) (b d:Nat) (deep:Nat):Prop:=∀ (q:Loc) (W:World) (l:List UInt8),Prn b many l W->VAt W (fun k=>k<b) q->Gd d q.v->l.length+(shwD leafT keyT many d deep q.v).length+100 * d<=1000000000000 ->
 ∀ wt:World,wt.heap.size=b->STabs wt->Below b wt W->Calls Tryz.prog 32 #[.pointer (some ⟨b,0,none⟩),q.val,.int .i64 deep] W (PrnQ b many (l++shwD leafT keyT many d deep q.v) (Tx d q.v) W)
set_option maxHeartbeats 4000000 in
theorem one1_any (many:Bool) (b d deep n0:Nat) (q:Loc) (HV:ValOkS many b d (deep+1)) (wt:World) (hwt:wt.heap.size=b) (hT:STabs wt) (hd:deep<=20) (hg:Gd (d+1) q.v) (i:Nat) (x:V) (hx:q.v.l[i]?=some x) (W:World) (l:List UInt8) (hp:Prn b many l W) (hbx:Bx b n0 deep q W) (hq:VAt W (fun k=>k<b) q) (hbw:Below b wt W)
 (hl:l.length+(shwD leafT keyT many d (deep+1) x).length+100 * d<=1000000000000) :
 Calls Tryz.prog 58 #[.int .i64 i,.pointer (some ⟨n0,0,none⟩),.pointer (some ⟨n0+1,0,none⟩),.pointer (some ⟨n0+2,0,none⟩)] W (PrnQ b many (l++shwD leafT keyT many d (deep+1) x) (Tx d x) W):=by
 have hil:i<q.v.l.length:=(List.getElem?_eq_some_iff.1 hx).1
 obtain ⟨blk,off,had,hB,hlt,hel⟩:=hq.l.elem (by omega)
 obtain ⟨xq,hxv,hxa,hxc⟩:=hel i x hx
 subst hxv
 have hk0:KeepP b W W.drew:=KeepP.drew (Nat.le_of_lt hp.lt)
 have hw:IntKind.i64.wrap ((deep:Int)+1)=((deep+1:Nat):Int):=by rw [IntKind.wrap_i64];omega
 have hc:Calls Tryz.prog 32 #[.pointer (some ⟨b,0,none⟩),xq.val,.int .i64 (IntKind.i64.wrap ((deep:Int)+1))] W.drew (PrnQ b many (l++shwD leafT keyT many d (deep+1) xq.v) (Tx d xq.v) W.drew):=by
  rw [hw]
  exact HV xq W.drew l (hp.keep (Gx.drewN_below W 1 _)) (vat_keep hxa hk0) (hg.l _ (List.mem_of_getElem? hx)) hl wt hwt hT (hbw.trans hk0.below)
 unfold Loc.val at hc
 have HC:=Lib.hid hc
 have HK0:=Lib.hid hk0
 obtain ⟨e0,e1,e2,e3,e4,e5⟩:=hxc
 obtain ⟨v0,v1,v2,v3,v4,v5⟩:=hbx.cv
 have cp:=hbx.cp
 have cd:=hbx.cd
 rw [had] at v4
 have hi0:(0:Int)<=(i:Int):=by omega
 have hi1:(i:Int)<(q.v.l.length:Int):=by omega
 have hi2:(i:Int).toNat=i:=by omega
 clear hc hk0 hw HV hwt hT hg hx hp hbx hq hbw hl hel hxa hlt hB had v0 v1 v2 v3 v5 hd
 go_enter Tryz.func58,Tryz.ntmps58
 go_wp2_with fail
 go_region_law (first|(go_simp;(with_reducible refine HC.out.mono ?_);rintro e w2 ⟨⟨⟨v,rfl⟩,h2,hk2⟩,ht⟩;have HR:Hid (PrnQ b many (l++shwD leafT keyT many d (deep+1) xq.v) (Tx d xq.v) W (.returned (.tuple #[])) w2):=Lib.hid ⟨⟨⟨_,rfl⟩,h2,HK0.out.trans hk2⟩,ht⟩;clear h2 hk2 ht))
 all_goals
  go_wp2_with fail
  try go_end0
  exact HR.out
theorem cat_size (l m:List UInt8):((⟨l.toArray⟩:ByteArray)++⟨m.toArray⟩).size=l.length+m.length:=by
 rw [ByteArray.size_append];rfl
theorem cat_list (l m:List UInt8):((⟨l.toArray⟩:ByteArray)++⟨m.toArray⟩).data.toList=l++m:=by
 rw [ByteArray.data_append];simp
set_option maxHeartbeats 4000000 in
theorem one2_any (many:Bool) (b d deep n0:Nat) (q:Loc) (HV:ValOkS many b d (deep+1)) (wt:World) (hwt:wt.heap.size=b) (hT:STabs wt) (hd:deep<=20) (hg:Gd (d+1) q.v) (i:Nat) (x:ByteArray×V) (hx:q.v.e[i]?=some x) (W:World) (l:List UInt8) (hp:Prn b many l W) (hbx:Bx b n0 deep q W) (hq:VAt W (fun k=>k<b) q) (hbw:Below b wt W)
 (hl:l.length+(keyT x.1++([58,32]++shwD leafT keyT many d (deep+1) x.2)).length+100 * d<=1000000000000) :
 Calls Tryz.prog 59 #[.int .i64 i,.pointer (some ⟨n0+1,0,none⟩),.pointer (some ⟨n0,0,none⟩),.pointer (some ⟨n0+2,0,none⟩)] W (PrnQ b many (l++(keyT x.1++([58,32]++shwD leafT keyT many d (deep+1) x.2))) (Tx d x.2) W):=by
 have hil:i<q.v.e.length:=(List.getElem?_eq_some_iff.1 hx).1
 have hq0:=hq
 obtain ⟨blk,off,had,hB,hlt,hel⟩:=hq0.e.entry (by omega)
 obtain ⟨-,hkc,xq,hxv,hxa,hxc⟩:=hel i x hx
 obtain ⟨key,xv⟩:=x
 simp only at hxv hkc hl ⊢
 subst hxv
 have hko:KeyOk key:=keyE_short _ _ hg.2.1 _ (List.mem_of_getElem? hx)
 obtain ⟨v0,v1,v2,v3,v4,v5⟩:=hbx.cv
 rw [had] at v5
 have hi0:(0:Int)<=(i:Int):=by omega
 have hi1:(i:Int)<(q.v.e.length:Int):=by omega
 have hi2:(i:Int).toNat=i:=by omega
 have hsz:=hbw.size
 rw [hwt] at hsz
 have hTW:∀ W2:World,Below b wt W2->STabs W2:=fun W2 hb=>hT.keep (by rw [hwt];exact hb)
 obtain ⟨KT,hKT⟩:∃ KT,KT=keyT key:=⟨_,rfl⟩
 have HK:=Lib.hid (key_any key W (hTW W hbw) hko)
 rw [<-hKT] at HK hl ⊢
 have HBX:=Lib.hid hbx
 have HXA:=Lib.hid hxa
 have HP:=Lib.hid hp
 have HVV:=Lib.hid HV
 have HTW:=Lib.hid hTW
 have HBW:=Lib.hid hbw
 have HGD:=Lib.hid (hg.e _ (List.mem_of_getElem? hx))
 have hle:l.length+KT.length+2+(shwD leafT keyT many d (deep+1) xq.v).length+100 * d<=1000000000000:=by
  simp only [List.length_append,List.length_cons,List.length_nil] at hl;omega
 have HL:=Lib.hid hle
 have hcat:¬ 9223372036854775807<KT.length+2:=by omega
 have HXC:=Lib.hid hxc
 have HV5:=Lib.hid v5
 have hbs:blk<b:=hB
 clear hbx hxa hp HV hTW hbw hg hl hle hx hxc hq hq0 hel hko hKT v0 v1 v2 v3 v4 hlt hB had
 go_enter Tryz.func59,Tryz.ntmps59
 go_wp2_with fail
 unfold StrErr at HK
 (with_reducible refine HK.out.mono ?_)
 rintro e w2 ⟨rfl,hb2⟩
 have hk2:KeepP b W w2:=KeepP.of_below hb2 hsz
 have HK2:=Lib.hid hk2
 have HP2:=Lib.hid (HP.out.keep hb2)
 have HBX2:=Lib.hid (HBX.out.keep hk2)
 have cp:=HBX2.out.cp
 have HWS:=Lib.hid (writeStrP b many l ((⟨KT.toArray⟩:ByteArray)++⟨#[58,32]⟩) w2 HP2.out (by have:=cat_size KT [58,32];have:=HL.out;simp only [List.length_cons,List.length_nil] at *;omega))
 clear hb2 hk2 HK hkc v5
 go_wp2_with fail
 (with_reducible refine HWS.out.mono ?_)
 rintro e w3 ⟨rfl,h3,hb3,ho3,hz3⟩
 have hk3:KeepP b W w3:=HK2.out.trans ⟨hb3,ho3,hz3⟩
 have h3':Prn b many (l++(KT++[58,32])) w3:=by
  have:=cat_list KT [58,32]
  rw [show ((⟨KT.toArray⟩:ByteArray)++⟨#[58,32]⟩).data.toList=KT++[58,32] from this] at h3
  exact h3
 have hk0:KeepP b w3 w3.drew:=KeepP.drew (Nat.le_of_lt h3.lt)
 have hk4:=hk3.trans hk0
 have hw:IntKind.i64.wrap ((deep:Int)+1)=((deep+1:Nat):Int):=by rw [IntKind.wrap_i64];omega
 have hc:Calls Tryz.prog 32 #[.pointer (some ⟨b,0,none⟩),xq.val,.int .i64 (IntKind.i64.wrap ((deep:Int)+1))] w3.drew (PrnQ b many ((l++(KT++[58,32]))++shwD leafT keyT many d (deep+1) xq.v) (Tx d xq.v) w3.drew):=by
  rw [hw]
  exact HVV.out xq w3.drew _ (h3'.keep (Gx.drewN_below w3 1 _)) (vat_keep HXA.out hk4) HGD.out (by have:=HL.out;simp only [List.length_append,List.length_cons,List.length_nil];omega) wt hwt (HTW.out wt (Below.refl _ _)) (HBW.out.trans hk4.below)
 unfold Loc.val at hc
 have HC:=Lib.hid hc
 have HK4:=Lib.hid hk4
 have hcell:∀ o,w3.cell? ⟨blk,o,none⟩=W.cell? ⟨blk,o,none⟩:=fun o=>World.cell?_of_block (hk3.below.block blk hbs)
 obtain ⟨e0,e1,e2,e3,e4,e5⟩:=HXC.out
 rw [<-hcell] at e0 e1 e2 e3 e4 e5
 have hbx3:=HBX.out.keep hk3
 have v5:=hbx3.cv.c5
 have cp:=hbx3.cp
 have cd:=hbx3.cd
 have had:q.bd=some ⟨blk,off,none⟩:=by
  have h1:=HBX.out.cv.c5
  rw [HV5.out] at h1
  injection h1 with h1
  injection h1 with h1
  exact h1.symm
 rw [had] at v5
 clear h3 hb3 ho3 hz3 hk3 h3' hk0 hk4 hw hc hcell hbx3 had HWS HK2 HP2 HBX2 HBX HXA HP HVV HTW HBW HGD HXC HV5 hcat hd
 go_wp2_with fail
 go_region_law (first|(go_simp;(with_reducible refine HC.out.mono ?_);rintro e w5 ⟨⟨⟨v,rfl⟩,h5,hk5⟩,ht⟩;have HR:Hid (PrnQ b many (l++(KT++([58,32]++shwD leafT keyT many d (deep+1) xq.v))) (Tx d xq.v) W (.returned (.tuple #[])) w5):=Lib.hid ⟨⟨⟨_,rfl⟩,by simpa using h5,HK4.out.trans hk5⟩,ht⟩;clear h5 hk5 ht))
 all_goals
  go_wp2_with fail
  try go_end0
  exact HR.out
end Go.Proofs.YtldhmfkojaekfaaGreatDoor
