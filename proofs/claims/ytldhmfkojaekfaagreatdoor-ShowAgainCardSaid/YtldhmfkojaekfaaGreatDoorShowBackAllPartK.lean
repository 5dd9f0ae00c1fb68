/-
  Lemmas for the statement: plain laws, and what functions answer; the conditions stand in each.
-/
import Derived.WalkLawsBesides
import Derived.Deep.DeepFit
import Derived.Below
import Derived.Test.YtldhmfkojaekfaaGreatDoorShowBackAllPartJ
set_option linter.unusedVariables false
set_option linter.unusedSimpArgs false
namespace Go.Proofs.YtldhmfkojaekfaaGreatDoor
open Go.RowKit Gx
def uOf (s:List UInt8):Option (Int×Nat) :=
 if Lib.hasPrefix s [117,123]=true then
  if Lib.indexByte (s.drop 2) 125<1\/6<Lib.indexByte (s.drop 2) 125 then none
  else match hexVal ((s.drop 2).take (Lib.indexByte (s.drop 2) 125).toNat) 0 with
   | none=>none
   | some n=>if good (n:Int)=true then some ((n:Int),3+(Lib.indexByte (s.drop 2) 125).toNat) else none
 else none
def escOf (s:List UInt8):Option (Int×Nat) :=
 match s with
 | []=>none
 | c::t =>
   if c=34\/c=92\/c=47 then some ((c.toNat:Int),1)
   else if c=110 then some (10,1) else if c=116 then some (9,1) else if c=114 then some (13,1)
   else uOf (c::t)
def more (r:Int) (n:Nat) (x:Option (List Int×Nat)):Option (List Int×Nat):=x.map fun p=>(r::p.1,n+p.2)
def unqF:Nat->List UInt8->Option (List Int×Nat)
 | 0,_=>none
 | _+1,[]=>none
 | f+1,b::t =>
   if b=34 then some ([],1)
   else if b=10 then none
   else if b=92 then
    match escOf t with
    | none=>none
    | some (r,n)=>more r (1+n) (unqF f (t.drop n))
   else if Lib.decodeL (b::t)=(65533,1) then none
   else more ((Lib.decodeL (b::t)).1:Int) (Lib.decodeL (b::t)).2 (unqF f ((b::t).drop (Lib.decodeL (b::t)).2))
def unquote (q:List UInt8):Option (List Int×Nat) :=
 if Lib.hasPrefix q [34]=true then (unqF q.length (q.drop 1)).map fun p=>(p.1,p.2+1) else none
def quoteR (r:Int):List UInt8 :=
 if r=34\/r=92 then 92::Lib.encodeRune r
 else if r=10 then [92,110] else if r=9 then [92,116] else if r=13 then [92,114]
 else if r<32\/r=127 then [92,117,123]++hexText r.natAbs++[125]
 else Lib.encodeRune r
def quotes (rs:List Int):List UInt8:=rs.flatMap quoteR
def quoteOf (rs:List Int):List UInt8:=34::(quotes rs++[34])
theorem uOf_good {s:List UInt8} {r:Int} {n:Nat} (h:uOf s=some (r,n)):good r=true/\1<=n/\n<=s.length:=by
 unfold uOf at h
 split at h
 ·split at h
  ·cases h
  ·rename_i hk
   split at h
   ·cases h
   ·split at h
    ·rename_i hg
     obtain ⟨rfl,rfl⟩:=Prod.mk.inj (Option.some.inj h)
     have:=indexByte_bound 125 (s.drop 2)
     rw [List.length_drop] at this
     exact ⟨hg,by omega,by omega⟩
    ·cases h
 ·cases h
theorem escOf_good {s:List UInt8} {r:Int} {n:Nat} (h:escOf s=some (r,n)):good r=true/\1<=n/\n<=s.length:=by
 unfold escOf at h
 split at h
 ·cases h
 rename_i c t
 rw [List.length_cons]
 split at h
 ·rename_i hc
  obtain ⟨rfl,rfl⟩:=Prod.mk.inj (Option.some.inj h)
  exact ⟨by rcases hc with rfl|rfl|rfl<;>decide,by omega,by omega⟩
 split at h
 ·obtain ⟨rfl,rfl⟩:=Prod.mk.inj (Option.some.inj h);exact ⟨by decide,by omega,by omega⟩
 split at h
 ·obtain ⟨rfl,rfl⟩:=Prod.mk.inj (Option.some.inj h);exact ⟨by decide,by omega,by omega⟩
 split at h
 ·obtain ⟨rfl,rfl⟩:=Prod.mk.inj (Option.some.inj h);exact ⟨by decide,by omega,by omega⟩
 ·have:=uOf_good h
  rwa [List.length_cons] at this
theorem decode_len (l:List UInt8) (hne:l≠[]):(Lib.decodeL l).2<=l.length:=by
 rw [Lib.decodeL_N]
 exact Lib.decodeN_width_le _ _ _ _ _ (List.length_pos_iff.2 hne)
theorem enc_ascii (r:Int) (h0:0<=r) (h1:r<=127):Lib.encodeRune r=[r.toNat.toUInt8]:=by
 unfold Lib.encodeRune;rw [Lib.encodeRuneZ_one h0 h1];rfl
theorem enc_high (r:Int) (hg:good r=true) (h:128<=r):∀ b∈Lib.encodeRune r,128<=b.toNat:=by
 rw [good_iff] at hg
 have key:∀ z:Int,128<=z->z<256->128<=(z.toNat.toUInt8).toNat:=by
  intro z h0 h1;rw [byteNat z (by omega) h1];omega
 intro b hb
 unfold Lib.encodeRune at hb
 by_cases r2:r<=2047
 ·rw [Lib.encodeRuneZ_two (by omega) r2] at hb
  simp only [List.map_cons,List.map_nil,List.mem_cons,List.not_mem_nil,or_false] at hb
  rcases hb with rfl|rfl<;>exact key _ (by omega) (by omega)
 by_cases r3:r<=65535
 ·rw [Lib.encodeRuneZ_three (by omega)] at hb
  simp only [List.map_cons,List.map_nil,List.mem_cons,List.not_mem_nil,or_false] at hb
  rcases hb with rfl|rfl|rfl<;>exact key _ (by omega) (by omega)
 ·rw [Lib.encodeRuneZ_four (by omega) (by omega)] at hb
  simp only [List.map_cons,List.map_nil,List.mem_cons,List.not_mem_nil,or_false] at hb
  rcases hb with rfl|rfl|rfl|rfl<;>exact key _ (by omega) (by omega)
theorem unqF_rune (f:Nat) (r:Int) (hg:good r=true) (hp:¬ (r<32)/\r≠34/\r≠92) (y:List UInt8) :
 unqF (f+1) (Lib.encodeRune r++y)=more r (Lib.encodeRune r).length (unqF f y):=by
 have hd:=decode_enc r hg y
 have hb:=not_bad r hg y
 obtain ⟨b,t,hbt,h34,h10,h92⟩:∃ b t,Lib.encodeRune r=b::t/\b≠34/\b≠10/\b≠92:=by
  rcases Int.lt_or_le r 128 with h|h
  ·refine ⟨_,[],enc_ascii r (by omega) (by omega),?_⟩
   have hn:=byteNat r (by omega) (by omega)
   refine ⟨?_,?_,?_⟩<;>(intro hc;rw [hc] at hn;revert hn;simp;omega)
  ·have hh:=enc_high r hg h
   have hl:=(enc_len r).1
   cases he:Lib.encodeRune r with
   | nil=>rw [he] at hl;simp at hl
   | cons b t =>
     have:=hh b (by rw [he];simp)
     refine ⟨b,t,rfl,?_,?_,?_⟩<;>(rintro rfl;revert this;decide)
 rw [hbt,List.cons_append] at hd hb ⊢
 conv=>lhs;unfold unqF
 rw [if_neg h34,if_neg h10,if_neg h92,if_neg hb,hd]
 simp only
 rw [<-List.cons_append,List.drop_left]
 rw [good_iff] at hg
 rw [show ((r.toNat:Nat):Int)=r by omega]
theorem unqF_esc (f:Nat) (t y:List UInt8) (r:Int) (n:Nat) (h:escOf (t++y)=some (r,n)) (hn:n=t.length):unqF (f+1) (92::(t++y))=more r (1+n) (unqF f y):=by
 conv=>lhs;unfold unqF
 rw [if_neg (by decide),if_neg (by decide),if_pos rfl,h]
 simp only
 rw [hn,List.drop_left]
theorem unqF_quoteR (f:Nat) (r:Int) (hg:good r=true) (y:List UInt8):unqF (f+1) (quoteR r++y)=more r (quoteR r).length (unqF f y):=by
 have hg2:=hg
 rw [good_iff] at hg2
 unfold quoteR
 by_cases c1:r=34\/r=92
 ·rw [if_pos c1,List.cons_append,enc_ascii r (by omega) (by omega)]
  rw [unqF_esc f [r.toNat.toUInt8] y r 1 (by rcases c1 with rfl|rfl<;>rfl) rfl];rfl
 rw [if_neg c1]
 by_cases c2:r=10
 ·rw [if_pos c2];subst c2;exact unqF_esc f [110] y 10 1 rfl rfl
 rw [if_neg c2]
 by_cases c3:r=9
 ·rw [if_pos c3];subst c3;exact unqF_esc f [116] y 9 1 rfl rfl
 rw [if_neg c3]
 by_cases c4:r=13
 ·rw [if_pos c4];subst c4;exact unqF_esc f [114] y 13 1 rfl rfl
 rw [if_neg c4]
 by_cases c5:r<32\/r=127
 ·rw [if_pos c5]
  obtain ⟨n,rfl⟩:=Int.eq_ofNat_of_zero_le hg2.1
  have hn:n<128:=by omega
  obtain ⟨x1,x2,x3,x4⟩:=hexText_facts n hn
  rw [show ((n:Int)).natAbs=n from rfl]
  have e:[92,117,123]++hexText n++[125]++y=92::(([117,123]++hexText n++[125])++y):=by simp
  have hi:Lib.indexByte ((([117,123]++hexText n++[125])++y).drop 2) 125=((hexText n).length:Int):=by
   have:(([117,123]++hexText n++[125])++y).drop 2=hexText n++125::y:=by simp
   rw [this];exact indexByte_skip 125 _ _ (fun x hx=>(x4 x hx).2.1)
  have hes:escOf (([117,123]++hexText n++[125])++y)=some ((n:Int),3+(hexText n).length):=by
   have:escOf (([117,123]++hexText n++[125])++y)=uOf (([117,123]++hexText n++[125])++y):=rfl
   rw [this]
   unfold uOf
   rw [hi,Int.toNat_natCast,if_pos (by simp [Lib.hasPrefix,List.isPrefixOf]),if_neg (by omega)]
   have e2:((([117,123]++hexText n++[125])++y).drop 2).take (hexText n).length=hexText n:=by simp
   rw [e2,x1]
   simp only
   rw [if_pos hg]
  rw [e,unqF_esc f _ y _ _ hes (by simp;omega)]
  congr 1
  simp;omega
 ·rw [if_neg c5]
  exact unqF_rune f r hg ⟨by omega,by omega,by omega⟩ y
theorem unqF_quotes:∀ (rs:List Int) (f:Nat) (x:List UInt8),rs.all good=true->rs.length<f->unqF f (quotes rs++34::x)=some (rs,(quotes rs).length+1)
 | [],f,x,_,hf=>by
   obtain ⟨g,rfl⟩:∃ g,f=g+1:=⟨f - 1,by omega⟩
   rfl
 | r::rs,f,x,hg,hf=>by
   obtain ⟨g,rfl⟩:∃ g,f=g+1:=⟨f - 1,by omega⟩
   rw [List.all_cons,Bool.and_eq_true] at hg
   have e:quotes (r::rs)=quoteR r++quotes rs:=rfl
   rw [e,List.append_assoc,unqF_quoteR g r hg.1,unqF_quotes rs g x hg.2 (by rw [List.length_cons] at hf;omega)]
   unfold more
   simp
   omega
theorem quoteR_len (r:Int):1<=(quoteR r).length:=by
 have:=(enc_len r).1
 unfold quoteR
 repeat' split
 all_goals simp
 all_goals omega
theorem quotes_len (rs:List Int):rs.length<=(quotes rs).length:=by
 induction rs with
 | nil=>simp
 | cons r rs ih =>
   have:=quoteR_len r
   have e:quotes (r::rs)=quoteR r++quotes rs:=rfl
   rw [e,List.length_append,List.length_cons];omega
theorem unquote_quote (rs:List Int) (hg:rs.all good=true) (x:List UInt8):unquote (quoteOf rs++x)=some (rs,(quoteOf rs).length):=by
 unfold unquote quoteOf
 have h:=quotes_len rs
 rw [if_pos (by simp [Lib.hasPrefix,List.isPrefixOf])]
 have e:(34::(quotes rs++[34])++x).drop 1=quotes rs++34::x:=by simp
 rw [e,unqF_quotes rs _ x hg (by simp;omega)]
 simp
theorem okText_ascii (c:UInt8) (hc:c.toNat<128) (x:List UInt8):okText (c::x)↔okText x:=by
 have h:=okText_code (c.toNat:Int) (by rw [good_iff];omega) x
 rw [enc_ascii _ (by omega) (by omega)] at h
 have e:((c.toNat:Int)).toNat.toUInt8=c:=by simp
 rw [e] at h
 exact h
theorem okText_asciis (l:List UInt8) (hl:∀ c∈l,c.toNat<128) (x:List UInt8):okText (l++x)↔okText x:=by
 induction l with
 | nil=>exact Iff.rfl
 | cons c l ih =>
   rw [List.cons_append,okText_ascii c (hl c (by simp)),ih (fun c hc=>hl c (by simp [hc]))]
theorem quoteR_ok (r:Int) (hg:good r=true) (x:List UInt8):okText (quoteR r++x)↔okText x:=by
 have hg2:=hg
 rw [good_iff] at hg2
 unfold quoteR
 split
 ·rw [List.cons_append,okText_ascii 92 (by decide),okText_code r hg]
 split
 ·exact okText_asciis _ (by decide) x
 split
 ·exact okText_asciis _ (by decide) x
 split
 ·exact okText_asciis _ (by decide) x
 split
 ·refine okText_asciis _ ?_ x
  obtain ⟨-,-,-,x4⟩:=hexText_facts r.natAbs (by omega)
  intro c hc
  simp only [List.mem_append,List.mem_cons,List.not_mem_nil,or_false] at hc
  rcases hc with (hc|hc)|hc
  ·rcases hc with rfl|rfl|rfl<;>decide
  ·exact (x4 c hc).1
  ·subst hc;decide
 ·exact okText_code r hg x
theorem quoteR_ten (r:Int) (hg:good r=true):(10:UInt8)∉quoteR r:=by
 have hg2:=hg
 rw [good_iff] at hg2
 have henc:r≠10->(10:UInt8)∉Lib.encodeRune r:=by
  intro h10 hm
  rcases Int.lt_or_le r 128 with h|h
  ·rw [enc_ascii r (by omega) (by omega),List.mem_singleton] at hm
   have hn:=byteNat r (by omega) (by omega)
   rw [<-hm] at hn
   revert hn;simp;omega
  ·have:=enc_high r hg h 10 hm
   revert this;decide
 unfold quoteR
 split
 ·rename_i hc
  intro hm
  rcases List.mem_cons.1 hm with h|h
  ·revert h;decide
  ·exact henc (by omega) h
 rename_i c1
 split
 ·decide
 rename_i c2
 split
 ·decide
 split
 ·decide
 split
 ·obtain ⟨-,-,-,x4⟩:=hexText_facts r.natAbs (by omega)
  intro hc
  simp only [List.mem_append,List.mem_cons,List.not_mem_nil,or_false] at hc
  rcases hc with (hc|hc)|hc
  ·revert hc;decide
  ·exact (x4 10 hc).2.2 rfl
  ·revert hc;decide
 ·exact henc c2
theorem quotes_ok (rs:List Int) (hg:rs.all good=true) (x:List UInt8):okText (quotes rs++x)↔okText x:=by
 induction rs with
 | nil=>exact Iff.rfl
 | cons r rs ih =>
   rw [List.all_cons,Bool.and_eq_true] at hg
   have e:quotes (r::rs)=quoteR r++quotes rs:=rfl
   rw [e,List.append_assoc,quoteR_ok r hg.1,ih hg.2]
theorem quoteOf_ok (rs:List Int) (hg:rs.all good=true):okText (quoteOf rs)/\(10:UInt8)∉quoteOf rs:=by
 refine ⟨?_,?_⟩
 ·unfold quoteOf
  rw [okText_ascii 34 (by decide),quotes_ok rs hg,okText_ascii 34 (by decide)]
  exact okText_nil
 ·unfold quoteOf quotes
  intro hm
  simp only [List.mem_cons,List.mem_append,List.mem_flatMap,List.not_mem_nil,or_false] at hm
  rcases hm with h|⟨r,hr,h⟩|h
  ·revert h;decide
  ·exact quoteR_ten r (List.all_eq_true.1 hg r hr) h
  ·revert h;decide
theorem quoteR_le (r:Int) (hg:good r=true):(quoteR r).length<=6 * (Lib.encodeRune r).length:=by
 have h1:=enc_len r
 rw [good_iff] at hg
 unfold quoteR
 repeat' split
 all_goals simp
 all_goals first|omega|(rename_i hc;obtain ⟨-,-,x3,-⟩:=hexText_facts r.natAbs (by omega);omega)
theorem quotes_le (rs:List Int) (hg:rs.all good=true):(quotes rs).length<=6 * (encs rs).length:=by
 induction rs with
 | nil=>simp [quotes]
 | cons r rs ih =>
   rw [List.all_cons,Bool.and_eq_true] at hg
   have:=quoteR_le r hg.1
   have:=ih hg.2
   have e:quotes (r::rs)=quoteR r++quotes rs:=rfl
   rw [e,encs_cons,List.length_append,List.length_append];omega
theorem quoteOf_le (rs:List Int) (hg:rs.all good=true):(quoteOf rs).length<=6 * (encs rs).length+2:=by
 have:=quotes_le rs hg
 unfold quoteOf
 simp
 omega
def letterB (c:Nat):Bool:=(decide (97<=c) && decide (c<=122)) || (decide (65<=c) && decide (c<=90)) || decide (c=95)
def moreB (c:Nat):Bool:=(decide (48<=c) && decide (c<=57)) || decide (c=45)
def bareFrom:Bool->List UInt8->Bool
 | _,[]=>true
 | first,c::t=>(letterB c.toNat || (moreB c.toNat && !first)) && bareFrom false t
def wordB (l:List UInt8):Bool:=(l==[110,117,108,108]) || (l==[116,114,117,101]) || (l==[102,97,108,115,101]) || (l==[110,97,110]) || (l==[105,110,102])
def bareOf (l:List UInt8):Bool:=decide (l≠[]) && decide (l.length<=100) && bareFrom true l && !wordB l
theorem bareFrom_bytes:∀ (b:Bool) (l:List UInt8),bareFrom b l=true->∀ c∈l,(letterB c.toNat || moreB c.toNat)=true
 | _,[],_,c,hc=>by simp at hc
 | b,a::t,h,c,hc=>by
   unfold bareFrom at h
   rw [Bool.and_eq_true] at h
   rcases List.mem_cons.1 hc with rfl|hc
   ·have h1:=h.1
    cases hl:letterB c.toNat with
    | true=>rfl
    | false =>
      rw [hl] at h1
      simp only [Bool.false_or,Bool.and_eq_true] at h1
      rw [h1.1];rfl
   ·exact bareFrom_bytes false t h.2 c hc
theorem bare_bytes {l:List UInt8} (h:bareOf l=true):∀ c∈l,(letterB c.toNat || moreB c.toNat)=true:=by
 unfold bareOf at h
 simp only [Bool.and_eq_true] at h
 exact bareFrom_bytes true l h.1.2
def digitOf (c:Int):Int:=if 48<=c/\c<=57 then c - 48 else if 97<=c/\c<=102 then c - 97+10 else if 65<=c/\c<=70 then c - 65+10 else 99
theorem digitOf_le (c:Int):0<=digitOf c/\digitOf c<=99:=by unfold digitOf;split<;>(try split)<;>(try split)<;>omega
def DigitPost (c:Int) (w:World) (e:Ending) (w':World):Prop:=e=.returned (.int .u64 (digitOf c))/\w=w'
set_option maxHeartbeats 400000 in
theorem digit_any (c:Int) (w:World) (h0:0<=c) (h1:c<256):Calls Tryz.prog 121 #[.int .u8 c] w (DigitPost c w):=by
 by_cases a:48<=c/\c<=57
 ·have e:digitOf c=c - 48:=by unfold digitOf;rw [if_pos a]
  obtain ⟨a1,a2⟩:=a
  have E:=Lib.hid e
  clear e
  go_enter Tryz.func121,Tryz.ntmps121
  go_wp2
  go_ret
  exact ⟨by rw [E.out];rfl,rfl⟩
 by_cases b:97<=c/\c<=102
 ·have e:digitOf c=c - 97+10:=by unfold digitOf;rw [if_neg a,if_pos b]
  obtain ⟨b1,b2⟩:=b
  have E:=Lib.hid e
  clear e a
  have a1:¬ c<=57:=by omega
  go_enter Tryz.func121,Tryz.ntmps121
  go_wp2
  go_ret
  exact ⟨by rw [E.out];rfl,rfl⟩
 by_cases d:65<=c/\c<=70
 ·have e:digitOf c=c - 65+10:=by unfold digitOf;rw [if_neg a,if_neg b,if_pos d]
  obtain ⟨d1,d2⟩:=d
  have E:=Lib.hid e
  clear e a b
  have a1:¬ c<=57:=by omega
  have a2:¬ 97<=c:=by omega
  go_enter Tryz.func121,Tryz.ntmps121
  go_wp2
  go_ret
  exact ⟨by rw [E.out];rfl,rfl⟩
 ·have e:digitOf c=99:=by unfold digitOf;rw [if_neg a,if_neg b,if_neg d]
  have E:=Lib.hid e
  clear e
  have c1:c<48\/(57<c/\c<65)\/(70<c/\c<97)\/102<c:=by omega
  clear a b d
  rcases c1 with c1|⟨c1,c2⟩|⟨c1,c2⟩|c1
  all_goals
   go_enter Tryz.func121,Tryz.ntmps121
   go_wp2
   go_ret
   exact ⟨by rw [E.out];rfl,rfl⟩
def TruePostNm (w:World) (e:Ending) (w':World):Prop:=e=.returned (.bool true)/\Below w.heap.size w w'
def baseOf (l:List UInt8):Nat×List UInt8 :=
 if Lib.hasPrefix l [48,120] then (16,Lib.trimPrefix l [48,120]) else if Lib.hasPrefix l [48,111] then (8,Lib.trimPrefix l [48,111]) else if Lib.hasPrefix l [48,98] then (2,Lib.trimPrefix l [48,98]) else (10,l)
def BasePost (l:List UInt8) (w:World) (e:Ending) (w':World):Prop :=
 e=.returned (.tuple #[.int .u64 ((baseOf l).1:Nat),.string ⟨(baseOf l).2.toArray⟩])/\Below w.heap.size w w'
theorem bytes_ext (s:ByteArray) (x:List UInt8) (h:s.data.toList=x):s=⟨x.toArray⟩:=by
 apply ByteArray.ext
 apply Array.toList_inj.1
 simpa using h
set_option maxHeartbeats 2000000 in
theorem base_any (s:ByteArray) (w:World):Calls Tryz.prog 120 #[.string s] w (BasePost s.data.toList w):=by
 have h1:=fun w=>Tryz.strings_CutPrefix s ⟨#[48,120]⟩ w
 have h2:=fun w=>Tryz.strings_CutPrefix s ⟨#[48,111]⟩ w
 have h3:=fun w=>Tryz.strings_CutPrefix s ⟨#[48,98]⟩ w
 have hx:=bytes_ext s _ rfl
 obtain ⟨l,hl⟩:∃ l,l=s.data.toList:=⟨_,rfl⟩
 rw [<-hl] at hx ⊢
 simp only [<-hl] at h1 h2 h3
 have HX:=Lib.hid hx
 have H1:=Lib.hid h1
 have H2:=Lib.hid h2
 have H3:=Lib.hid h3
 clear h1 h2 h3 hx hl
 go_enter Tryz.func120,Tryz.ntmps120
 go_wp2_with fail
 refine wp_loop_rounds 4 ?_
 rw [rounds_succ]
 go_wp2_with fail
 refine (H1.out _).mono ?_
 rintro e w' ⟨rfl,rfl⟩
 cases p1:Lib.hasPrefix l [48,120] with
 | true =>
   have e:baseOf l=(16,Lib.trimPrefix l [48,120]):=by unfold baseOf;rw [p1];rfl
   have E:=Lib.hid e
   clear e
   go_wp2
   go_ret2
   exact ⟨by rw [E.out];rfl,(((Below.refl _ w).alloc (Nat.le_refl _) _).alloc (by simp) _)⟩
 | false =>
   go_wp2_with fail
   rw [rounds_succ]
   go_wp2_with fail
   refine (H2.out _).mono ?_
   rintro e w' ⟨rfl,rfl⟩
   cases p2:Lib.hasPrefix l [48,111] with
   | true =>
     have e:baseOf l=(8,Lib.trimPrefix l [48,111]):=by unfold baseOf;rw [p1,p2];rfl
     have E:=Lib.hid e
     clear e
     go_wp2
     go_ret2
     exact ⟨by rw [E.out];rfl,((((Below.refl _ w).alloc (Nat.le_refl _) _).alloc (by simp) _).alloc (by simp;omega) _)⟩
   | false =>
     go_wp2_with fail
     rw [rounds_succ]
     go_wp2_with fail
     refine (H3.out _).mono ?_
     rintro e w' ⟨rfl,rfl⟩
     cases p3:Lib.hasPrefix l [48,98] with
     | true =>
       have e:baseOf l=(2,Lib.trimPrefix l [48,98]):=by unfold baseOf;rw [p1,p2,p3];rfl
       have E:=Lib.hid e
       clear e
       go_wp2
       go_ret2
       exact ⟨by rw [E.out];rfl,(((((Below.refl _ w).alloc (Nat.le_refl _) _).alloc (by simp) _).alloc (by simp;omega) _).alloc (by simp;omega) _)⟩
     | false =>
       have e:baseOf l=(10,l):=by unfold baseOf;rw [p1,p2,p3];rfl
       have E:=Lib.hid e
       clear e
       go_wp2_with fail
       rw [rounds_succ]
       go_wp2
       go_ret2
       exact ⟨by rw [E.out,HX.out];rfl,(((((Below.refl _ w).alloc (Nat.le_refl _) _).alloc (by simp) _).alloc (by simp;omega) _).alloc (by simp;omega) _)⟩
def W64:Nat:=18446744073709551616
def numStep (b:Nat) (n:Nat) (o:Int) (d:Int):Nat×Int :=
 ((((n * b % 18446744073709551616:Nat):Int)+d+0) % 18446744073709551616 |>.toNat,
  bits .or .u64 o (bits .or .u64 ((n * b / 18446744073709551616:Nat):Int) ((((n * b % 18446744073709551616:Nat):Int)+d+0) / 18446744073709551616)))
def numLoop (b:Nat):List Int->Int->Nat->Int->Option (Int×Nat×Int)
 | [],y,n,o=>some (y,n,o)
 | c::t,y,n,o =>
   if c=95 then (if y=95 then none else numLoop b t 95 n o)
   else if (b:Int)<=digitOf c then none else numLoop b t c (numStep b n o (digitOf c)).1 (numStep b n o (digitOf c)).2
def limitOf (minus:Bool):Nat:=if minus then 9223372036854775808 else 9223372036854775807
def readEnd (minus:Bool):Option (Int×Nat×Int)->Int×Int
 | none=>(0,4)
 | some (y,n,o)=>if y=95 then (0,4) else if 0<o\/limitOf minus<n then (0,7) else (if minus then -(n:Int) else n,0)
def intsNm (l:List UInt8):List Int:=l.map fun b=>(b.toNat:Int)
def readBy (minus:Bool) (b:Nat) (r:List UInt8):Int×Int :=
 if b=10/\1<r.length/\r.getD 0 0=48 then (0,4) else readEnd minus (numLoop b (intsNm r) 95 0 0)
def readOf (l:List UInt8):Int×Int :=
 if 80<l.length then (0,2) else readBy (Lib.hasPrefix l [45]) (baseOf (Lib.trimPrefix l [45])).1 (baseOf (Lib.trimPrefix l [45])).2
theorem numStep_lt (b n:Nat) (o d:Int):(numStep b n o d).1<18446744073709551616:=by
 unfold numStep
 simp only
 omega
inductive V where
 | mk (k n f:Int) (s:ByteArray) (l:List V) (e:List (ByteArray×V))
namespace V
def k:V->Int|.mk k _ _ _ _ _=>k
def n:V->Int|.mk _ n _ _ _ _=>n
def f:V->Int|.mk _ _ f _ _ _=>f
def s:V->ByteArray|.mk _ _ _ s _ _=>s
def l:V->List V|.mk _ _ _ _ l _=>l
def e:V->List (ByteArray×V)|.mk _ _ _ _ _ e=>e
def zero:V:=.mk 0 0 0 ⟨#[]⟩ [] []
instance:Inhabited V:=⟨zero⟩
theorem eta (v:V):v=.mk v.k v.n v.f v.s v.l v.e:=by cases v;rfl
theorem ext' {v w:V} (h1:v.k=w.k) (h2:v.n=w.n) (h3:v.f=w.f) (h4:v.s=w.s) (h5:v.l=w.l) (h6:v.e=w.e):v=w:=by
 rw [eta v,eta w,h1,h2,h3,h4,h5,h6]
theorem lt_l {v x:V} (h:x∈v.l):SizeOf.sizeOf x<SizeOf.sizeOf v:=by
 cases v with|mk k n f s l e =>
 have:=List.sizeOf_lt_of_mem (show x∈l from h)
 simp;omega
theorem lt_e {v:V} {x:ByteArray×V} (h:x∈v.e):SizeOf.sizeOf x.2<SizeOf.sizeOf v:=by
 cases v with|mk k n f s l e =>
 have:=List.sizeOf_lt_of_mem (show x∈e from h)
 obtain ⟨a,b⟩:=x
 simp at this ⊢;omega
theorem ind {P:V->Prop} (h:∀ v:V,(∀ x∈v.l,P x)->(∀ x∈v.e,P x.2)->P v):∀ v,P v:=by
 have:∀ n (v:V),SizeOf.sizeOf v<=n->P v:=by
  intro n
  induction n with
  | zero=>intro v hv;cases v;simp at hv
  | succ n ih=>exact fun v hv=>h v (fun x hx=>ih x (by have:=lt_l hx;omega)) (fun x hx=>ih x.2 (by have:=lt_e hx;omega))
 exact fun v=>this _ v (Nat.le_refl _)
structure wf (v:V):Prop where
 k0:-9223372036854775808<=v.k
 k1:v.k<=9223372036854775807
 n0:-9223372036854775808<=v.n
 n1:v.n<=9223372036854775807
 f0:0<=v.f
 f1:v.f<=18446744073709551615
 s1:v.s.size<=140737488351232
theorem wf_zero:zero.wf:=⟨by decide,by decide,by decide,by decide,by decide,by decide,by decide⟩
end V
structure Loc where
 v:V
 ad:Option Addr
 cap:Nat
 bd:Option Addr
 dap:Nat
instance:Inhabited Loc:=⟨⟨.zero,none,0,none,0⟩⟩
def Loc.sl (q:Loc):Value:=.slice q.ad q.v.l.length q.cap
def Loc.se (q:Loc):Value:=.slice q.bd q.v.e.length q.dap
def Loc.cs (q:Loc):List Value:=[.int .i64 q.v.k,.int .i64 q.v.n,.int .u64 q.v.f,.string q.v.s,.slice q.ad q.v.l.length q.cap,.slice q.bd q.v.e.length q.dap]
def Loc.val (q:Loc):Value:=.agg #[.int .i64 q.v.k,.int .i64 q.v.n,.int .u64 q.v.f,.string q.v.s,.slice q.ad q.v.l.length q.cap,.slice q.bd q.v.e.length q.dap]
structure CellsAt (w:World) (b o:Nat) (q:Loc):Prop where
 c0:w.cell? ⟨b,o,none⟩=some (.int .i64 q.v.k)
 c1:w.cell? ⟨b,o+1,none⟩=some (.int .i64 q.v.n)
 c2:w.cell? ⟨b,o+2,none⟩=some (.int .u64 q.v.f)
 c3:w.cell? ⟨b,o+3,none⟩=some (.string q.v.s)
 c4:w.cell? ⟨b,o+4,none⟩=some (.slice q.ad q.v.l.length q.cap)
 c5:w.cell? ⟨b,o+5,none⟩=some (.slice q.bd q.v.e.length q.dap)
theorem CellsAt.through {w w':World} {b o:Nat} {q:Loc} (h:CellsAt w b o q) (hb:w'.heap[b]?=w.heap[b]?):CellsAt w' b o q:=by
 have hq:∀ o,w'.cell? ⟨b,o,none⟩=w.cell? ⟨b,o,none⟩:=fun o=>World.cell?_of_block hb
 exact ⟨(hq _).trans h.c0,(hq _).trans h.c1,(hq _).trans h.c2,(hq _).trans h.c3,(hq _).trans h.c4,(hq _).trans h.c5⟩
theorem CellsAt.box {w:World} {b:Nat} {q:Loc} {ty:TypeId} (h:w.heap[b]?=some (.cells q.cs.toArray ty)):CellsAt w b 0 q:=by
 constructor<;>simp [World.cell?,h,Loc.cs]
def lp (l:List V):List (ByteArray×V):=l.map fun x=>(⟨#[]⟩,x)
theorem lp_len (l:List V):(lp l).length=l.length:=by simp [lp]
theorem lp_get {l:List V} {i:Nat} {x:V} (h:l[i]?=some x):(lp l)[i]?=some (⟨#[]⟩,x):=by simp [lp,h]
def st (t:Bool):Nat:=if t then 7 else 6
def fd (t:Bool):Nat:=if t then 1 else 0
inductive RowAt (w:World) (B:Nat->Prop):Bool->List (ByteArray×V)->Value->Prop
 | nil (t:Bool) (ad:Option Addr) (cap:Nat):RowAt w B t [] (.slice ad 0 cap)
 | row (t:Bool) (xs:List (ByteArray×V)) (blk off cap:Nat) (sl se:Nat->Value) (hne:xs≠[]) (hn:xs.length * (st t * 16 - 8)<=140737488351232) (hB:B blk) (hlt:blk<w.heap.size)
   (hk:t=true->∀ i x,xs[i]?=some x->w.cell? ⟨blk,off+i * 7,none⟩=some (.string x.1)/\x.1.size<=140737488351232)
   (hc:∀ i x,xs[i]?=some x->x.2.wf/\w.cell? ⟨blk,off+i * st t+fd t,none⟩=some (.int .i64 x.2.k)/\w.cell? ⟨blk,off+i * st t+fd t+1,none⟩=some (.int .i64 x.2.n) /\
     w.cell? ⟨blk,off+i * st t+fd t+2,none⟩=some (.int .u64 x.2.f)/\w.cell? ⟨blk,off+i * st t+fd t+3,none⟩=some (.string x.2.s) /\
     w.cell? ⟨blk,off+i * st t+fd t+4,none⟩=some (sl i)/\w.cell? ⟨blk,off+i * st t+fd t+5,none⟩=some (se i))
   (hl:∀ i x,xs[i]?=some x->RowAt w B false (lp x.2.l) (sl i)) (he:∀ i x,xs[i]?=some x->RowAt w B true x.2.e (se i)) :
   RowAt w B t xs (.slice (some ⟨blk,off,none⟩) xs.length cap)
structure VAt (w:World) (B:Nat->Prop) (q:Loc):Prop where
 wf:q.v.wf
 l:RowAt w B false (lp q.v.l) (.slice q.ad q.v.l.length q.cap)
 e:RowAt w B true q.v.e (.slice q.bd q.v.e.length q.dap)
theorem RowAt.through {w w':World} {B C:Nat->Prop} {t:Bool} {xs:List (ByteArray×V)} {v:Value} (h:RowAt w B t xs v) (hs:w.heap.size<=w'.heap.size)
 (hb:∀ b,B b->b<w.heap.size->w'.heap[b]?=w.heap[b]?) (hC:∀ b,B b->b<w.heap.size->C b):RowAt w' C t xs v:=by
 induction h with
 | nil t ad cap=>exact .nil t ad cap
 | row t xs blk off cap sl se hne hn hB hlt hk hc hl he ihl ihe =>
   have hq:∀ o,w'.cell? ⟨blk,o,none⟩=w.cell? ⟨blk,o,none⟩:=fun o=>World.cell?_of_block (hb blk hB hlt)
   refine .row t xs blk off cap sl se hne hn (hC _ hB hlt) (Nat.lt_of_lt_of_le hlt hs) (fun ht i x hi=>?_) (fun i x hi=>?_) ihl ihe
   ·rw [hq];exact hk ht i x hi
   ·rw [hq,hq,hq,hq,hq,hq];exact hc i x hi
theorem RowAt.weak {w:World} {B C:Nat->Prop} {t:Bool} {xs:List (ByteArray×V)} {v:Value} (h:RowAt w B t xs v) (hC:∀ b,B b->b<w.heap.size->C b):RowAt w C t xs v :=
 h.through (Nat.le_refl _) (fun _ _ _=>rfl) hC
theorem RowAt.keep {w w':World} {B:Nat->Prop} {t:Bool} {xs:List (ByteArray×V)} {v:Value} (h:RowAt w B t xs v) (hb:Below w.heap.size w w'):RowAt w' B t xs v :=
 h.through hb.size (fun b _ hl=>hb.block b hl) (fun _ h _=>h)
theorem RowAt.grow {w w':World} {B:Nat->Prop} {t:Bool} {xs:List (ByteArray×V)} {v:Value} {row:Option Nat} (h:RowAt w B t xs v) (hg:w.grownBy w' row) (hr:∀ b,row=some b->¬ B b):RowAt w' B t xs v :=
 h.through hg.size (fun b hB hl=>hg.block b hl (fun e=>hr b e.symm hB)) (fun _ h _=>h)
theorem RowAt.len {w:World} {B:Nat->Prop} {t:Bool} {xs:List (ByteArray×V)} {v:Value} (h:RowAt w B t xs v):∃ ad cap,v=.slice ad xs.length cap:=by
 cases h with
 | nil t ad cap=>exact ⟨ad,cap,rfl⟩
 | row t xs blk off cap=>exact ⟨_,cap,rfl⟩
theorem RowAt.bound {w:World} {B:Nat->Prop} {t:Bool} {xs:List (ByteArray×V)} {v:Value} (h:RowAt w B t xs v):xs.length * (st t * 16 - 8)<=140737488351232:=by
 cases h with
 | nil t ad cap=>simp
 | row t xs blk off cap sl se hne hn=>exact hn
theorem RowAt.llen {w:World} {B:Nat->Prop} {l:List V} {v:Value} (h:RowAt w B false (lp l) v):∃ ad cap,v=.slice ad l.length cap:=by
 have:=h.len;rw [lp_len] at this;exact this
theorem RowAt.elem {w:World} {B:Nat->Prop} {l:List V} {ad:Option Addr} {n cap:Nat} (h:RowAt w B false (lp l) (.slice ad n cap)) (hl:0<l.length):∃ b off,ad=some ⟨b,off,none⟩/\B b/\b<w.heap.size /\
 ∀ i x,l[i]?=some x->∃ q:Loc,q.v=x/\VAt w B q/\CellsAt w b (off+i * 6) q:=by
 generalize hx:lp l=xs at h
 generalize hv:Value.slice ad n cap=v at h
 generalize ht:false=t at h
 cases h with
 | nil t ad cap=>have:=congrArg List.length hx;rw [lp_len,List.length_nil] at this;omega
 | row t xs blk off cap sl se hne hn hB hlt hk hc hl he =>
   subst hx
   subst ht
   simp only [Value.slice.injEq] at hv
   obtain ⟨rfl,rfl,rfl⟩:=hv
   refine ⟨blk,off,rfl,hB,hlt,fun i x hi=>?_⟩
   obtain ⟨h0,h1,h2,h3,h4,h5,h6⟩:=hc i _ (lp_get hi)
   have hl':=hl i _ (lp_get hi)
   have he':=he i _ (lp_get hi)
   obtain ⟨a1,c1,e1⟩:=hl'.llen
   obtain ⟨a2,c2,e2⟩:=he'.len
   rw [e1] at h5 hl'
   rw [e2] at h6 he'
   exact ⟨⟨x,a1,c1,a2,c2⟩,rfl,⟨h0,hl',he'⟩,h1,h2,h3,h4,h5,h6⟩
theorem RowAt.entry {w:World} {B:Nat->Prop} {l:List (ByteArray×V)} {ad:Option Addr} {n cap:Nat} (h:RowAt w B true l (.slice ad n cap)) (hl:0<l.length):∃ b off,ad=some ⟨b,off,none⟩/\B b/\b<w.heap.size /\
 ∀ i x,l[i]?=some x->x.1.size<=140737488351232/\w.cell? ⟨b,off+i * 7,none⟩=some (.string x.1)/\∃ q:Loc,q.v=x.2/\VAt w B q/\CellsAt w b (off+i * 7+1) q:=by
 generalize hv:Value.slice ad n cap=v at h
 generalize ht:true=t at h
 cases h with
 | nil t ad cap=>simp at hl
 | row t xs blk off cap sl se hne hn hB hlt hk hc hl he =>
   subst ht
   simp only [Value.slice.injEq] at hv
   obtain ⟨rfl,rfl,rfl⟩:=hv
   refine ⟨blk,off,rfl,hB,hlt,fun i x hi=>?_⟩
   obtain ⟨h0,h1,h2,h3,h4,h5,h6⟩:=hc i _ hi
   obtain ⟨k1,k2⟩:=hk rfl i x hi
   have hl':=hl i _ hi
   have he':=he i _ hi
   obtain ⟨a1,c1,e1⟩:=hl'.llen
   obtain ⟨a2,c2,e2⟩:=he'.len
   rw [e1] at h5 hl'
   rw [e2] at h6 he'
   exact ⟨k2,k1,⟨x.2,a1,c1,a2,c2⟩,rfl,⟨h0,hl',he'⟩,h1,h2,h3,h4,h5,h6⟩
theorem CellsAt.seven {w:World} {b o:Nat} {q:Loc} (h:CellsAt w b (o+1) q):w.cell? ⟨b,o+1,none⟩=some (.int .i64 q.v.k)/\w.cell? ⟨b,o+2,none⟩=some (.int .i64 q.v.n)/\w.cell? ⟨b,o+3,none⟩=some (.int .u64 q.v.f) /\
 w.cell? ⟨b,o+4,none⟩=some (.string q.v.s)/\w.cell? ⟨b,o+5,none⟩=some (.slice q.ad q.v.l.length q.cap)/\w.cell? ⟨b,o+6,none⟩=some (.slice q.bd q.v.e.length q.dap):=h.casesOn fun a b c d e f=>⟨a,b,c,d,e,f⟩
theorem RowAt.lbound {w:World} {B:Nat->Prop} {l:List V} {v:Value} (h:RowAt w B false (lp l) v):l.length * 88<=140737488351232:=by
 have:=h.bound;rw [lp_len] at this;simpa [st] using this
theorem RowAt.ebound {w:World} {B:Nat->Prop} {l:List (ByteArray×V)} {v:Value} (h:RowAt w B true l v):l.length * 104<=140737488351232:=by
 have:=h.bound;simpa [st] using this
variable {w w':World} {B C:Nat->Prop} {q:Loc}
theorem VAt.through (h:VAt w B q) (hs:w.heap.size<=w'.heap.size) (hb:∀ b,B b->b<w.heap.size->w'.heap[b]?=w.heap[b]?) (hC:∀ b,B b->b<w.heap.size->C b):VAt w' C q :=
 ⟨h.wf,h.l.through hs hb hC,h.e.through hs hb hC⟩
theorem VAt.weak (h:VAt w B q) (hC:∀ b,B b->b<w.heap.size->C b):VAt w C q:=⟨h.wf,h.l.weak hC,h.e.weak hC⟩
theorem VAt.keep (h:VAt w B q) (hb:Below w.heap.size w w'):VAt w' B q:=⟨h.wf,h.l.keep hb,h.e.keep hb⟩
theorem VAt.grow {row:Option Nat} (h:VAt w B q) (hg:w.grownBy w' row) (hr:∀ b,row=some b->¬ B b):VAt w' B q:=⟨h.wf,h.l.grow hg hr,h.e.grow hg hr⟩
theorem VAt.zero (w:World) (B:Nat->Prop) (a b:Option Addr) (c d:Nat):VAt w B ⟨.zero,a,c,b,d⟩:=⟨V.wf_zero,.nil _ _ _,.nil _ _ _⟩
end Go.Proofs.YtldhmfkojaekfaaGreatDoor
namespace Go.Proofs.YtldhmfkojaekfaaGreatDoor
open Go.RowKit Gx
def isK (s:ByteArray) (x:ByteArray×V):Bool:=x.1.toList==s.toList
def fidx (s:ByteArray) (l:List (ByteArray×V)):Nat:=l.findIdx (isK s)
def gtK (s:ByteArray) (x:ByteArray×V):Bool:=!Op.bytesLess x.1.toList s.toList && !(x.1.toList==s.toList)
def gidx (s:ByteArray) (l:List (ByteArray×V)):Nat:=l.findIdx (gtK s)
def dropL (l:List (ByteArray×V)) (s:ByteArray):List (ByteArray×V):=l.filter fun x=>!isK s x
def insL (l:List (ByteArray×V)) (s:ByteArray) (v:V):List (ByteArray×V):=l.take (gidx s l)++(s,v)::l.drop (gidx s l)
def putL (l:List (ByteArray×V)) (s:ByteArray) (v:V):List (ByteArray×V):=insL (dropL l s) s v
theorem isK_iff {s:ByteArray} {x:ByteArray×V}:isK s x=true↔x.1=s:=by
 unfold isK
 rw [beq_iff_eq,ByteArray.toList_eq,ByteArray.toList_eq]
 exact ⟨fun h=>ByteArray.ext (Array.toList_inj.1 h),fun h=>by rw [h]⟩
theorem fidx_lt {s:ByteArray} {l:List (ByteArray×V)}:fidx s l<l.length↔s∈l.map Prod.fst:=by
 unfold fidx
 rw [List.findIdx_lt_length,List.mem_map]
 exact ⟨fun ⟨x,h1,h2⟩=>⟨x,h1,isK_iff.1 h2⟩,fun ⟨x,h1,h2⟩=>⟨x,h1,isK_iff.2 h2⟩⟩
theorem put_mem {l:List (ByteArray×V)} {s:ByteArray} {v:V} {x:ByteArray×V}:x∈putL l s v↔x=(s,v)\/(x∈l/\x.1≠s):=by
 unfold putL insL
 rw [List.mem_append,List.mem_cons]
 have h:x∈dropL l s↔x∈l/\x.1≠s:=by
  unfold dropL
  rw [List.mem_filter]
  refine and_congr_right fun _=>?_
  rw [Bool.not_eq_true',<-Bool.not_eq_true,isK_iff]
 rw [<-h]
 have h2:=List.take_append_drop (gidx s (dropL l s)) (dropL l s)
 constructor
 ·rintro (g|g|g)
  ·exact .inr (List.mem_of_mem_take g)
  ·exact .inl g
  ·exact .inr (List.mem_of_mem_drop g)
 ·rintro (g|g)
  ·exact .inr (.inl g)
  ·rw [<-h2,List.mem_append] at g
   exact g.imp id .inr
theorem put_keys {l:List (ByteArray×V)} {s k:ByteArray} {v:V}:k∈(putL l s v).map Prod.fst↔k=s\/k∈l.map Prod.fst:=by
 rw [List.mem_map,List.mem_map]
 constructor
 ·rintro ⟨x,h,rfl⟩
  rcases put_mem.1 h with rfl|h
  ·exact .inl rfl
  ·exact .inr ⟨x,h.1,rfl⟩
 ·rintro (rfl|⟨x,h,rfl⟩)
  ·exact ⟨_,put_mem.2 (.inl rfl),rfl⟩
  ·by_cases hx:x.1=s
   ·exact ⟨_,put_mem.2 (.inl rfl),hx.symm⟩
   ·exact ⟨x,put_mem.2 (.inr ⟨h,hx⟩),rfl⟩
noncomputable def floatOf (l:List UInt8):Option Nat:=open Classical in if h:∃ x,ReadIs l x 0 then some (Classical.choose h) else none
theorem numIs_uniq {l:List UInt8} {x y:Nat} {a b:Int} {m:Bool} (h:NumIs l x a m) (g:NumIs l y b m):x=y/\(a=0↔b=0):=by
 rcases h with ⟨h1,h2,h3⟩|⟨d,e,p,h1,h2,h3⟩
 ·rcases g with ⟨g1,g2,g3⟩|⟨d',e',p',g1,-⟩
  ·exact ⟨by rw [h2,g2],⟨fun h=>absurd h h3,fun h=>absurd h g3⟩⟩
  ·rw [h1] at g1;cases g1
 ·rcases g with ⟨g1,-⟩|⟨d',e',p',g1,g2,g3⟩
  ·rw [h1] at g1;cases g1
  ·rw [h1] at g1
   obtain ⟨rfl,rfl⟩:=Prod.mk.inj (Option.some.inj g1)
   obtain rfl:p=p':=Rnd.uniq h2 g2 (tenDn_pos _) (tenDn_pos _) rfl
   rcases h3 with ⟨h3,h4,h5⟩|⟨h3,h4,h5⟩<;>rcases g3 with ⟨g3,g4,g5⟩|⟨g3,g4,g5⟩
   ·exact ⟨by rw [h4,g4],⟨fun h=>absurd h h5,fun h=>absurd h g5⟩⟩
   ·omega
   ·omega
   ·exact ⟨by rw [h4,g4],⟨fun _=>g5,fun _=>h5⟩⟩
theorem readIs_uniq {l:List UInt8} {x y:Nat} {a b:Int} (h:ReadIs l x a) (g:ReadIs l y b):x=y/\(a=0↔b=0):=by
 rcases h with ⟨h1,h2,h3⟩|⟨h1,h⟩
 ·rcases g with ⟨g1,g2,g3⟩|⟨g1,-⟩
  ·exact ⟨by rw [h2,g2],⟨fun h=>absurd h h3,fun h=>absurd h g3⟩⟩
  ·omega
 ·rcases g with ⟨g1,-⟩|⟨-,g⟩
  ·omega
  rcases h with ⟨h1,h2,h3⟩|⟨h1,h2,h3,h4⟩|⟨h1,h2,h3⟩<;>rcases g with ⟨g1,g2,g3⟩|⟨g1,g2,g3,g4⟩|⟨g1,g2,g3⟩
  ·exact ⟨by rw [h2,g2],⟨fun _=>g3,fun _=>h3⟩⟩
  ·exact absurd h1 g1
  ·exact absurd h1 g1
  ·exact absurd g1 h1
  ·exact ⟨by rw [h3,g3],⟨fun _=>g4,fun _=>h4⟩⟩
  ·exact absurd h2 g2
  ·exact absurd g1 h1
  ·exact absurd g2 h2
  ·exact numIs_uniq h3 g3
theorem float_yes {l:List UInt8} {x:Nat} (h:ReadIs l x 0):floatOf l=some x:=by
 have he:∃ x,ReadIs l x 0:=⟨x,h⟩
 unfold floatOf
 rw [dif_pos he,(readIs_uniq (Classical.choose_spec he) h).1]
theorem float_no {l:List UInt8} {x:Nat} {er:Int} (h:ReadIs l x er) (hn:er≠0):floatOf l=none:=by
 unfold floatOf
 rw [dif_neg]
 rintro ⟨y,hy⟩
 exact hn ((readIs_uniq h hy).2.2 rfl)
def nullT:List UInt8:=[110,117,108,108]
def trueT:List UInt8:=[116,114,117,101]
def falseT:List UInt8:=[102,97,108,115,101]
noncomputable def wordOf (l:List UInt8):Option V :=
 if l=nullT then some .zero else if l=trueT then some (.mk 1 1 0 ⟨#[]⟩ [] []) else if l=falseT then some (.mk 1 0 0 ⟨#[]⟩ [] [])
 else if (readOf l).2=0 then some (.mk 2 (readOf l).1 0 ⟨#[]⟩ [] [])
 else if (readOf l).2=4 then (floatOf l).map fun x:Nat=>V.mk 3 0 (x:Int) ⟨#[]⟩ [] []
 else none
def saidOf (l:List UInt8):Option ByteArray:=(unquote l).map fun p=>⟨(encs p.1).toArray⟩
noncomputable def leafOf (k:Int) (l:List UInt8):Option V:=if k=5 then (saidOf l).map fun s=>.mk 4 0 0 s [] [] else wordOf l
def keyOf (k:Int) (l:List UInt8):Option ByteArray:=if k=5 then saidOf l else if bareOf l=true then some ⟨l.toArray⟩ else none
def TS.end_ (X:TS) (i:Nat):Nat:=match X.T[i]? with|some t=>t.2.2|none=>X.l.length
def TS.bytes (X:TS) (i:Nat):List UInt8:=(X.l.drop (X.pos i)).take (X.end_ i - X.pos i)
abbrev Flt:=Nat×Bool
noncomputable def leafN (X:TS) (i:Nat):Except Flt V:=match leafOf (X.kind i) (X.bytes i) with|some v=>.ok v|none=>.error (X.pos i,false)
def keyN (X:TS) (i:Nat) (acc:List (ByteArray×V)):Except Flt ByteArray:=match keyOf (X.kind i) (X.bytes i) with
 | none=>.error (X.pos i,false)
 | some s=>if fidx s acc<acc.length then .error (X.pos i,true) else .ok s
def listN (f:Nd->Except Flt V):List V->List Nd->Except Flt (List V)
 | acc,[]=>.ok acc
 | acc,n::r=>match f n with
   | .error e=>.error e
   | .ok v=>listN f (acc++[v]) r
def tableN (X:TS) (f:Nd->Except Flt V):List (ByteArray×V)->List Nd->Except Flt (List (ByteArray×V))
 | acc,[]=>.ok acc
 | acc,n::r=>match keyN X (n.kids.getD 0 Nd.none).a acc with
   | .error e=>.error e
   | .ok s=>match f (n.kids.getD 1 Nd.none) with
     | .error e=>.error e
     | .ok v=>tableN X f (putL acc s v) r
def listV (l:List V):V:=.mk 5 0 0 ⟨#[]⟩ l []
def tableV (l:List (ByteArray×V)):V:=.mk 6 0 0 ⟨#[]⟩ [] l
noncomputable def meanN (X:TS):Nat->Nd->Except Flt V
 | 0,_=>.error (0,false)
 | d+1,n =>
   if n.k=5 then (match listN (meanN X d) [] n.kids with|.ok l=>.ok (listV l)|.error e=>.error e)
   else if n.k=3 then (match tableN X (meanN X d) [] n.kids with|.ok l=>.ok (tableV l)|.error e=>.error e)
   else leafN X n.a
def Wn (X:TS):Nat->Nd->Prop
 | 0,_=>False
 | d+1,n=>n.kids.length<=X.T.length/\((n.k=5/\∀ x∈n.kids,Wn X d x)\/(n.k=3/\∀ x∈n.kids,∃ k y,x.kids=[k,y]/\k.a<X.T.length/\Wn X d y)\/(n.k≠5/\n.k≠3/\n.a<X.T.length))
theorem many_all {X:TS} {P:Nd->Prop} {kid:PS->PS×Nd} (hs:Stays fun s=>(kid s).1) (hk:∀ s,s.i<=X.T.length->(kid s).1.bad=0->P (kid s).2/\(kid s).1.i<=X.T.length) (e:UInt8):∀ (f:Nat) (s:PS) (ks:List Nd),s.i<=X.T.length->(∀ n∈ks,P n)->(manyS X kid e f s ks).1.bad=0->∀ n∈(manyS X kid e f s ks).2,P n
 | 0,s,ks,hi,h,hb=>(fail_not (X:=X) (e:=4) (by decide) hb).elim
 | f+1,s,ks,hi,h,hb=>by
   have hs0:s.bad=0:=good_of (f:=fun u=>(manyS X kid e (f+1) u ks).1) (fun u hu=>many_stays X kid e (f+1) u ks hu) hb
   by_cases hm:(s.skip X).mark X=e
   ·have e1:manyS X kid e (f+1) s ks=(s.skip X,ks):=by rw [manyS,if_pos (.inl hm)]
    rw [e1];exact h
   ·have hn:¬ ((s.skip X).mark X=e\/s.bad≠0):=fun h=>h.elim hm (fun h=>h hs0)
    have hgo:=manyS_go (kid:=kid) (ks:=ks) (Nat.succ_le_succ (Nat.zero_le f)) hn
    rw [hgo] at hb ⊢
    rw [show f+1 - 1=f from rfl] at hb ⊢
    have hr0:(roundS X e ((kid (s.skip X)).1.skip X)).bad=0:=good_of (f:=fun u=>(manyS X kid e f u (ks++[(kid (s.skip X)).2])).1) (fun u hu=>many_stays X kid e f u _ hu) hb
    have hr:(kid (s.skip X)).1.bad=0:=by
     unfold roundS at hr0
     split at hr0
     ·exact hr0
     ·split at hr0
      ·exact hr0
      ·exact (fail_not (by decide) hr0).elim
    have h1:=hk (s.skip X) ((skip_fine X s).2.1 hi) hr
    refine many_all hs hk e f _ _ ?_ (fun n hn=>?_) hb
    ·have h2:=(skip_fine X (kid (s.skip X)).1).2.1 h1.2
     unfold roundS at hr0 ⊢
     split at hr0
     ·rename_i h44
      rw [if_pos h44]
      exact mark_lt h44 (by decide)
     ·rename_i h44
      rw [if_neg h44]
      split at hr0
      ·rename_i h5
       rw [if_pos h5];exact h2
      ·exact (fail_not (by decide) hr0).elim
    ·rcases List.mem_append.1 hn with hn|hn
     ·exact h n hn
     ·obtain rfl:n=(kid (s.skip X)).2:=by simpa using hn
      exact h1.1
theorem covers_len {X:TS} {n:Nd} (h:Covers X n):n.kids.length<=X.T.length:=by cases n with|mk k a b kids=>exact h.len
theorem leaf_row {X:TS} {k:Int} {s:PS} (hb:(leafS X k s).1.bad=0):(leafS X k s).2=.mk k (s.skip X).i ((s.skip X).i+1) []/\(s.skip X).i<X.T.length:=by
 unfold leafS at hb ⊢
 split at hb
 ·rename_i h3
  rw [if_pos h3]
  refine ⟨rfl,?_⟩
  rcases Nat.lt_or_ge (s.skip X).i X.T.length with h4|h4
  ·exact h4
  ·exfalso
   unfold TS.kind at h3
   rw [List.getElem?_eq_none h4] at h3
   exact absurd h3 (by decide)
 ·exact (fail_not (by decide) hb).elim
theorem leaf_wn {X:TS} {s:PS} {d:Nat} (hb:(leafS X 1 s).1.bad=0):Wn X (d+1) (leafS X 1 s).2:=by
 obtain ⟨h1,h2⟩:=leaf_row hb
 rw [h1]
 exact ⟨Nat.zero_le _,.inr (.inr ⟨show ¬ (1:Int)=5 by decide,show ¬ (1:Int)=3 by decide,h2⟩)⟩
theorem value_wn (X:TS):∀ d s,s.i<=X.T.length->(valueS X d s).1.bad=0->Wn X (d+1) (valueS X d s).2
 | 0,s,hi,hb=>by
   unfold valueS at hb ⊢
   split at hb
   ·exact (fail_not (by decide) hb).elim
   ·rename_i h
    rw [if_neg h]
    exact leaf_wn hb
 | d+1,s,hi,hb=>by
   have hc:=(value_cov X (d+1) s hb hi).cov
   have hl:=covers_len hc
   have hi2:=(skip_fine X s).2.1 hi
   unfold valueS at hb hl ⊢
   split at hb
   ·rename_i h
    rw [if_pos h] at hl ⊢
    refine ⟨hl,.inr (.inl ⟨rfl,?_⟩)⟩
    refine many_all (X:=X) (kid:=entryS X (valueS X d)) (P:=fun x=>∃ k y,x.kids=[k,y]/\k.a<X.T.length/\Wn X (d+1) y) (entry_stays X _) (fun u hu hub=>?_) 125 X.F _ [] (mark_lt h (by decide)) (fun n hn=>by cases hn) hb
    have hr:=entry_cov (value_cov X d) (value_stays X d) u hub hu
    refine ⟨?_,hr.le⟩
    unfold entryS at hub ⊢
    split at hub
    ·rename_i h1;exact absurd hub h1
    ·rename_i h1
     rw [if_neg h1]
     have hcb:(colonS X ((leafS X 2 u).1.skip X)).bad=0:=by
      by_cases h0:(colonS X ((leafS X 2 u).1.skip X)).bad=0
      ·exact h0
      ·exact absurd h0 h1
     obtain ⟨c1,c2,c3,c4⟩:=colon_good hcb
     have hlf:=leaf_row (k:=2) (s:=u) c2
     refine ⟨_,_,rfl,by rw [hlf.1];exact hlf.2,value_wn X d _ ?_ hub⟩
     rw [c1];exact c4
   ·rename_i h
    rw [if_neg h] at hl ⊢
    split at hb
    ·rename_i h2
     rw [if_pos h2] at hl ⊢
     refine ⟨hl,.inl ⟨rfl,?_⟩⟩
     exact many_all (X:=X) (kid:=valueS X d) (P:=Wn X (d+1)) (value_stays X d) (fun u hu hub=>⟨value_wn X d u hu hub,(value_cov X d u hub hu).le⟩) 93 X.F _ [] (mark_lt h2 (by decide)) (fun n hn=>by cases hn) hb
    ·rename_i h2
     rw [if_neg h2] at hl ⊢
     exact leaf_wn hb
abbrev Tk:=Int×Nat×List UInt8
def solO (l:List UInt8) (o:Nat):List Tk:=((toksFrom l 0).filter fun t=>solidK t.1).map fun t=>(t.1,o+t.2.1,(l.drop t.2.1).take (t.2.2 - t.2.1))
theorem solO_nil (o:Nat):solO [] o=[]:=rfl
theorem sol_shift (l:List UInt8) (o n:Nat):∀ T:List Tok,(∀ t∈T,n<=t.2.1)->(T.filter fun t=>solidK t.1).map (fun t=>((t.1,o+t.2.1,(l.drop t.2.1).take (t.2.2 - t.2.1)):Tk)) =
 ((T.map fun t=>((t.1,t.2.1 - n,t.2.2 - n):Tok)).filter fun t=>solidK t.1).map fun t=>(t.1,o+n+t.2.1,((l.drop n).drop t.2.1).take (t.2.2 - t.2.1))
 | [],_=>rfl
 | t::T,h=>by
   have ih:=sol_shift l o n T (fun t ht=>h t (List.mem_cons_of_mem _ ht))
   have h1:=h t List.mem_cons_self
   rw [List.filter_cons,List.map_cons,List.filter_cons]
   cases hk:solidK t.1 with
   | false=>simp only [Bool.false_eq_true,if_false];exact ih
   | true =>
     simp only [if_true,List.map_cons]
     rw [ih,List.drop_drop,show n+(t.2.1 - n)=t.2.1 by omega,show t.2.2 - n - (t.2.1 - n)=t.2.2 - t.2.1 by omega,show o+n+(t.2.1 - n)=o+t.2.1 by omega]
theorem solO_step (l:List UInt8) (o:Nat) (h:l≠[]):solO l o=(if solidK (nextTok l).1=true then [((nextTok l).1,o,l.take (nextTok l).2)] else [])++solO (l.drop (nextTok l).2) (o+(nextTok l).2):=by
 have hl:0<l.length:=List.length_pos_iff.2 h
 have hd:=toks_drop l (nextTok l).2 l.length 0 (by omega)
 rw [Nat.add_zero] at hd
 have e:=sol_shift l o (nextTok l).2 (toksFrom l (nextTok l).2) (fun t ht=>(toksFrom_low l l.length _ (by omega) t ht).1)
 unfold solO
 rw [toksFrom_step l 0 hl,List.drop_zero,Nat.zero_add,hd,List.filter_cons,<-e]
 cases hk:solidK (nextTok l).1 with
 | false=>simp only [Bool.false_eq_true,if_false,List.nil_append]
 | true=>simp only [if_true,List.map_cons,List.drop_zero,Nat.sub_zero,Nat.add_zero,List.cons_append,List.nil_append]
theorem solO_tok {p r:List UInt8} {k:Int} (o:Nat) (hp:p≠[]) (h:nextTok (p++r)=(k,p.length)):solO (p++r) o=(if solidK k=true then [(k,o,p)] else [])++solO r (o+p.length):=by
 rw [solO_step _ o (by simp [hp]),h]
 simp
theorem runLen_all (k:Int):∀ (p z:List UInt8),(∀ c∈p,classOf (c.toNat:Int)=k)->runLen k (p++z)=p.length+runLen k z
 | [],z,_=>by simp
 | c::p,z,h=>by
   rw [List.cons_append,runLen_cons,if_pos (h c List.mem_cons_self),runLen_all k p z (fun c hc=>h c (List.mem_cons_of_mem _ hc)),List.length_cons]
   omega
theorem runLen_len (k:Int):∀ p:List UInt8,runLen k p=p.length->∀ c∈p,classOf (c.toNat:Int)=k
 | [],_,c,hc=>by cases hc
 | b::p,h,c,hc=>by
   rw [runLen_cons] at h
   by_cases hb:classOf (b.toNat:Int)=k
   ·rw [if_pos hb,List.length_cons] at h
    rcases List.mem_cons.1 hc with rfl|hc
    ·exact hb
    ·exact runLen_len k p (by omega) c hc
   ·rw [if_neg hb,List.length_cons] at h;omega
theorem runLen_head (k:Int) (z:List UInt8) (h:∀ c,z.head?=some c->classOf (c.toNat:Int)≠k):runLen k z=0:=by
 cases z with
 | nil=>rfl
 | cons c z=>rw [runLen_cons,if_neg (h c rfl)]
theorem index_app (sub:List UInt8):∀ (l z:List UInt8),0<=Lib.index l sub->Lib.index (l++z) sub=Lib.index l sub
 | [],z,h=>by
   have:sub=[]:=by
    unfold Lib.index at h
    cases sub with
    | nil=>rfl
    | cons a s=>simp at h
   subst this
   cases z<;>rfl
 | b::l,z,h=>by
   have hf:=index_fits (b::l) sub h
   rw [List.cons_append,index_cons]
   rw [index_cons] at h hf ⊢
   have e:sub.isPrefixOf (b::(l++z))=sub.isPrefixOf (b::l):=by
    have hs:sub.length<=(b::l).length:=by omega
    have:=isPrefixOf_take sub ((b::l)++z) (b::l).length hs
    rw [List.take_left' rfl] at this
    exact this.symm
   rw [e]
   by_cases h1:sub.isPrefixOf (b::l)=true
   ·rw [if_pos h1,if_pos h1]
   ·rw [if_neg h1] at h ⊢
    rw [if_neg h1]
    by_cases h3:Lib.index l sub=-1
    ·rw [h3] at h;simp at h
    ·have h5:=Lib.index_ge l sub
     rw [index_app sub l z (by omega)]
theorem index_byte (c:UInt8):∀ (l z:List UInt8),Lib.index l [c]=-1->Lib.index (l++c::z) [c]=l.length
 | [],z,_=>by
   rw [List.nil_append,index_cons,if_pos (by simp [List.isPrefixOf])]
   rfl
 | b::l,z,h=>by
   rw [index_cons] at h
   by_cases h1:([c]:List UInt8).isPrefixOf (b::l)=true
   ·rw [if_pos h1] at h;cases h
   ·rw [if_neg h1] at h
    have h2:Lib.index l [c]=-1:=by
     by_cases h3:Lib.index l [c]=-1
     ·exact h3
     ·have h4:(Lib.index l [c]==-1)=false:=by simpa using h3
      rw [h4] at h
      simp only [Bool.false_eq_true,if_false] at h
      have:=Lib.index_ge l [c]
      omega
    have ih:=index_byte c l z h2
    have e:([c]:List UInt8).isPrefixOf (b::(l++c::z))=false:=by
     simp only [List.isPrefixOf,Bool.and_true] at h1 ⊢
     exact Bool.eq_false_iff.2 h1
    have e2:((l.length:Int)==-1)=false:=beq_eq_false_iff_ne.2 (by omega)
    rw [List.cons_append,index_cons,e,ih,e2]
    simp
theorem textScan_app:∀ (l z:List UInt8) (p:Bool) (i:Nat),0<textScan l p i->textScan (l++z) p i=textScan l p i
 | [],z,p,i,h=>by simp [textScan] at h
 | b::l,z,p,i,h=>by
   rw [List.cons_append]
   unfold textScan at h ⊢
   by_cases h1:b=10
   ·rw [if_pos h1] at h;omega
   ·rw [if_neg h1] at h ⊢
    rw [if_neg h1]
    by_cases h2:p=true
    ·rw [if_pos h2] at h ⊢
     rw [if_pos h2,textScan_app l z _ _ h]
    ·rw [if_neg h2] at h ⊢
     rw [if_neg h2]
     by_cases h3:b=34
     ·rw [if_pos h3,if_pos h3]
     ·rw [if_neg h3] at h ⊢
      rw [if_neg h3,textScan_app l z _ _ h]
def Okz (k:Int) (p z:List UInt8):Prop:=((k=1\/k=4)->∀ c,z.head?=some c->classOf (c.toNat:Int)≠k)/\(p.head?=some 35->k=3->∀ c,z.head?=some c->c=10)
theorem Okz.nil (k:Int) (p:List UInt8):Okz k p []:=⟨fun _ c h=>by simp at h,fun _ _ c h=>by simp at h⟩
theorem Okz.head {k:Int} {p y z:List UInt8} (h:Okz k p y) (e:z.head?=y.head?):Okz k p z:=by unfold Okz;rw [e];exact h
theorem cut_whole {p:List UInt8} (h:(Lib.cut p [10]).1.length=p.length) (hp:p≠[]):Lib.index p [10]=-1:=by
 have hlow:=Lib.index_ge p [10]
 by_cases h0:0<=Lib.index p [10]
 ·exfalso
  have hfit:=index_fits p [10] h0
  unfold Lib.cut at h
  rw [if_pos h0] at h
  simp at h hfit
  omega
 ·omega
theorem noteLen_app {p z:List UInt8} (h:noteLen p=p.length) (hp:p≠[]) (hz:p.head?=some 35->∀ c,z.head?=some c->c=10):noteLen (p++z)=p.length:=by
 have hh:(p++z).head?=p.head?:=by cases p with|nil=>exact absurd rfl hp|cons a p=>rfl
 have hl:0<p.length:=List.length_pos_iff.2 hp
 unfold noteLen at h ⊢
 rw [hh]
 by_cases h1:p.head?=some 35
 ·rw [if_pos h1] at h ⊢
  have hi:=cut_whole h hp
  cases z with
  | nil=>rw [List.append_nil];exact h
  | cons c z =>
    obtain rfl:=hz h1 c rfl
    have:=index_byte 10 p z hi
    unfold Lib.cut
    rw [this,if_pos (by omega)]
    simp
 ·rw [if_neg h1] at h ⊢
  by_cases h2:Lib.hasPrefix p [47,42]=true
  ·rw [if_pos h2] at h
   have h3:Lib.hasPrefix (p++z) [47,42]=true:=by
    unfold Lib.hasPrefix at h2 ⊢
    rw [List.isPrefixOf_iff_prefix] at h2 ⊢
    exact h2.trans (List.prefix_append _ _)
   rw [if_pos h3]
   by_cases h4:Lib.index (p.drop 2) [42,47]<0
   ·rw [if_pos h4] at h;omega
   ·rw [if_neg h4] at h
    have h5:(p++z).drop 2=p.drop 2++z:=by
     rw [List.drop_append_of_le_length (by omega)]
    rw [h5,index_app _ _ _ (by omega),if_neg h4]
    exact h
  ·rw [if_neg h2] at h;omega
theorem next_app {p z:List UInt8} {k:Int} (h:nextTok p=(k,p.length)) (hp:p≠[]) (hk:k≠7) (hz:Okz k p z):nextTok (p++z)=(k,p.length):=by
 cases p with
 | nil=>exact absurd rfl hp
 | cons b p =>
   rw [List.cons_append]
   unfold nextTok at h ⊢
   simp only [] at h ⊢
   by_cases h1:classOf (b.toNat:Int)=1\/classOf (b.toNat:Int)=4
   ·rw [if_pos h1] at h ⊢
    obtain ⟨rfl,h2⟩:=Prod.mk.inj h
    rw [List.length_cons] at h2
    have h3:=runLen_len (classOf (b.toNat:Int)) p (by omega)
    rw [runLen_all _ p z h3,runLen_head _ z (hz.1 h1),List.length_cons]
    congr 1;omega
   ·rw [if_neg h1] at h ⊢
    by_cases h3:classOf (b.toNat:Int)=3
    ·rw [if_pos h3] at h ⊢
     by_cases h4:noteLen (b::p)=0
     ·rw [if_pos h4] at h;exact absurd (Prod.mk.inj h).1.symm hk
     ·rw [if_neg h4] at h
      obtain ⟨rfl,h5⟩:=Prod.mk.inj h
      have:=noteLen_app (z:=z) h5 (by simp) (fun g=>hz.2 g rfl)
      rw [List.cons_append] at this
      rw [this,if_neg (by simp)]
    ·rw [if_neg h3] at h ⊢
     by_cases h5:classOf (b.toNat:Int)=5
     ·rw [if_pos h5] at h ⊢
      by_cases h4:textLen (b::p)=0
      ·rw [if_pos h4] at h;exact absurd (Prod.mk.inj h).1.symm hk
      ·rw [if_neg h4] at h
       obtain ⟨rfl,h6⟩:=Prod.mk.inj h
       have e:textLen (b::(p++z))=textLen (b::p):=by
        unfold textLen at h4 ⊢
        exact textScan_app p z false 1 (by simpa using Nat.pos_of_ne_zero h4)
       rw [e,if_neg h4,h6]
     ·rw [if_neg h5] at h ⊢
      exact h
inductive TokSeq (z:List UInt8):List UInt8->Prop
 | nil:TokSeq z []
 | cons (p a:List UInt8) (k:Int) (hp:p≠[]) (h:nextTok p=(k,p.length)) (hk:k≠7) (hz:Okz k p (a++z)) (ha:TokSeq z a):TokSeq z (p++a)
theorem app_head (a y z:List UInt8) (h:z.head?=y.head?):(a++z).head?=(a++y).head?:=by cases a<;>simp [h]
theorem TokSeq.head {y z a:List UInt8} (h:TokSeq y a) (e:z.head?=y.head?):TokSeq z a:=by
 induction h with
 | nil=>exact .nil
 | cons p a k hp h hk hz ha ih=>exact .cons p a k hp h hk (hz.head (app_head a y z e)) ih
theorem solO_blank (c:UInt8) (r:List UInt8) (o:Nat) (hc:classOf (c.toNat:Int)=1):solO (c::r) o=solO r (o+1):=by
 have hn:∀ (c:UInt8) (r:List UInt8),classOf (c.toNat:Int)=1->nextTok (c::r)=(1,1+runLen 1 r):=fun c r hc=>by
  unfold nextTok
  simp only [hc]
  rw [if_pos (.inl trivial)]
 have hs:solidK 1=false:=by decide
 rw [solO_step _ o (by simp),hn c r hc]
 simp only [hs,Bool.false_eq_true,if_false,List.nil_append]
 rw [Nat.add_comm 1 (runLen 1 r),List.drop_succ_cons]
 cases r with
 | nil=>rfl
 | cons d r =>
   by_cases hd:classOf (d.toNat:Int)=1
   ·rw [runLen_cons,if_pos hd,solO_step (d::r) (o+1) (by simp),hn d r hd]
    simp only [hs,Bool.false_eq_true,if_false,List.nil_append]
    congr 1;omega
   ·rw [runLen_cons,if_neg hd];rfl
theorem solO_blanks:∀ (p r:List UInt8) (o:Nat),(∀ c∈p,classOf (c.toNat:Int)=1)->solO (p++r) o=solO r (o+p.length)
 | [],r,o,_=>rfl
 | c::p,r,o,h=>by
   rw [List.cons_append,solO_blank c _ o (h c List.mem_cons_self),solO_blanks p r _ (fun c hc=>h c (List.mem_cons_of_mem _ hc)),List.length_cons,Nat.add_assoc,Nat.add_comm 1]
theorem solO_line (r:List UInt8) (o:Nat):solO (10::r) o=solO r (o+1):=by
 have h:nextTok (10::r)=(2,1):=by
  unfold nextTok
  have e:classOf ((10:UInt8).toNat:Int)=2:=by decide
  simp only [e]
  rw [if_neg (by decide),if_neg (by decide),if_neg (by decide)]
 rw [solO_step _ o (by simp),h]
 rfl
theorem solO_mark (c:UInt8) (r:List UInt8) (o:Nat) (hc:classOf (c.toNat:Int)=6):solO (c::r) o=(6,o,[c])::solO r (o+1):=by
 have h:nextTok (c::r)=(6,1):=by
  unfold nextTok
  simp only [hc]
  rw [if_neg (by decide),if_neg (by decide),if_neg (by decide)]
 rw [solO_step _ o (by simp),h]
 rfl
theorem next_word {p z:List UInt8} (hp:p≠[]) (h:∀ c∈p,classOf (c.toNat:Int)=4) (hz:∀ c,z.head?=some c->classOf (c.toNat:Int)≠4):nextTok (p++z)=(4,p.length):=by
 cases p with
 | nil=>exact absurd rfl hp
 | cons b p =>
   rw [List.cons_append]
   unfold nextTok
   simp only [h b List.mem_cons_self]
   rw [if_pos (.inr trivial),runLen_all 4 p z (fun c hc=>h c (List.mem_cons_of_mem _ hc)),runLen_head 4 z hz,List.length_cons]
   congr 1;omega
theorem solO_word {p z:List UInt8} (o:Nat) (hp:p≠[]) (h:∀ c∈p,classOf (c.toNat:Int)=4) (hz:∀ c,z.head?=some c->classOf (c.toNat:Int)≠4):solO (p++z) o=(4,o,p)::solO z (o+p.length):=by
 rw [solO_tok o hp (next_word hp h hz)]
 rfl
end Go.Proofs.YtldhmfkojaekfaaGreatDoor
