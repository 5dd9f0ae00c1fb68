/-
  Lemmas for the statement: plain laws, and what functions answer; the conditions stand in each.
-/
import Derived.Shelf.Strings.BuilderK
import Derived.Shelf.Strings.BuilderRune
import Derived.Test.YtldhmfkojaekfaaGreatDoorProg
import Derived.Shelf.Strings.MapGrows
import Derived.Test.YtldhmfkojaekfaaGreatDoorMeanTwiceAllPartN
set_option linter.unusedVariables false
set_option linter.unusedSimpArgs false
namespace Go.Proofs
open Go.Shelf Go.RowKit
def YtldhmfkojaekfaaGreatDoor.lays166_ren:Go.Shelf.Ren:=⟨fun|166=>61|240=>63|276=>97|n=>n,fun|0=>0|3=>3|4=>4|5=>5|9=>9|20=>20|37=>72|70=>71|72=>74|75=>79|80=>81|164=>135|n=>n,fun|n=>n⟩
theorem YtldhmfkojaekfaaGreatDoor.lays166:Go.Proofs.Lays.n166 Tryz.prog YtldhmfkojaekfaaGreatDoor.lays166_ren:={
 mixed:=by kernel_rfl
 f166:=Tryz.func61.trans (congrArg some (by kernel_rfl))
 f240:=Tryz.func63.trans (congrArg some (by kernel_rfl))
 f276:=Tryz.func97.trans (congrArg some (by kernel_rfl))
 t0:=Tryz.underlying0
 a0:=Tryz.isAgg0
 z0:=Tryz.sizeOf0
 v0:=Tryz.zeroValue0
 t3:=Tryz.underlying3
 a3:=Tryz.isAgg3
 z3:=Tryz.sizeOf3
 v3:=Tryz.zeroValue3
 t4:=Tryz.underlying4
 a4:=Tryz.isAgg4
 z4:=Tryz.sizeOf4
 v4:=Tryz.zeroValue4
 t9:=Tryz.underlying9
 a9:=Tryz.isAgg9
 z9:=Tryz.sizeOf9
 v9:=Tryz.zeroValue9
 t20:=Tryz.underlying20
 a20:=Tryz.isAgg20
 z20:=Tryz.sizeOf20
 v20:=Tryz.zeroValue20
 t37:=Tryz.underlying72
 a37:=Tryz.isAgg72
 z37:=Tryz.sizeOf72
 v37:=Tryz.zeroValue72
 t70:=Tryz.underlying71
 a70:=Tryz.isAgg71
 z70:=Tryz.sizeOf71
 v70:=Tryz.zeroValue71
 t72:=Tryz.underlying74
 a72:=Tryz.isAgg74
 z72:=Tryz.sizeOf74
 v72:=Tryz.zeroValue74
 t75:=Tryz.underlying79
 a75:=Tryz.isAgg79
 z75:=Tryz.sizeOf79
 v75:=Tryz.zeroValue79
 t164:=Tryz.underlying135
 a164:=Tryz.isAgg135
 z164:=Tryz.sizeOf135
 v164:=Tryz.zeroValue135 }
theorem YtldhmfkojaekfaaGreatDoor.Builder_Extra_166:Builder.Extra Tryz.prog YtldhmfkojaekfaaGreatDoor.lays166_ren:={
 sizeBuilder:=by kernel_rfl
 liesBuilder:=by kernel_rfl
 t5:=Tryz.underlying5
 a5:=Tryz.isAgg5
 z5:=Tryz.sizeOf5
 v5:=Tryz.zeroValue5
 infoByte:=by kernel_rfl
 cellsByte:=by kernel_rfl
 sizeByte:=by kernel_rfl
 neB5:=by decide }
def YtldhmfkojaekfaaGreatDoor.lays167_ren:Go.Shelf.Ren:=⟨fun|167=>33|240=>63|276=>97|n=>n,fun|0=>0|4=>4|5=>5|9=>9|20=>20|37=>72|70=>71|72=>74|75=>79|80=>81|164=>135|n=>n,fun|n=>n⟩
theorem YtldhmfkojaekfaaGreatDoor.lays167:Go.Proofs.Lays.n167 Tryz.prog YtldhmfkojaekfaaGreatDoor.lays167_ren:={
 mixed:=by kernel_rfl
 f167:=Tryz.func33.trans (congrArg some (by kernel_rfl))
 f240:=Tryz.func63.trans (congrArg some (by kernel_rfl))
 f276:=Tryz.func97.trans (congrArg some (by kernel_rfl))
 t0:=Tryz.underlying0
 a0:=Tryz.isAgg0
 z0:=Tryz.sizeOf0
 v0:=Tryz.zeroValue0
 t4:=Tryz.underlying4
 a4:=Tryz.isAgg4
 z4:=Tryz.sizeOf4
 v4:=Tryz.zeroValue4
 t5:=Tryz.underlying5
 a5:=Tryz.isAgg5
 z5:=Tryz.sizeOf5
 v5:=Tryz.zeroValue5
 t9:=Tryz.underlying9
 a9:=Tryz.isAgg9
 z9:=Tryz.sizeOf9
 v9:=Tryz.zeroValue9
 t20:=Tryz.underlying20
 a20:=Tryz.isAgg20
 z20:=Tryz.sizeOf20
 v20:=Tryz.zeroValue20
 t37:=Tryz.underlying72
 a37:=Tryz.isAgg72
 z37:=Tryz.sizeOf72
 v37:=Tryz.zeroValue72
 t70:=Tryz.underlying71
 a70:=Tryz.isAgg71
 z70:=Tryz.sizeOf71
 v70:=Tryz.zeroValue71
 t72:=Tryz.underlying74
 a72:=Tryz.isAgg74
 z72:=Tryz.sizeOf74
 v72:=Tryz.zeroValue74
 t75:=Tryz.underlying79
 a75:=Tryz.isAgg79
 z75:=Tryz.sizeOf79
 v75:=Tryz.zeroValue79
 t164:=Tryz.underlying135
 a164:=Tryz.isAgg135
 z164:=Tryz.sizeOf135
 v164:=Tryz.zeroValue135 }
theorem YtldhmfkojaekfaaGreatDoor.Builder_Extra_167:Builder.Extra Tryz.prog YtldhmfkojaekfaaGreatDoor.lays167_ren:={
 sizeBuilder:=by kernel_rfl
 liesBuilder:=by kernel_rfl
 t5:=Tryz.underlying5
 a5:=Tryz.isAgg5
 z5:=Tryz.sizeOf5
 v5:=Tryz.zeroValue5
 infoByte:=by kernel_rfl
 cellsByte:=by kernel_rfl
 sizeByte:=by kernel_rfl
 neB5:=by decide }
def YtldhmfkojaekfaaGreatDoor.lays168_ren:Go.Shelf.Ren:=⟨fun|168=>112|240=>63|242=>131|276=>97|278=>152|n=>n,fun|0=>0|3=>3|4=>4|5=>5|9=>9|20=>20|21=>21|37=>72|46=>111|51=>145|70=>71|72=>74|75=>79|80=>81|164=>135|n=>n,fun|n=>n⟩
theorem YtldhmfkojaekfaaGreatDoor.lays168:Go.Proofs.Lays.n168 Tryz.prog YtldhmfkojaekfaaGreatDoor.lays168_ren:={
 mixed:=by kernel_rfl
 f168:=Tryz.func112.trans (congrArg some (by kernel_rfl))
 f240:=Tryz.func63.trans (congrArg some (by kernel_rfl))
 f242:=Tryz.func131.trans (congrArg some (by kernel_rfl))
 f276:=Tryz.func97.trans (congrArg some (by kernel_rfl))
 f278:=Tryz.func152.trans (congrArg some (by kernel_rfl))
 t0:=Tryz.underlying0
 a0:=Tryz.isAgg0
 z0:=Tryz.sizeOf0
 v0:=Tryz.zeroValue0
 t3:=Tryz.underlying3
 a3:=Tryz.isAgg3
 z3:=Tryz.sizeOf3
 v3:=Tryz.zeroValue3
 t4:=Tryz.underlying4
 a4:=Tryz.isAgg4
 z4:=Tryz.sizeOf4
 v4:=Tryz.zeroValue4
 t5:=Tryz.underlying5
 a5:=Tryz.isAgg5
 z5:=Tryz.sizeOf5
 v5:=Tryz.zeroValue5
 t9:=Tryz.underlying9
 a9:=Tryz.isAgg9
 z9:=Tryz.sizeOf9
 v9:=Tryz.zeroValue9
 t20:=Tryz.underlying20
 a20:=Tryz.isAgg20
 z20:=Tryz.sizeOf20
 v20:=Tryz.zeroValue20
 t21:=Tryz.underlying21
 a21:=Tryz.isAgg21
 z21:=Tryz.sizeOf21
 v21:=Tryz.zeroValue21
 t37:=Tryz.underlying72
 a37:=Tryz.isAgg72
 z37:=Tryz.sizeOf72
 v37:=Tryz.zeroValue72
 t46:=Tryz.underlying111
 a46:=Tryz.isAgg111
 z46:=Tryz.sizeOf111
 v46:=Tryz.zeroValue111
 t51:=Tryz.underlying145
 a51:=Tryz.isAgg145
 z51:=Tryz.sizeOf145
 v51:=Tryz.zeroValue145
 t70:=Tryz.underlying71
 a70:=Tryz.isAgg71
 z70:=Tryz.sizeOf71
 v70:=Tryz.zeroValue71
 t72:=Tryz.underlying74
 a72:=Tryz.isAgg74
 z72:=Tryz.sizeOf74
 v72:=Tryz.zeroValue74
 t75:=Tryz.underlying79
 a75:=Tryz.isAgg79
 z75:=Tryz.sizeOf79
 v75:=Tryz.zeroValue79
 t164:=Tryz.underlying135
 a164:=Tryz.isAgg135
 z164:=Tryz.sizeOf135
 v164:=Tryz.zeroValue135 }
theorem YtldhmfkojaekfaaGreatDoor.Builder_Extra_168:Builder.Extra Tryz.prog YtldhmfkojaekfaaGreatDoor.lays168_ren:={
 sizeBuilder:=by kernel_rfl
 liesBuilder:=by kernel_rfl
 t5:=Tryz.underlying5
 a5:=Tryz.isAgg5
 z5:=Tryz.sizeOf5
 v5:=Tryz.zeroValue5
 infoByte:=by kernel_rfl
 cellsByte:=by kernel_rfl
 sizeByte:=by kernel_rfl
 neB5:=by decide }
def YtldhmfkojaekfaaGreatDoor.lays169_ren:Go.Shelf.Ren:=⟨fun|169=>34|n=>n,fun|0=>0|3=>3|5=>5|9=>9|37=>72|70=>71|72=>74|127=>106|n=>n,fun|n=>n⟩
theorem YtldhmfkojaekfaaGreatDoor.lays169:Go.Proofs.Lays.n169 Tryz.prog YtldhmfkojaekfaaGreatDoor.lays169_ren:={
 mixed:=by kernel_rfl
 f169:=Tryz.func34.trans (congrArg some (by kernel_rfl))
 t0:=Tryz.underlying0
 a0:=Tryz.isAgg0
 z0:=Tryz.sizeOf0
 v0:=Tryz.zeroValue0
 t3:=Tryz.underlying3
 a3:=Tryz.isAgg3
 z3:=Tryz.sizeOf3
 v3:=Tryz.zeroValue3
 t9:=Tryz.underlying9
 a9:=Tryz.isAgg9
 z9:=Tryz.sizeOf9
 v9:=Tryz.zeroValue9
 t37:=Tryz.underlying72
 a37:=Tryz.isAgg72
 z37:=Tryz.sizeOf72
 v37:=Tryz.zeroValue72
 t70:=Tryz.underlying71
 a70:=Tryz.isAgg71
 z70:=Tryz.sizeOf71
 v70:=Tryz.zeroValue71
 t72:=Tryz.underlying74
 a72:=Tryz.isAgg74
 z72:=Tryz.sizeOf74
 v72:=Tryz.zeroValue74
 t127:=Tryz.underlying106
 a127:=Tryz.isAgg106
 z127:=Tryz.sizeOf106
 v127:=Tryz.zeroValue106 }
theorem YtldhmfkojaekfaaGreatDoor.Builder_Extra_169:Builder.Extra Tryz.prog YtldhmfkojaekfaaGreatDoor.lays169_ren:={
 sizeBuilder:=by kernel_rfl
 liesBuilder:=by kernel_rfl
 t5:=Tryz.underlying5
 a5:=Tryz.isAgg5
 z5:=Tryz.sizeOf5
 v5:=Tryz.zeroValue5
 infoByte:=by kernel_rfl
 cellsByte:=by kernel_rfl
 sizeByte:=by kernel_rfl
 neB5:=by decide }
def YtldhmfkojaekfaaGreatDoor.Bld (b:Nat) (l:List UInt8) (w:World):Prop:=Lib.IsBuilderF 74 5 b b (Lib.byteCells l) w
def YtldhmfkojaekfaaGreatDoor.WrotePost (v:Value) (b:Nat) (l:List UInt8) (w:World) (e:Ending) (w':World):Prop:=e=.returned v/\YtldhmfkojaekfaaGreatDoor.Bld b l w'/\Below b w w'/\Lib.OthersKept 5 (some b) w w'
theorem YtldhmfkojaekfaaGreatDoor.writeStr (b:Nat) (l:List UInt8) (s:ByteArray) (w:World) (h:YtldhmfkojaekfaaGreatDoor.Bld b l w) (hlen:l.length+s.size<=140737488355328) (hBw:b<=w.heap.size) :
 Calls Tryz.prog 61 #[.pointer (some ⟨b,0,none⟩),.string s] w (YtldhmfkojaekfaaGreatDoor.WrotePost (.tuple #[.int .i64 s.size,.nilIface]) b (l++s.data.toList) w):=by
 refine (Any.Builder_WriteString_k YtldhmfkojaekfaaGreatDoor.lays166 YtldhmfkojaekfaaGreatDoor.Builder_Extra_166 b b _ s w h (by rw [Lib.byteCells_length];exact hlen) hBw).mono ?_
 rintro e w' ⟨rfl,h1,h2,h3⟩
 refine ⟨rfl,?_,h2,h3⟩
 unfold YtldhmfkojaekfaaGreatDoor.Bld
 rw [Lib.byteCells_append]
 exact Or.inr h1
theorem YtldhmfkojaekfaaGreatDoor.writeByte (b:Nat) (l:List UInt8) (c:UInt8) (w:World) (h:YtldhmfkojaekfaaGreatDoor.Bld b l w) (hlen:l.length+1<=140737488355328) (hBw:b<=w.heap.size) :
 Calls Tryz.prog 33 #[.pointer (some ⟨b,0,none⟩),.int .u8 (c.toNat:Nat)] w (YtldhmfkojaekfaaGreatDoor.WrotePost .nilIface b (l++[c]) w):=by
 refine (Any.Builder_WriteByte_k YtldhmfkojaekfaaGreatDoor.lays167 YtldhmfkojaekfaaGreatDoor.Builder_Extra_167 b b _ (c.toNat:Int) w h (by rw [Lib.byteCells_length];exact hlen) hBw).mono ?_
 rintro e w' ⟨rfl,h1,h2,h3⟩
 refine ⟨rfl,?_,h2,h3⟩
 unfold YtldhmfkojaekfaaGreatDoor.Bld
 rw [Lib.byteCells_append]
 exact Or.inr h1
theorem YtldhmfkojaekfaaGreatDoor.writeRune (b:Nat) (l:List UInt8) (r:Int) (hr0:-2147483648<=r) (hr1:r<=2147483647) (w:World) (h:YtldhmfkojaekfaaGreatDoor.Bld b l w) (hlen:l.length+4<=140737488355328) (hBw:b<=w.heap.size) :
 Calls Tryz.prog 112 #[.pointer (some ⟨b,0,none⟩),.int .i32 r] w (YtldhmfkojaekfaaGreatDoor.WrotePost (.tuple #[.int .i64 (Lib.runeCells r).length,.nilIface]) b (l++Lib.encodeRune r) w):=by
 refine (Any.Builder_WriteRune_k YtldhmfkojaekfaaGreatDoor.lays168 YtldhmfkojaekfaaGreatDoor.Builder_Extra_168 b b _ r hr0 hr1 w h (by rw [Lib.byteCells_length];exact hlen) hBw).mono ?_
 rintro e w' ⟨rfl,h1,h2,h3⟩
 refine ⟨rfl,?_,h2,h3⟩
 unfold YtldhmfkojaekfaaGreatDoor.Bld
 rw [Lib.byteCells_append,Lib.byteCells_encodeRune]
 exact Or.inr h1
theorem YtldhmfkojaekfaaGreatDoor.built (b:Nat) (l:List UInt8) (w:World) (h:YtldhmfkojaekfaaGreatDoor.Bld b l w) (hBw:b<=w.heap.size) :
 Calls Tryz.prog 34 #[.pointer (some ⟨b,0,none⟩)] w fun e w'=>e=.returned (.string ⟨l.toArray⟩)/\Below b w w' :=
 (Any.Builder_String_any_f YtldhmfkojaekfaaGreatDoor.lays169 YtldhmfkojaekfaaGreatDoor.Builder_Extra_169 b b l w h hBw).mono fun _ _ h=>⟨h.1,h.2.2⟩
theorem YtldhmfkojaekfaaGreatDoor.fresh (w:World):YtldhmfkojaekfaaGreatDoor.Bld w.heap.size [] (w.alloc (.cells #[.pointer none,.slice none 0 0] 74)):=Lib.IsBuilderF.of (Lib.fresh_isBuilder 74 5 w)
end Go.Proofs
namespace Go.Proofs.YtldhmfkojaekfaaGreatDoor
open Go.RowKit Gx
set_option maxRecDepth 100000
structure ETabs (w:World):Prop where
 u:Tabs w
 n:NTabs w
 e:ErrVar w
theorem ETabs.keep {w w':World} (h:ETabs w) (hb:Below w.heap.size w w'):ETabs w':=⟨h.u.keep hb,h.n.keep hb,h.e.keep hb⟩
def UnqPost (l:List UInt8) (w:World) (e:Ending) (w':World):Prop :=
 (∃ rs n,unquote l=some (rs,n)/\e=.returned (.tuple #[.string ⟨(encs rs).toArray⟩,.int .i64 (n:Nat),.int .i64 0])/\Below w.heap.size w w') \/
 (unquote l=none/\∃ c:Int,c≠0/\e=.returned (.tuple #[.string ⟨#[]⟩,.int .i64 0,.int .i64 c])/\Below w.heap.size w w')
def joinU (acc:List Int) (n:Nat) (x:Option (List Int×Nat)):Option (List Int×Nat):=x.map fun p=>(acc++p.1,n+p.2)
theorem joinU_more (acc:List Int) (a n:Nat) (r:Int) (x:Option (List Int×Nat)):joinU acc a (more r n x)=joinU (acc++[r]) (a+n) x:=by
 cases x with
 | none=>rfl
 | some p=>simp [joinU,more];omega
theorem unqF_end (f:Nat):unqF f []=none:=by cases f<;>rfl
theorem unqF_cons (f:Nat) (b:UInt8) (t:List UInt8):unqF (f+1) (b::t) =
 if b=34 then some ([],1)
 else if b=10 then none
 else if b=92 then
  match escOf t with
  | none=>none
  | some (r,n)=>more r (1+n) (unqF f (t.drop n))
 else if Lib.decodeL (b::t)=(65533,1) then none
 else more ((Lib.decodeL (b::t)).1:Int) (Lib.decodeL (b::t)).2 (unqF f ((b::t).drop (Lib.decodeL (b::t)).2)):=by
 conv=>lhs;unfold unqF
 rfl
theorem uOf_len {s:List UInt8} {r:Int} {n:Nat} (h:uOf s=some (r,n)):4<=n:=by
 unfold uOf at h
 split at h
 ·split at h
  ·cases h
  ·split at h
   ·cases h
   ·split at h
    ·obtain ⟨-,rfl⟩:=Prod.mk.inj (Option.some.inj h);omega
    ·cases h
 ·cases h
theorem escOf_len {s:List UInt8} {r:Int} {n:Nat} (h:escOf s=some (r,n)):(Lib.encodeRune r).length<=1+n:=by
 have h4:=(enc_len r).2
 unfold escOf at h
 split at h
 ·cases h
 split at h
 ·rename_i hc
  obtain ⟨rfl,rfl⟩:=Prod.mk.inj (Option.some.inj h)
  rcases hc with rfl|rfl|rfl<;>decide
 split at h
 ·obtain ⟨rfl,rfl⟩:=Prod.mk.inj (Option.some.inj h);decide
 split at h
 ·obtain ⟨rfl,rfl⟩:=Prod.mk.inj (Option.some.inj h);decide
 split at h
 ·obtain ⟨rfl,rfl⟩:=Prod.mk.inj (Option.some.inj h);decide
 ·have:=uOf_len h;omega
theorem decode_enc_len {l:List UInt8} (hne:l≠[]) (h:Lib.decodeL l≠(65533,1)):(Lib.encodeRune ((Lib.decodeL l).1:Int)).length=(Lib.decodeL l).2:=by
 have he:=Lib.encode_decode l hne (fun h2=>h (Prod.ext h2.1 h2.2))
 rw [he,List.length_take,Nat.min_eq_left (decode_len l hne)]
set_option maxHeartbeats 8000000 in
theorem unquote_any (s:ByteArray) (w:World) (hT:ETabs w) (hs:s.size<=140737488351232):Calls Tryz.prog 98 #[.string s] w (UnqPost s.data.toList w):=by
 have HYES:=Lib.hid (fun rs n w' (h:unquote s.data.toList=some (rs,n)) (hb:Below w.heap.size w w')=>(show UnqPost s.data.toList w (.returned (.tuple #[.string ⟨(encs rs).toArray⟩,.int .i64 (n:Nat),.int .i64 0])) w' from .inl ⟨rs,n,h,rfl,hb⟩))
 have HNO:=Lib.hid (fun (c:Int) w' (hc:c≠0) (h:unquote s.data.toList=none) (hb:Below w.heap.size w w')=>(show UnqPost s.data.toList w (.returned (.tuple #[.string ⟨#[]⟩,.int .i64 0,.int .i64 c])) w' from .inr ⟨h,c,hc,rfl,hb⟩))
 have hsl:=Lib.size_eq s
 have hU:Lib.hasPrefix s.data.toList [34]=true->joinU [] 1 (unqF s.size (s.data.toList.drop 1))=unquote s.data.toList:=by
  intro h
  unfold unquote joinU
  rw [if_pos h,hsl]
  congr 1
  funext p
  simp;omega
 have hN:Lib.hasPrefix s.data.toList [34]=false->unquote s.data.toList=none:=by
  intro h
  unfold unquote
  rw [h];rfl
 have hne:Lib.hasPrefix s.data.toList [34]=true->1<=s.size:=by
  intro h
  rcases Nat.eq_zero_or_pos s.size with h0|h0
  ·rw [list_nil h0] at h;cases h
  ·exact h0
 have HP:=Lib.hid (Tryz.strings_HasPrefix s ⟨#[34]⟩ w)
 rw [show (⟨#[34]⟩:ByteArray).data.toList=[34] from rfl] at HP
 generalize UnqPost s.data.toList w=POST at *
 generalize unquote s.data.toList=U at *
 generalize Lib.hasPrefix s.data.toList [34]=hp at *
 have HT:=Lib.hid hT
 have HU:=Lib.hid hU
 have HN:=Lib.hid hN
 have HNE:=Lib.hid hne
 obtain ⟨l,hl⟩:∃ l,l=s.data.toList:=⟨_,rfl⟩
 have HCO:=Lib.hid (fun k h=>drop_cons s k h)
 rw [<-hl] at HU HCO hsl
 have HL:=Lib.hid hl
 have HSL:=Lib.hid hsl
 clear hU hN hne hT hl hsl
 go_enter Tryz.func98,Tryz.ntmps98
 go_wp2_with fail
 refine HP.out.mono ?_
 rintro e0 w1 ⟨rfl,rfl⟩
 cases hp with
 | false =>
   have N:=Lib.hid (HNO.out 4 w1 (by decide) (HN.out rfl) (Below.refl _ _))
   go_wp2_with fail
   try go_ret3
   exact N.out
 | true =>
   have h1:=HNE.out rfl
   have hj:=HU.out rfl
   have HJ:=Lib.hid hj
   have hfr:=YtldhmfkojaekfaaGreatDoor.fresh w1
   have HFR:=Lib.hid hfr
   clear hj hfr HN HU HNE HP
   go_wp2_with fail
   go_loopw [6] (fun iv wr=>∃ (k f:Nat) (acc:List Int),iv=.int .i64 k/\k<=s.size/\s.size<=k+f/\(encs acc).length<=k/\Hid (joinU acc k (unqF f (l.drop k))=U)/\Hid (YtldhmfkojaekfaaGreatDoor.Bld w1.heap.size (encs acc) wr)/\Below w1.heap.size w1 wr) (fun iv _=>s.size - (intOf iv).toNat)
   case atStart=>exact ⟨1,s.size,[],rfl,h1,by omega,by decide,HJ.out,HFR.out,(Below.refl _ _).alloc (Nat.le_refl _) _⟩
   case round =>
    obtain ⟨k,f,acc,rfl,hk,hf,hal,hq,hB,hb⟩:=hrel
    obtain ⟨k0,k1⟩:0<=(k:Int)/\(k:Int)<=(s.size:Int):=by omega
    by_cases hlt:k<s.size
    ·obtain ⟨g,rfl⟩:∃ g,f=g+1:=⟨f - 1,by omega⟩
     have hco:=HCO.out k hlt
     have hst:=hq.out
     rw [hco,unqF_cons] at hst
     obtain ⟨k2,k3⟩:0<=(k:Int)+1/\(k:Int)+1<=(s.size:Int):=by omega
     by_cases b34:s[k]=34
     ·rw [if_pos b34] at hst
      have y1:=(byte_y s[k] 34 34 rfl b34).1
      have N:=Lib.hid (fun w' hb=>HYES.out acc (k+1) w' (by rw [<-hst];simp [joinU]) hb)
      have HBU:=Lib.hid (YtldhmfkojaekfaaGreatDoor.built w1.heap.size (encs acc) wr hB.out hb.size)
      have B1:=Lib.hid hb
      clear hst hco b34 hq hB hb
      go_wp2_with fail
      refine HBU.out.mono ?_
      rintro e0 w2 ⟨rfl,hb2⟩
      have NN:=Lib.hid (N.out w2 (B1.out.trans hb2))
      clear hb2
      go_wp2_with fail
      try go_ret3
      exact NN.out
     rw [if_neg b34] at hst
     have n1:=(byte_n s[k] 34 34 rfl b34).1
     by_cases b10:s[k]=10
     ·rw [if_pos b10] at hst
      have y1:=(byte_y s[k] 10 10 rfl b10).1
      have N:=Lib.hid (HNO.out 4 wr (by decide) hst.symm hb)
      clear hst hco b34 b10 hq hB hb
      go_wp2_with fail
      try go_ret3
      exact N.out
     rw [if_neg b10] at hst
     have n2:=(byte_n s[k] 10 10 rfl b10).1
     by_cases b92:s[k]=92
     ·rw [if_pos b92] at hst
      have y1:=(byte_y s[k] 92 92 rfl b92).1
      have HX:=Lib.hid (fun w0 (h:ErrVar w0)=>escape_any (s.extract (k+1) s.size) w0 (by simp;omega) h)
      unfold EscPost at HX
      rw [Lib.extract_to_end,<-HL.out] at HX
      have heg:=fun r n h=>escOf_good (s:=l.drop (k+1)) (r:=r) (n:=n) h
      rw [List.length_drop,<-HSL.out] at heg
      have HEG:=Lib.hid heg
      have HX2:=Lib.hid (HX.out wr (HT.out.keep hb).e)
      have HST:=Lib.hid hst
      have B1:=Lib.hid hb
      clear hst hco b34 b10 b92 hq hb heg HX
      go_wp2_with fail
      refine HX2.out.mono ?_
      rintro e0 w2 (⟨r,n,he,rfl,hb2⟩|⟨he,c,hc,rfl,hb2⟩)
      ·obtain ⟨g1,g2,g3⟩:=HEG.out r n he
       have hst:=HST.out
       rw [he] at hst
       simp only at hst
       rw [joinU_more,List.drop_drop] at hst
       have hst2:=Lib.hid hst
       rw [good_iff] at g1
       obtain ⟨r0,r1,-⟩:=g1
       have hB2:YtldhmfkojaekfaaGreatDoor.Bld w1.heap.size (encs acc) w2:=Lib.IsBuilderF.below hB.out hb2
       have HW:=Lib.hid (YtldhmfkojaekfaaGreatDoor.writeRune w1.heap.size (encs acc) r (by omega) (by omega) w2 hB2 (by omega) (Nat.le_trans B1.out.size hb2.size))
       unfold YtldhmfkojaekfaaGreatDoor.WrotePost at HW
       have B2:=Lib.hid (B1.out.trans (hb2.mono B1.out.size))
       have hen:=escOf_len he
       clear hst he hb2 hB2 HST HEG hB
       go_wp2_with fail
       refine HW.out.mono ?_
       rintro e0 w3 ⟨rfl,hB3,hb3,-⟩
       have B3:=Lib.hid (B2.out.trans hb3)
       have hB4:Hid (YtldhmfkojaekfaaGreatDoor.Bld w1.heap.size (encs (acc++[r])) w3):=by
        show YtldhmfkojaekfaaGreatDoor.Bld _ _ _
        rw [encs_append]
        simpa [encs] using hB3
       have hl4:(encs (acc++[r])).length<=k+(1+n):=by
        rw [encs_append,List.length_append]
        simp [encs] at hal ⊢
        omega
       have hst3:Hid (joinU (acc++[r]) (k+(1+n)) (unqF g (l.drop (k+(1+n))))=U):=by
        show _=_
        rw [<-hst2.out,show k+1+n=k+(1+n) by omega]
       clear hb3 hB3 hst2
       go_wp2_with fail
       go_roundw
       case rel=>exact ⟨k+(1+n),g,acc++[r],by congr 1<;>omega,by omega,by omega,hl4,hst3,hB4,B3.out⟩
       case measure=>simp [intOf];omega
      ·have hst:=HST.out
       rw [he] at hst
       have N:=Lib.hid (HNO.out c w2 hc hst.symm (B1.out.trans (hb2.mono B1.out.size)))
       have tc:(c != 0)=true:=by rw [bne_iff_ne];exact hc
       clear hst he hb2 HST HEG hB hc
       go_wp2_with fail
       try go_ret3
       exact N.out
     ·rw [if_neg b92] at hst
      have n3:=(byte_n s[k] 92 92 rfl b92).1
      have hne:l.drop k≠[]:=by rw [hco];simp
      rw [<-hco] at hst
      have HX:=Lib.hid (fun w0 (h:Tabs w0)=>next_full (s.extract k s.size) w0 h)
      unfold NextFull at HX
      rw [Lib.extract_to_end,<-HL.out] at HX
      have hdec:dec (l.drop k)=Lib.decodeL (l.drop k):=by unfold dec;rw [if_neg hne]
      have hp:=decodeL_pos (l.drop k)
      have hle:=decode_len (l.drop k) hne
      rw [List.length_drop,<-HSL.out] at hle
      have hg:=Lib.decodeN_valid (l.drop k).length ((l.drop k).getD 0 0).toNat ((l.drop k).getD 1 0).toNat ((l.drop k).getD 2 0).toNat ((l.drop k).getD 3 0).toNat (UInt8.toNat_lt _)
      rw [<-Lib.decodeL_N] at hg
      have HX2:=HX.out wr (HT.out.keep hb).u
      unfold nextR at HX2
      rw [hdec] at HX2
      obtain ⟨r,hr⟩:∃ r,r=(Lib.decodeL (l.drop k)).1:=⟨_,rfl⟩
      obtain ⟨n,hn⟩:∃ n,n=(Lib.decodeL (l.drop k)).2:=⟨_,rfl⟩
      have hpair:Lib.decodeL (l.drop k)=(r,n):=by rw [hr,hn]
      have hlen0:=fun h=>decode_enc_len hne h
      rw [hpair] at hlen0
      rw [hpair] at HX2 hst
      rw [<-hn] at hp hle
      rw [<-hr] at hg
      simp only at HX2 hst
      have B1:=Lib.hid hb
      by_cases hbad:r=65533/\n=1
      ·rw [if_pos (by rw [hbad.1,hbad.2])] at hst
       rw [if_pos ⟨hbad.1,by omega⟩] at HX2
       have HX3:=Lib.hid HX2
       have N0:Hid (U=none):=hst.symm
       clear HX2 hst hco b34 b10 b92 hq hb HX hne hdec hp hle hg hr hn hpair hlen0
       go_wp2_with fail
       refine HX3.out.mono ?_
       rintro e0 w2 ⟨rfl,hb2⟩
       have N:=Lib.hid (HNO.out 3 w2 (by decide) N0.out (B1.out.trans (hb2.mono B1.out.size)))
       clear hb2
       go_wp2_with fail
       try go_ret3
       exact N.out
      ·rw [if_neg (by intro h;exact hbad (Prod.mk.inj h))] at hst
       rw [if_neg (by rintro ⟨h1,h2⟩;exact hbad ⟨h1,by omega⟩)] at HX2
       rw [joinU_more,List.drop_drop] at hst
       have hst2:=Lib.hid hst
       have HX3:=Lib.hid HX2
       have HLEN:=Lib.hid (hlen0 (by intro h;exact hbad (Prod.mk.inj h)))
       clear HX2 hst hco b34 b10 b92 hq hb HX hne hdec hr hn hpair hbad hlen0
       have r0:0<=(r:Int):=by omega
       go_wp2_with fail
       refine HX3.out.mono ?_
       rintro e0 w2 ⟨rfl,hb2⟩
       have hB2:YtldhmfkojaekfaaGreatDoor.Bld w1.heap.size (encs acc) w2:=Lib.IsBuilderF.below hB.out hb2
       have HW:=Lib.hid (YtldhmfkojaekfaaGreatDoor.writeRune w1.heap.size (encs acc) (r:Int) (by omega) (by omega) w2 hB2 (by omega) (Nat.le_trans B1.out.size hb2.size))
       unfold YtldhmfkojaekfaaGreatDoor.WrotePost at HW
       have B2:=Lib.hid (B1.out.trans (hb2.mono B1.out.size))
       have hen:=Nat.le_of_eq HLEN.out
       clear hb2 hB2 hB
       go_wp2_with fail
       refine HW.out.mono ?_
       rintro e0 w3 ⟨rfl,hB3,hb3,-⟩
       have B3:=Lib.hid (B2.out.trans hb3)
       have hB4:Hid (YtldhmfkojaekfaaGreatDoor.Bld w1.heap.size (encs (acc++[(r:Int)])) w3):=by
        show YtldhmfkojaekfaaGreatDoor.Bld _ _ _
        rw [encs_append]
        simpa [encs] using hB3
       have hl4:(encs (acc++[(r:Int)])).length<=k+n:=by
        rw [encs_append,List.length_append]
        simp [encs] at hal ⊢
        omega
       clear hb3 hB3
       go_wp2_with fail
       go_roundw
       case rel=>exact ⟨k+n,g,acc++[(r:Int)],by congr 1<;>omega,by omega,by omega,hl4,hst2.out,hB4,B3.out⟩
       case measure=>simp [intOf];omega
    ·have hst:=hq.out
     rw [List.drop_eq_nil_of_le (by have:=HSL.out;omega),unqF_end] at hst
     have N:=Lib.hid (HNO.out 4 wr (by decide) hst.symm hb)
     clear hst hq hB hb
     go_wp2_with fail
     try go_ret3
     exact N.out
set_option maxRecDepth 100000
def CopyPost (v:V) (w:World) (e:Ending) (w':World):Prop:=∃ p:Loc,e=.returned p.val/\p.v=v/\VAt w' (fun b=>w.heap.size<=b) p/\Below w.heap.size w w'
structure OS (w:World) (k n f:Int) (s:ByteArray) (sl se:Value) (W:World):Prop where
 box:W.heap[w.heap.size]?=some (.cells #[.int .i64 k,.int .i64 n,.int .u64 f,.string s,sl,se] 26)
 res:W.heap[w.heap.size+1]?=some (.cells #[.int .i64 0,.int .i64 0,.int .u64 0,.string ⟨#[]⟩,.slice none 0 0,.slice none 0 0] 26)
 g:Below w.heap.size w W
namespace OS
variable {w W W':World} {k n f:Int} {s:ByteArray} {sl se:Value}
theorem vlt (h:OS w k n f s sl se W):w.heap.size+1<W.heap.size:=(Array.getElem?_eq_some_iff.1 h.res).1
theorem grow (h:OS w k n f s sl se W) {r:Option Nat} (hg:W.grownBy W' r) (hr:∀ b,r=some b->w.heap.size+1<b):OS w k n f s sl se W':=by
 have h1:=h.vlt
 exact ⟨(hg.block _ (by omega) (fun e=>by have:=hr _ e.symm;omega)).trans h.box,(hg.block _ h1 (fun e=>by have:=hr _ e.symm;omega)).trans h.res,
  ⟨hg.os.trans h.g.os,hg.tape.trans h.g.tape,hg.output.trans h.g.output,Nat.le_trans h.g.size hg.size,fun i hi=>(hg.block i (by omega) (fun e=>by have:=hr _ e.symm;omega)).trans (h.g.block i hi)⟩⟩
theorem keep (h:OS w k n f s sl se W) (hb:Below W.heap.size W W'):OS w k n f s sl se W':=h.grow (grown_none hb) (fun _ e=>absurd e (by simp))
theorem setAll (h:OS w k n f s sl se W) (j:Nat) (u:Value) {sl' se':Value} (he:#[Value.int .i64 k,.int .i64 n,.int .u64 f,.string s,sl,se].setIfInBounds j u=#[.int .i64 k,.int .i64 n,.int .u64 f,.string s,sl',se']) :
 OS w k n f s sl' se' (W.setCell ⟨w.heap.size,j,none⟩ u):=by
 have h1:=h.vlt
 exact ⟨by rw [six_store h.box j u,he],((grown_cell W _ j u).block _ h1 (fun e=>by have:=Option.some.inj e;omega)).trans h.res,h.g.setCell (Nat.le_refl _) u⟩
theorem setL (h:OS w k n f s sl se W) (u:Value):OS w k n f s u se (W.setCell ⟨w.heap.size,4,none⟩ u):=h.setAll 4 u rfl
theorem setE (h:OS w k n f s sl se W) (u:Value):OS w k n f s sl u (W.setCell ⟨w.heap.size,5,none⟩ u):=h.setAll 5 u rfl
theorem cells (h:OS w k n f s sl se W):W.cell? ⟨w.heap.size,0,none⟩=some (.int .i64 k)/\W.cell? ⟨w.heap.size,1,none⟩=some (.int .i64 n)/\W.cell? ⟨w.heap.size,2,none⟩=some (.int .u64 f)/\W.cell? ⟨w.heap.size,3,none⟩=some (.string s)/\W.cell? ⟨w.heap.size,4,none⟩=some sl/\W.cell? ⟨w.heap.size,5,none⟩=some se/\(∀ j,W.frozen? ⟨w.heap.size,j,none⟩=false):=six_cells h.box
theorem start (w:World) (q:Loc):OS w q.v.k q.v.n q.v.f q.v.s (.slice q.ad q.v.l.length q.cap) (.slice q.bd q.v.e.length q.dap) ((w.alloc (.cells #[.int .i64 q.v.k,.int .i64 q.v.n,.int .u64 q.v.f,.string q.v.s,.slice q.ad q.v.l.length q.cap,.slice q.bd q.v.e.length q.dap] 26)).alloc (.cells #[.int .i64 0,.int .i64 0,.int .u64 0,.string ⟨#[]⟩,.slice none 0 0,.slice none 0 0] 26)):=by
 refine ⟨?_,?_,((Below.refl _ w).alloc (Nat.le_refl _) _).alloc (by simp) _⟩
 ·rw [Below.heap_alloc _ _ _ (by simp)]
  exact heap_alloc_new w _
 ·have:=heap_alloc_new (w.alloc (.cells #[.int .i64 q.v.k,.int .i64 q.v.n,.int .u64 q.v.f,.string q.v.s,.slice q.ad q.v.l.length q.cap,.slice q.bd q.v.e.length q.dap] 26)) (.cells #[.int .i64 0,.int .i64 0,.int .u64 0,.string ⟨#[]⟩,.slice none 0 0,.slice none 0 0] 26)
  rwa [World.size_alloc] at this
end OS
theorem take_snoc {α:Type} {l:List α} {j:Nat} {x:α} (h:l[j]?=some x):l.take (j+1)=l.take j++[x]:=by
 obtain ⟨hj,rfl⟩:=List.getElem?_eq_some_iff.1 h
 exact List.take_succ_eq_append_getElem hj
set_option maxHeartbeats 16000000 in
theorem own_step (v:V) (ad bd:Option Addr) (cap dap:Nat) (w:World) (hq:VAt w (fun _=>True) ⟨v,ad,cap,bd,dap⟩)
 (ih:∀ (q:Loc) (w:World),SizeOf.sizeOf q.v<SizeOf.sizeOf v->VAt w (fun _=>True) q->Calls Tryz.prog 83 #[q.val] w (CopyPost q.v w)) :
 Calls Tryz.prog 83 #[.agg #[.int .i64 v.k,.int .i64 v.n,.int .u64 v.f,.string v.s,.slice ad v.l.length cap,.slice bd v.e.length dap]] w (CopyPost v w):=by
 have hos:=OS.start w ⟨v,ad,cap,bd,dap⟩
 have HQ:=Lib.hid hq
 have IH:=Lib.hid ih
 have hl1:=hq.l.lbound
 have he1:=hq.e.ebound
 simp only at hl1 he1 hos
 obtain ⟨nl,hnl⟩:∃ nl,v.l.length=nl:=⟨_,rfl⟩
 obtain ⟨ne,hne⟩:∃ ne,v.e.length=ne:=⟨_,rfl⟩
 rw [hnl,hne] at hos ⊢
 rw [hnl] at hl1
 rw [hne] at he1
 have HNL:=Lib.hid hnl
 have HNE:=Lib.hid hne
 clear hq ih hnl hne
 go_enter Tryz.func83,Tryz.ntmps83
 go_upto_region 1 with fail
 generalize hw2:World.alloc (World.alloc w _) _=w2 at hos ⊢
 obtain ⟨a0,a1,a2,a3,a4,a5,af⟩:=hos.cells
 have HOS:=Lib.hid hos
 clear hw2 hos
 go_quiet (fail)
 have hos2:=(HOS.out.keep (Gx.drewN_below w2 nq _))
 generalize hw3:w2.drewN nq=w3 at hos2 ⊢
 have hos3:=hos2.setL (.slice none 0 0)
 have hos4:=hos3.setE (.slice none 0 0)
 have af4:=hos2.cells.2.2.2.2.2.2 4
 have af5:=hos3.cells.2.2.2.2.2.2 5
 clear hw3 HOS a0 a1 a2 a3 a4 a5 af
 obtain ⟨a0,a1,a2,a3,a4,a5,af⟩:=hos2.cells
 obtain ⟨b0,b1,b2,b3,b4,b5,bf⟩:=hos3.cells
 have HOS:=Lib.hid hos4
 clear hos2 hos3 hos4 af bf
 go_wp2_with fail
 clear a0 a1 a2 a3 a4 a5 b0 b1 b2 b3 b4 b5 af4 af5
 go_loopw [17] (fun v17 wr=>∃ (k:Nat) (ps:List (ByteArray×Loc)) (ao:Option Addr) (cp:Nat),k<=nl/\v17=.int .i64 k/\Hid (ps.length=k)/\Hid (OS w v.k v.n v.f v.s (.slice ao k cp) (.slice none 0 0) wr)/\Hid (Acc wr (w.heap.size+1) false 26 (.slice ao k cp) ps)/\Hid (∀ p∈ps,p.1=⟨#[]⟩)/\Hid (ps.map (·.2.v)=v.l.take k)) (fun v17 _=>nl - (intOf v17).toNat)
 case atStart=>exact ⟨0,[],none,0,Nat.zero_le _,rfl,Lib.hid rfl,HOS,Lib.hid (Acc.nil _ _ _ _),Lib.hid (fun _ h=>absurd h List.not_mem_nil),Lib.hid rfl⟩
 case round =>
  obtain ⟨k,ps,ao,cp,hk,rfl,HN,HO,HA,HZ,HTK⟩:=hrel
  clear HOS
  by_cases hlt:k<nl
  ·obtain ⟨x,hx⟩:∃ x,v.l[k]?=some x:=⟨_,List.getElem?_eq_getElem (by rw [HNL.out];exact hlt)⟩
   obtain ⟨b1,o1,hd1,-,hbl1,hcs1⟩:=HQ.out.l.elem (by show 0<v.l.length;rw [HNL.out];omega)
   simp only at hd1
   subst hd1
   obtain ⟨q1,hq1,hv1,hg1⟩:=hcs1 k x hx
   clear hcs1
   have hg:=HO.out.g
   obtain ⟨c0,c1,c2,c3,c4,c5⟩:=hg1.through (hg.block _ hbl1)
   have r1:(0:Int)<=(k:Int):=by omega
   have r2:(k:Int)<(nl:Int):=by omega
   have r4:(k:Int).toNat=k:=rfl
   have hba:=(Below.refl wr.heap.size wr).alloc (Nat.le_refl _) (.cells #[.int .i64 q1.v.k,.int .i64 q1.v.n,.int .u64 q1.v.f,.string q1.v.s,.slice q1.ad q1.v.l.length q1.cap,.slice q1.bd q1.v.e.length q1.dap] 26)
   have hob:=HO.out.keep hba
   have hab:=HA.out.grow (grown_none hba) (fun _ e=>absurd e (by simp))
   have hvb:=(hv1.keep hg).keep hba
   have hcb:=CellsAt.box (q:=q1) (heap_alloc_new wr (.cells #[.int .i64 q1.v.k,.int .i64 q1.v.n,.int .u64 q1.v.f,.string q1.v.s,.slice q1.ad q1.v.l.length q1.cap,.slice q1.bd q1.v.e.length q1.dap] 26))
   have hwl:wr.heap.size<(wr.alloc (.cells #[.int .i64 q1.v.k,.int .i64 q1.v.n,.int .u64 q1.v.f,.string q1.v.s,.slice q1.ad q1.v.l.length q1.cap,.slice q1.bd q1.v.e.length q1.dap] 26)).heap.size:=by simp
   have HX:Hid (v.l[k]?=some q1.v):=Lib.hid (by rw [hx,hq1])
   have HSZ:Hid (SizeOf.sizeOf q1.v<SizeOf.sizeOf v):=Lib.hid (by rw [hq1];exact V.lt_l (List.mem_of_getElem? hx))
   have HRA:=Lib.hid (show w.heap.size+1<wr.heap.size from HO.out.vlt)
   clear hx hq1 hv1 hg1 hg hba HO HA
   go_upto_region 6 with fail
   generalize hwx:World.alloc wr _=wx at hob hab hvb hcb hwl ⊢
   generalize hxb:wr.heap.size=xb at hcb hwl HRA ⊢
   have HOB:=Lib.hid (hab.above)
   have HOd:=Lib.hid (hob.keep (Gx.drewN_below wx 1 _))
   have HAd:Hid (Acc wx.drew (w.heap.size+1) false 26 (.slice ao k cp) ps):=Lib.hid (hab.grow (r:=none) ⟨rfl,rfl,rfl,Nat.le_refl _,fun _ _ _=>rfl⟩ (fun _ e=>absurd e (by simp)))
   have hih:=IH.out q1 wx.drew HSZ.out (hvb.keep (Gx.drewN_below wx 1 _))
   simp only [Loc.val] at hih
   have HCd:=Lib.hid hih
   obtain ⟨e0,e1,e2,e3,e4,e5⟩:=hcb
   obtain ⟨-,-,-,-,k4,-,-⟩:=hob.cells
   clear hwx hxb c0 c1 c2 c3 c4 c5 hob hab hvb hih
   go_region_law (first
    | (go_simp;(with_reducible refine HCd.out.mono ?_);rintro e w5 ⟨p,rfl,hpv,hp,hb5⟩;have ho5:=HOd.out.keep hb5;obtain ⟨-,-,-,-,k5,-,-⟩:=ho5.cells;obtain ⟨-,-,-,-,k5a,-,-⟩:=(ho5.grow (World.grownBy_alloc w5 (.cells #[.int .i64 p.v.k,.int .i64 p.v.n,.int .u64 p.v.f,.string p.v.s,.slice p.ad p.v.l.length p.cap,.slice p.bd p.v.e.length p.dap] 26) none) (fun b e=>absurd e (by simp))).cells;have HO5:=Lib.hid ho5;have HA5:=Lib.hid (HAd.out.grow (grown_none hb5) (fun _ e=>absurd e (by simp)));have HQ5:=Lib.hid (HAd.out.fresh HOd.out.vlt hp);have HPV:=Lib.hid hpv;clear hp hb5 hpv ho5;simp only [Loc.val])
    | (refine step_acc Tryz.underlying23 Tryz.info_val rfl (by decide) rfl (.tmp 22) (.tmp 25) rfl HA5.out HO5.out.vlt (⟨#[]⟩,p) HQ5.out (by show (0:Nat)<=140737488351232;decide) _ rfl rfl rfl k HN.out (by omega) (by omega) ?_;intro ao6 c6 w6 ha6 hg6;have ho6:=HO5.out.grow hg6 HOB.out;obtain ⟨-,-,-,-,k6,-,kf⟩:=ho6.cells;have kf6:=kf 4;have HO6:=Lib.hid ho6;have HA6:=Lib.hid ha6;clear ha6 hg6 ho6 kf))
   all_goals
    go_wp2_with fail
    obtain ⟨y,hy⟩:∃ y:ByteArray×Loc,(⟨#[]⟩,p)=y:=⟨_,rfl⟩
    have hy1:y.1=⟨#[]⟩:=by rw [<-hy]
    have hyv:y.2.v=q1.v:=by rw [<-hy];exact HPV.out
    have ho:=HO6.out.setL (.slice ao6 (k+1) c6)
    have ha:=HA6.out.grow (grown_cell w6 w.heap.size 4 (.slice ao6 (k+1) c6)) (fun b e=>by have:=Option.some.inj e;omega)
    rw [hy] at ha
    have H1:=Lib.hid ho
    have H2:=Lib.hid ha
    have H3:Hid ((ps++[y]).length=k+1):=Lib.hid (by rw [List.length_append,HN.out];rfl)
    have H4:Hid (∀ z∈ps++[y],z.1=⟨#[]⟩):=Lib.hid (fun z hz=>by
     rcases List.mem_append.1 hz with hz|hz
     ·exact HZ.out z hz
     ·obtain rfl:z=y:=by simpa using hz
      exact hy1)
    have H5:Hid ((ps++[y]).map (·.2.v)=v.l.take (k+1)):=Lib.hid (by
     rw [List.map_append,HTK.out,take_snoc HX.out,<-hyv];rfl)
    clear ho ha hy1 hyv hy HO6 HA6 HO5 HA5 HQ5 HPV HOd HAd
    go_roundw
    case rel=>exact ⟨k+1,ps++[y],ao6,c6,by omega,by go_num,H3,H1,H2,H4,H5⟩
    case measure=>simp [intOf];omega
  ·obtain rfl:k=nl:=by omega
   obtain ⟨wo,hwo⟩:∃ wo:World,wo=wr:=⟨_,rfl⟩
   rw [<-hwo] at HO HA ⊢
   have hml:=HO.out.vlt
   obtain ⟨M,hM⟩:∃ M,wo.heap.size=M+1:=⟨wo.heap.size - 1,by omega⟩
   have hrow:=HA.out.row (xs:=lp v.l) (by rw [HN.out];simpa [st] using hl1) (by
    have h:=HTK.out
    rw [<-HNL.out,List.take_length] at h
    rw [<-h]
    unfold lp
    rw [List.map_map]
    exact List.map_congr_left (fun p hp=>by rw [HZ.out p hp];rfl))
   have HRL:Hid (RowAt wo (fun b=>w.heap.size+1<b/\b<M+1) false (lp v.l) (.slice ao k cp)):=Lib.hid (hrow.weak (fun b hb hl=>⟨hb,by omega⟩))
   have hM1:w.heap.size+1<=M:=by omega
   clear hwo wr HA HZ HTK HN hlt hk hrow hml
   go_wp2_with fail
   go_loopw [31] (fun v31 wr=>∃ (j:Nat) (ps:List (ByteArray×Loc)) (bo:Option Addr) (cq:Nat),j<=ne/\v31=.int .i64 j/\Hid (ps.length=j)/\Hid (OS w v.k v.n v.f v.s (.slice ao k cp) (.slice bo j cq) wr)/\Hid (Acc wr M true 44 (.slice bo j cq) ps)/\Hid (RowAt wr (fun b=>w.heap.size+1<b/\b<M+1) false (lp v.l) (.slice ao k cp))/\Hid (ps.map (fun p=>(p.1,p.2.v))=v.e.take j)/\Hid (M+1<=wr.heap.size)) (fun v31 _=>ne - (intOf v31).toNat)
   case atStart=>exact ⟨0,[],none,0,Nat.zero_le _,rfl,Lib.hid rfl,HO,Lib.hid (Acc.nil _ _ _ _),HRL,Lib.hid rfl,Lib.hid (Nat.le_of_eq hM.symm)⟩
   case round =>
    obtain ⟨j,ps,bo,cq,hj,rfl,HN,HOq,HA,HR,HTK,HMl⟩:=hrel
    clear HO HRL
    by_cases hlt:j<ne
    ·obtain ⟨x,hx⟩:∃ x,v.e[j]?=some x:=⟨_,List.getElem?_eq_getElem (by rw [HNE.out];exact hlt)⟩
     obtain ⟨b1,o1,hd1,-,hbl1,hcs1⟩:=HQ.out.e.entry (by show 0<v.e.length;rw [HNE.out];omega)
     simp only at hd1
     subst hd1
     obtain ⟨hkl,gk1,q1,hq1,hv1,hg1⟩:=hcs1 j x hx
     clear hcs1
     have hg:=HOq.out.g
     have k1:wr.cell? ⟨b1,o1+j * 7,none⟩=some (.string x.1):=(hg.cell (p:=⟨b1,_,none⟩) hbl1).trans gk1
     obtain ⟨c0,c1,c2,c3,c4,c5⟩:=(hg1.through (hg.block _ hbl1)).seven
     have r1:(0:Int)<=(j:Int):=by omega
     have r2:(j:Int)<(ne:Int):=by omega
     have r4:(j:Int).toNat=j:=rfl
     obtain ⟨s,hs⟩:∃ s,x.1=s:=⟨_,rfl⟩
     have HX:Hid (v.e[j]?=some (s,q1.v)):=Lib.hid (by rw [hx,hq1,<-hs])
     have HSZ:Hid (SizeOf.sizeOf q1.v<SizeOf.sizeOf v):=Lib.hid (by rw [hq1];exact V.lt_e (List.mem_of_getElem? hx))
     rw [hs] at hkl k1
     have hba:=(Below.refl wr.heap.size wr).alloc (Nat.le_refl _) (.cells #[.string s,.int .i64 q1.v.k,.int .i64 q1.v.n,.int .u64 q1.v.f,.string q1.v.s,.slice q1.ad q1.v.l.length q1.cap,.slice q1.bd q1.v.e.length q1.dap] 44)
     have hob:=HOq.out.keep hba
     have hab:=HA.out.grow (grown_none hba) (fun _ e=>absurd e (by simp))
     have hrb:=HR.out.keep hba
     have hvb:=(hv1.keep hg).keep hba
     have hcb:=heap_alloc_new wr (.cells #[.string s,.int .i64 q1.v.k,.int .i64 q1.v.n,.int .u64 q1.v.f,.string q1.v.s,.slice q1.ad q1.v.l.length q1.cap,.slice q1.bd q1.v.e.length q1.dap] 44)
     have hml:=Nat.le_trans HMl.out hba.size
     have hxl:wr.heap.size<(wr.alloc (.cells #[.string s,.int .i64 q1.v.k,.int .i64 q1.v.n,.int .u64 q1.v.f,.string q1.v.s,.slice q1.ad q1.v.l.length q1.cap,.slice q1.bd q1.v.e.length q1.dap] 44)).heap.size:=by simp
     clear hx hq1 hv1 hg1 hg hba HOq HA HR gk1 hs
     go_upto_region 11 with fail
     generalize hwx:World.alloc wr _=wx at hob hab hrb hvb hcb hml hxl ⊢
     generalize hxb:wr.heap.size=xb at hcb hxl ⊢
     have HOB:=Lib.hid (hab.above)
     have HOd:=Lib.hid (hob.keep (Gx.drewN_below wx 1 _))
     have HAd:Hid (Acc wx.drew M true 44 (.slice bo j cq) ps):=Lib.hid (hab.grow (r:=none) ⟨rfl,rfl,rfl,Nat.le_refl _,fun _ _ _=>rfl⟩ (fun _ e=>absurd e (by simp)))
     have HRd:Hid (RowAt wx.drew (fun b=>w.heap.size+1<b/\b<M+1) false (lp v.l) (.slice ao k cp)):=Lib.hid (hrb.keep (Gx.drewN_below wx 1 _))
     have HMd:Hid (M+1<=wx.drew.heap.size):=Lib.hid hml
     have hih:=IH.out q1 wx.drew HSZ.out (hvb.keep (Gx.drewN_below wx 1 _))
     simp only [Loc.val] at hih
     have HCd:=Lib.hid hih
     obtain ⟨e0,e1,e2,e3,e4,e5,e6⟩:=seven_cells hcb
     have HE0:Hid (wx.drew.cell? ⟨xb,0,none⟩=some (.string s)):=Lib.hid e0
     have HXL:Hid (xb<wx.drew.heap.size):=Lib.hid hxl
     obtain ⟨-,-,-,-,-,k4,-⟩:=hob.cells
     clear hwx hxb c0 c1 c2 c3 c4 c5 k1 hob hab hrb hvb hcb hih hml hxl
     go_region_law (first
      | (go_simp;(with_reducible refine HCd.out.mono ?_);rintro e w5 ⟨p,rfl,hpv,hp,hb5⟩;have ho5:=HOd.out.keep hb5;have k5e:=(hb5.cell (p:=⟨xb,0,none⟩) HXL.out).trans HE0.out;obtain ⟨-,-,-,-,-,k5,-⟩:=ho5.cells;obtain ⟨-,-,-,-,-,k5a,-⟩:=(ho5.grow (World.grownBy_alloc w5 (.cells #[.string s,.int .i64 p.v.k,.int .i64 p.v.n,.int .u64 p.v.f,.string p.v.s,.slice p.ad p.v.l.length p.cap,.slice p.bd p.v.e.length p.dap] 44) none) (fun b e=>absurd e (by simp))).cells;have HO5:=Lib.hid ho5;have HA5:=Lib.hid (HAd.out.grow (grown_none hb5) (fun _ e=>absurd e (by simp)));have HR5:=Lib.hid (HRd.out.keep hb5);have HM5:=Lib.hid (Nat.le_trans HMd.out hb5.size);have HQ5:=Lib.hid (HAd.out.fresh HMd.out hp);have HPV:=Lib.hid hpv;clear hp hb5 hpv ho5;simp only [Loc.val])
      | (refine step_acc Tryz.underlying24 Tryz.info_ent rfl (by decide) rfl (.tmp 36) (.tmp 43) rfl HA5.out HM5.out (s,p) HQ5.out hkl _ rfl rfl rfl j HN.out (by omega) (by omega) ?_;intro ao6 c6 w6 ha6 hg6;have ho6:=HO5.out.grow hg6 (fun b e=>by have:=HOB.out b e;omega);have hr6:=HR5.out.grow hg6 (fun b e hb=>by have:=HOB.out b e;omega);have hm6:=Nat.le_trans HM5.out hg6.size;obtain ⟨-,-,-,-,-,k6,kf⟩:=ho6.cells;have kf6:=kf 5;have HO6:=Lib.hid ho6;have HA6:=Lib.hid ha6;have HR6:=Lib.hid hr6;have HM6:=Lib.hid hm6;clear ha6 hg6 ho6 hr6 hm6 kf))
     all_goals
      go_wp2_with fail
      obtain ⟨y,hy⟩:∃ y:ByteArray×Loc,(s,p)=y:=⟨_,rfl⟩
      have hyv:(y.1,y.2.v)=(s,q1.v):=by rw [<-hy];exact Prod.ext rfl HPV.out
      have ho:=HO6.out.setE (.slice ao6 (j+1) c6)
      have ha:=HA6.out.grow (grown_cell w6 w.heap.size 5 (.slice ao6 (j+1) c6)) (fun b e=>by have:=Option.some.inj e;omega)
      rw [hy] at ha
      have H1:=Lib.hid ho
      have H2:=Lib.hid ha
      have H3:Hid ((ps++[y]).length=j+1):=Lib.hid (by rw [List.length_append,HN.out];rfl)
      have H4:=Lib.hid (HR6.out.grow (grown_cell w6 w.heap.size 5 (.slice ao6 (j+1) c6)) (fun b e hb=>by have:=Option.some.inj e;omega))
      have H5:Hid ((ps++[y]).map (fun p=>(p.1,p.2.v))=v.e.take (j+1)):=Lib.hid (by
       rw [List.map_append,HTK.out,take_snoc HX.out,<-hyv];rfl)
      have H6:=Lib.hid (Nat.le_trans HM6.out (grown_cell w6 w.heap.size 5 (.slice ao6 (j+1) c6)).size)
      clear ho ha hyv hy HO6 HA6 HO5 HA5 HQ5 HPV HOd HAd HR6 HR5 HRd HM6 HM5 HMd
      go_roundw
      case rel=>exact ⟨j+1,ps++[y],ao6,c6,by omega,by go_num,H3,H1,H2,H4,H5,H6⟩
      case measure=>simp [intOf];omega
    ·obtain rfl:j=ne:=by omega
     have hre:=HA.out.row (xs:=v.e) (by rw [HN.out];simpa [st] using he1) (by
      have h:=HTK.out
      rw [<-HNE.out,List.take_length] at h
      exact h.symm)
     have hv:VAt wr (fun b=>w.heap.size+1<b) ⟨v,ao,cp,bo,cq⟩:=⟨HQ.out.wf,by
      have:=HR.out.weak (C:=fun b=>w.heap.size+1<b) (fun b hb _=>hb.1)
      show RowAt wr _ false (lp v.l) (.slice ao v.l.length cp)
      rw [HNL.out];exact this,by
      have:=hre.weak (C:=fun b=>w.heap.size+1<b) (fun b hb _=>by omega)
      show RowAt wr _ true v.e (.slice bo v.e.length cq)
      rw [HNE.out];exact this⟩
     obtain ⟨a0,a1,a2,a3,a4,a5,-⟩:=HOq.out.cells
     obtain ⟨p0,p1,p2,p3,p4,p5,pf⟩:=six_cells HOq.out.res
     have pf0:=pf 0
     have pf1:=pf 1
     have pf2:=pf 2
     have pf3:=pf 3
     have pf4:=pf 4
     have pf5:=pf 5
     obtain ⟨W9,hW9,hr9,-,-,hbw,hvw⟩:=six_all HOq.out.res (.int .i64 v.k) (.int .i64 v.n) (.int .u64 v.f) (.string v.s) (.slice ao k cp) (.slice bo j cq)
     obtain ⟨q0,q1,q2,q3,q4,q5,-⟩:=six_cells hr9
     have HW9:=Lib.hid hW9
     have HPOST:Hid (CopyPost v w (.returned (.agg #[.int .i64 v.k,.int .i64 v.n,.int .u64 v.f,.string v.s,.slice ao k cp,.slice bo j cq])) W9):=Lib.hid ⟨⟨v,ao,cp,bo,cq⟩,by rw [<-HNL.out,<-HNE.out];rfl,rfl,(hvw _ _ hv (Nat.lt_irrefl _)).weak (fun b hb _=>by omega),hbw _ _ HOq.out.g (by omega)⟩
     clear hW9 hr9 hbw hvw pf hv hre
     go_wp2_with fail
     rw [<-HW9.out]
     exact bodyPost_ret (v:=.agg #[.int .i64 v.k,.int .i64 v.n,.int .u64 v.f,.string v.s,.slice ao k cp,.slice bo j cq]) (by simp [results,Tryz.results83,go_sem,q0,q1,q2,q3,q4,q5]) rfl HPOST.out
theorem own_any' (q:Loc) (w:World) (hq:VAt w (fun _=>True) q):Calls Tryz.prog 83 #[q.val] w (CopyPost q.v w):=by
 have key:∀ (n:Nat) (q:Loc) (w:World),SizeOf.sizeOf q.v<=n->VAt w (fun _=>True) q->Calls Tryz.prog 83 #[q.val] w (CopyPost q.v w):=by
  intro n
  induction n with
  | zero=>intro q w h;cases q with|mk v _ _ _ _=>cases v;simp at h
  | succ n ih=>exact fun q w h hq=>own_step q.v q.ad q.bd q.cap q.dap w hq (fun q' w' h' hq'=>ih q' w' (by omega) hq')
 exact key _ q w (Nat.le_refl _) hq
end Go.Proofs.YtldhmfkojaekfaaGreatDoor
namespace Go.Proofs.YtldhmfkojaekfaaGreatDoor
open Go.RowKit Gx
set_option maxRecDepth 100000
theorem fidx_at {s:ByteArray} {l:List (ByteArray×V)} {k:Nat} {y:ByteArray×V} (hy:l[k]?=some y) (h:isK s y=true) (hlt:∀ j z,j<k->l[j]?=some z->isK s z=false):fidx s l=k:=by
 obtain ⟨hk,rfl⟩:=List.getElem?_eq_some_iff.1 hy
 unfold fidx
 rw [List.findIdx_eq hk]
 exact ⟨h,fun j hj=>hlt j _ hj (List.getElem?_eq_getElem (by omega))⟩
theorem fidx_no {s:ByteArray} {l:List (ByteArray×V)} (hlt:∀ j z,j<l.length->l[j]?=some z->isK s z=false):fidx s l=l.length:=by
 unfold fidx
 rw [List.findIdx_eq_length]
 intro x hx
 obtain ⟨j,hj,rfl⟩:=List.getElem_of_mem hx
 exact hlt j _ hj (List.getElem?_eq_getElem hj)
def KeyPostE (b:Bool) (w:World) (e:Ending) (w':World):Prop:=e=.returned (.bool b)/\Below w.heap.size w w'
set_option maxHeartbeats 1000000 in
theorem find1_any (x:ByteArray) (k n f:Int) (t:ByteArray) (sl se:Value) (K:Nat) (s:ByteArray) (w:World) (hK:w.cell? ⟨K,0,none⟩=some (.string s)) (b:Bool) (hb:(x.toList==s.toList)=b) :
 Calls Tryz.prog 99 #[.agg #[.string x,.int .i64 k,.int .i64 n,.int .u64 f,.string t,sl,se],.pointer (some ⟨K,0,none⟩)] w (KeyPostE b w):=by
 have hlt:=World.block_lt_of_cell? w _ hK
 have hbl:=(Below.refl w.heap.size w).alloc (Nat.le_refl _) (.cells #[.string x,.int .i64 k,.int .i64 n,.int .u64 f,.string t,sl,se] 44)
 have hk1:=(hbl.cell (p:=⟨K,0,none⟩) hlt).trans hK
 have hx1:(w.alloc (.cells #[.string x,.int .i64 k,.int .i64 n,.int .u64 f,.string t,sl,se] 44)).cell? ⟨w.heap.size,0,none⟩=some (.string x):=(seven_cells (heap_alloc_new w _)).1
 have HB:=Lib.hid hbl
 clear hK hlt hbl
 go_enter Tryz.func99,Tryz.ntmps99
 go_upto_region 1 with fail
 generalize hw2:World.alloc w _=w2 at HB hk1 hx1 ⊢
 clear hw2
 go_wp2_with fail
 try go_ret
 exact ⟨by rw [<-hb];rfl,HB.out⟩
def IdxPostE (i:Nat) (n:Nat) (w:World) (e:Ending) (w':World):Prop:=e=.returned (.int .i64 (if i<n then (i:Int) else -1))/\Below w.heap.size w w'
set_option maxHeartbeats 4000000 in
theorem indexEnt_any (bd:Option Addr) (dap:Nat) (l:List (ByteArray×V)) (K:Nat) (s:ByteArray) (w:World) (h:RowAt w (fun _=>True) true l (.slice bd l.length dap)) (hK:w.cell? ⟨K,0,none⟩=some (.string s)) :
 Calls Tryz.prog 80 #[.slice bd l.length dap,.func (.func 99) #[] #[.pointer (some ⟨K,0,none⟩)]] w (IdxPostE (fidx s l) l.length w):=by
 have hltK:=World.block_lt_of_cell? w _ hK
 have HK:=Lib.hid hK
 have H:=Lib.hid h
 have hbn:=h.ebound
 have HNO:=Lib.hid (fidx_no (s:=s) (l:=l))
 have HAT:=Lib.hid (fun k y=>fidx_at (s:=s) (l:=l) (k:=k) (y:=y))
 obtain ⟨n,hn⟩:∃ n,l.length=n:=⟨_,rfl⟩
 rw [hn] at hbn HNO ⊢
 have HN:=Lib.hid hn
 clear h hK hn
 go_enter Tryz.func80,Tryz.ntmps80
 go_wp2_with fail
 go_loopw [5,8] (fun _ v wr=>∃ k:Nat,k<=n/\v=.int .i64 k/\Hid (∀ j z,j<k->l[j]?=some z->isK s z=false)/\Hid (Below w.heap.size w wr)) (fun _ v _=>n - (intOf v).toNat)
 case atStart=>exact ⟨0,Nat.zero_le _,rfl,Lib.hid (fun j z h=>by omega),Lib.hid (Below.refl _ _)⟩
 case round =>
  obtain ⟨k,hk,rfl,HL,HB⟩:=hrel
  by_cases hlt:k<n
  ·obtain ⟨x,hx⟩:∃ x,l[k]?=some x:=⟨_,List.getElem?_eq_getElem (by rw [HN.out];exact hlt)⟩
   obtain ⟨b1,o1,hd1,-,hbl1,hcs1⟩:=H.out.entry (by rw [HN.out];omega)
   subst hd1
   obtain ⟨-,gk1,q1,hq1,hv1,hg1⟩:=hcs1 k x hx
   clear hcs1
   have k1:wr.cell? ⟨b1,o1+k * 7,none⟩=some (.string x.1):=(HB.out.cell (p:=⟨b1,_,none⟩) hbl1).trans gk1
   obtain ⟨c0,c1,c2,c3,c4,c5⟩:=(hg1.through (HB.out.block _ hbl1)).seven
   have hKr:=(HB.out.cell (p:=⟨K,0,none⟩) hltK).trans HK.out
   obtain ⟨b,hb⟩:∃ b,(x.1.toList==s.toList)=b:=⟨_,rfl⟩
   have HC:=Lib.hid (find1_any x.1 q1.v.k q1.v.n q1.v.f q1.v.s (.slice q1.ad q1.v.l.length q1.cap) (.slice q1.bd q1.v.e.length q1.dap) K s wr hKr b hb)
   have HX:=Lib.hid hx
   have HBB:=Lib.hid hb
   have r1:(0:Int)<=(k:Int):=by omega
   have r2:(k:Int)<(n:Int):=by omega
   clear hx hq1 hv1 hg1 gk1 hb hKr
   go_wp2_with fail
   (with_reducible refine HC.out.mono ?_)
   rintro e w2 ⟨rfl,hb2⟩
   have HB2:=Lib.hid (HB.out.trans (hb2.mono HB.out.size))
   clear hb2 c0 c1 c2 c3 c4 c5 k1
   cases b with
   | true =>
     have hf:=HAT.out k x HX.out HBB.out HL.out
     go_wp2_with fail
     try go_ret
     exact ⟨by rw [hf,if_pos hlt];rfl,HB2.out⟩
   | false =>
     have HL2:Hid (∀ j z,j<k+1->l[j]?=some z->isK s z=false):=Lib.hid (fun j z hj hz=>by
      by_cases e:j=k
      ·subst e
       rw [HX.out] at hz
       cases hz
       exact HBB.out
      ·exact HL.out j z (by omega) hz)
     go_wp2_with fail
     go_roundw
     case rel=>exact ⟨k+1,by omega,by go_num,HL2,HB2⟩
     case measure=>simp [intOf];omega
  ·obtain rfl:k=n:=by omega
   have hf:=HNO.out HL.out
   go_wp2_with fail
   try go_ret
   exact ⟨by rw [hf,if_neg (Nat.lt_irrefl _)];rfl,HB.out⟩
set_option maxHeartbeats 1000000 in
theorem find_any (bd:Option Addr) (dap:Nat) (l:List (ByteArray×V)) (s:ByteArray) (w:World) (h:RowAt w (fun _=>True) true l (.slice bd l.length dap)) :
 Calls Tryz.prog 78 #[.slice bd l.length dap,.string s] w (IdxPostE (fidx s l) l.length w):=by
 have hbl:=(Below.refl w.heap.size w).alloc (Nat.le_refl _) (.cells #[.string s] 9)
 have hs1:(w.alloc (.cells #[.string s] 9)).cell? ⟨w.heap.size,0,none⟩=some (.string s):=by have:=heap_alloc_new w (.cells #[.string s] 9);exact (by simp only [World.cell?,this];rfl)
 have HC:=Lib.hid (indexEnt_any bd dap l w.heap.size s _ (h.keep hbl) hs1)
 have HB:=Lib.hid hbl
 obtain ⟨I,hI⟩:∃ I:Int,(if fidx s l<l.length then (fidx s l:Int) else -1)=I:=⟨_,rfl⟩
 unfold IdxPostE at HC ⊢
 rw [hI] at HC ⊢
 clear h hs1 hbl hI
 generalize l.length=n at *
 go_enter Tryz.func78,Tryz.ntmps78
 go_upto_region 1 with fail
 generalize hw2:World.alloc w _=w2 at HB HC ⊢
 clear hw2
 go_wp2_with fail
 (with_reducible refine HC.out.mono ?_)
 rintro e w3 ⟨rfl,hb3⟩
 have HB3:=Lib.hid (HB.out.trans (hb3.mono HB.out.size))
 clear hb3
 go_wp2_with fail
 try go_ret
 refine ⟨?_,HB3.out⟩
 rfl
set_option maxRecDepth 100000
theorem gidx_at {s:ByteArray} {l:List (ByteArray×V)} {k:Nat} {y:ByteArray×V} (hy:l[k]?=some y) (h:gtK s y=true) (hlt:∀ j z,j<k->l[j]?=some z->gtK s z=false):gidx s l=k:=by
 obtain ⟨hk,rfl⟩:=List.getElem?_eq_some_iff.1 hy
 unfold gidx
 rw [List.findIdx_eq hk]
 exact ⟨h,fun j hj=>hlt j _ hj (List.getElem?_eq_getElem (by omega))⟩
theorem gidx_no {s:ByteArray} {l:List (ByteArray×V)} (hlt:∀ j z,j<l.length->l[j]?=some z->gtK s z=false):gidx s l=l.length:=by
 unfold gidx
 rw [List.findIdx_eq_length]
 intro x hx
 obtain ⟨j,hj,rfl⟩:=List.getElem_of_mem hx
 exact hlt j _ hj (List.getElem?_eq_getElem hj)
theorem gidx_le (s:ByteArray) (l:List (ByteArray×V)):gidx s l<=l.length:=List.findIdx_le_length
set_option maxHeartbeats 1000000 in
theorem put1_any (x:ByteArray) (k n f:Int) (t:ByteArray) (sl se:Value) (K:Nat) (s:ByteArray) (w:World) (hK:w.cell? ⟨K,0,none⟩=some (.string s)) (b:Bool) (hb:(!Op.bytesLess x.toList s.toList && !(x.toList==s.toList))=b) :
 Calls Tryz.prog 81 #[.agg #[.string x,.int .i64 k,.int .i64 n,.int .u64 f,.string t,sl,se],.pointer (some ⟨K,0,none⟩)] w (KeyPostE b w):=by
 have hlt:=World.block_lt_of_cell? w _ hK
 have hbl:=(Below.refl w.heap.size w).alloc (Nat.le_refl _) (.cells #[.string x,.int .i64 k,.int .i64 n,.int .u64 f,.string t,sl,se] 44)
 have hk1:=(hbl.cell (p:=⟨K,0,none⟩) hlt).trans hK
 have hx1:(w.alloc (.cells #[.string x,.int .i64 k,.int .i64 n,.int .u64 f,.string t,sl,se] 44)).cell? ⟨w.heap.size,0,none⟩=some (.string x):=(seven_cells (heap_alloc_new w _)).1
 have HB:=Lib.hid hbl
 clear hK hlt hbl
 go_enter Tryz.func81,Tryz.ntmps81
 go_upto_region 1 with fail
 generalize hw2:World.alloc w _=w2 at HB hk1 hx1 ⊢
 clear hw2
 go_wp2_with fail
 try go_ret
 exact ⟨by rw [<-hb];rfl,HB.out⟩
set_option maxHeartbeats 4000000 in
theorem indexPut_any (bd:Option Addr) (dap:Nat) (l:List (ByteArray×V)) (K:Nat) (s:ByteArray) (w:World) (h:RowAt w (fun _=>True) true l (.slice bd l.length dap)) (hK:w.cell? ⟨K,0,none⟩=some (.string s)) :
 Calls Tryz.prog 80 #[.slice bd l.length dap,.func (.func 81) #[] #[.pointer (some ⟨K,0,none⟩)]] w (IdxPostE (gidx s l) l.length w):=by
 have hltK:=World.block_lt_of_cell? w _ hK
 have HK:=Lib.hid hK
 have H:=Lib.hid h
 have hbn:=h.ebound
 have HNO:=Lib.hid (gidx_no (s:=s) (l:=l))
 have HAT:=Lib.hid (fun k y=>gidx_at (s:=s) (l:=l) (k:=k) (y:=y))
 obtain ⟨n,hn⟩:∃ n,l.length=n:=⟨_,rfl⟩
 rw [hn] at hbn HNO ⊢
 have HN:=Lib.hid hn
 clear h hK hn
 go_enter Tryz.func80,Tryz.ntmps80
 go_wp2_with fail
 go_loopw [5,8] (fun _ v wr=>∃ k:Nat,k<=n/\v=.int .i64 k/\Hid (∀ j z,j<k->l[j]?=some z->gtK s z=false)/\Hid (Below w.heap.size w wr)) (fun _ v _=>n - (intOf v).toNat)
 case atStart=>exact ⟨0,Nat.zero_le _,rfl,Lib.hid (fun j z h=>by omega),Lib.hid (Below.refl _ _)⟩
 case round =>
  obtain ⟨k,hk,rfl,HL,HB⟩:=hrel
  by_cases hlt:k<n
  ·obtain ⟨x,hx⟩:∃ x,l[k]?=some x:=⟨_,List.getElem?_eq_getElem (by rw [HN.out];exact hlt)⟩
   obtain ⟨b1,o1,hd1,-,hbl1,hcs1⟩:=H.out.entry (by rw [HN.out];omega)
   subst hd1
   obtain ⟨-,gk1,q1,hq1,hv1,hg1⟩:=hcs1 k x hx
   clear hcs1
   have k1:wr.cell? ⟨b1,o1+k * 7,none⟩=some (.string x.1):=(HB.out.cell (p:=⟨b1,_,none⟩) hbl1).trans gk1
   obtain ⟨c0,c1,c2,c3,c4,c5⟩:=(hg1.through (HB.out.block _ hbl1)).seven
   have hKr:=(HB.out.cell (p:=⟨K,0,none⟩) hltK).trans HK.out
   obtain ⟨b,hb⟩:∃ b,(!Op.bytesLess x.1.toList s.toList && !(x.1.toList==s.toList))=b:=⟨_,rfl⟩
   have HC:=Lib.hid (put1_any x.1 q1.v.k q1.v.n q1.v.f q1.v.s (.slice q1.ad q1.v.l.length q1.cap) (.slice q1.bd q1.v.e.length q1.dap) K s wr hKr b hb)
   have HX:=Lib.hid hx
   have HBB:=Lib.hid hb
   have r1:(0:Int)<=(k:Int):=by omega
   have r2:(k:Int)<(n:Int):=by omega
   clear hx hq1 hv1 hg1 gk1 hb hKr
   go_wp2_with fail
   (with_reducible refine HC.out.mono ?_)
   rintro e w2 ⟨rfl,hb2⟩
   have HB2:=Lib.hid (HB.out.trans (hb2.mono HB.out.size))
   clear hb2 c0 c1 c2 c3 c4 c5 k1
   cases b with
   | true =>
     have hf:=HAT.out k x HX.out HBB.out HL.out
     go_wp2_with fail
     try go_ret
     exact ⟨by rw [hf,if_pos hlt];rfl,HB2.out⟩
   | false =>
     have HL2:Hid (∀ j z,j<k+1->l[j]?=some z->gtK s z=false):=Lib.hid (fun j z hj hz=>by
      by_cases e:j=k
      ·subst e
       rw [HX.out] at hz
       cases hz
       exact HBB.out
      ·exact HL.out j z (by omega) hz)
     go_wp2_with fail
     go_roundw
     case rel=>exact ⟨k+1,by omega,by go_num,HL2,HB2⟩
     case measure=>simp [intOf];omega
  ·obtain rfl:k=n:=by omega
   have hf:=HNO.out HL.out
   go_wp2_with fail
   try go_ret
   exact ⟨by rw [hf,if_neg (Nat.lt_irrefl _)];rfl,HB.out⟩
set_option maxRecDepth 100000
def DropPost (w:World) (vb:Nat) (xs:List (ByteArray×V)) (e:Ending) (w':World):Prop :=
 ∃ vo vc m ps,e=.returned (.slice vo m vc)/\ps.length=m/\Acc w' vb true 44 (.slice vo m vc) ps/\ps.map (fun p=>(p.1,p.2.v))=xs/\Below w.heap.size w w'
theorem drop_snoc (l:List (ByteArray×V)) (s:ByteArray) (x:ByteArray×V):dropL (l++[x]) s=dropL l s++(if isK s x=true then [] else [x]):=by
 unfold dropL
 rw [List.filter_append,List.filter_cons]
 cases isK s x<;>rfl
set_option maxHeartbeats 8000000 in
theorem drop_any (bd:Option Addr) (dap n:Nat) (l:List (ByteArray×V)) (s:ByteArray) (w:World) (vb:Nat) (hvb:w.heap.size=vb+1) (h:RowAt w (fun _=>True) true l (.slice bd n dap)) (hn:l.length=n) (hl:n<=1000000) :
 Calls Tryz.prog 79 #[.slice bd n dap,.string s] w (DropPost w vb (dropL l s)):=by
 have H:=Lib.hid h
 have HL:=Lib.hid hn
 have HVB:=Lib.hid hvb
 clear h hn hvb
 go_enter Tryz.func79,Tryz.ntmps79
 go_wp2_with fail
 go_loopw [5,10] (fun v5 v10 wr=>∃ (k m:Nat) (ps:List (ByteArray×Loc)) (ao:Option Addr) (cp:Nat),k<=n/\m<=k/\v10=.int .i64 k/\v5=.slice ao m cp/\Hid (ps.length=m)/\Hid (Acc wr vb true 44 (.slice ao m cp) ps)/\Hid (ps.map (fun p=>(p.1,p.2.v))=dropL (l.take k) s)/\Hid (Below w.heap.size w wr)) (fun _ v10 _=>n - (intOf v10).toNat)
 case atStart=>exact ⟨0,0,[],none,0,Nat.zero_le _,Nat.le_refl _,rfl,rfl,Lib.hid rfl,Lib.hid (Acc.nil _ _ _ _),Lib.hid (by rw [List.take_zero];rfl),Lib.hid (Below.refl _ _)⟩
 case round =>
  obtain ⟨k,m,ps,ao,cp,hk,hm,rfl,rfl,HN,HA,HTK,HB⟩:=hrel
  by_cases hlt:k<n
  ·obtain ⟨x,hx⟩:∃ x,l[k]?=some x:=⟨_,List.getElem?_eq_getElem (by rw [HL.out];exact hlt)⟩
   have hrow:=H.out
   rw [<-HL.out] at hrow
   obtain ⟨b1,o1,hd1,-,hbl1,hcs1⟩:=hrow.entry (by rw [HL.out];omega)
   subst hd1
   obtain ⟨hkl,gk1,q1,hq1,hv1,hg1⟩:=hcs1 k x hx
   clear hcs1 hrow
   have hg:=HB.out
   have k1:wr.cell? ⟨b1,o1+k * 7,none⟩=some (.string x.1):=(hg.cell (p:=⟨b1,_,none⟩) hbl1).trans gk1
   obtain ⟨c0,c1,c2,c3,c4,c5⟩:=(hg1.through (hg.block _ hbl1)).seven
   have r1:(0:Int)<=(k:Int):=by omega
   have r2:(k:Int)<(n:Int):=by omega
   have r4:(k:Int).toNat=k:=rfl
   obtain ⟨t,ht⟩:∃ t,x.1=t:=⟨_,rfl⟩
   have HX:Hid (l[k]?=some (t,q1.v)):=Lib.hid (by rw [hx,hq1,<-ht])
   rw [ht] at hkl k1
   have hba:=(Below.refl wr.heap.size wr).alloc (Nat.le_refl _) (.cells #[.string t,.int .i64 q1.v.k,.int .i64 q1.v.n,.int .u64 q1.v.f,.string q1.v.s,.slice q1.ad q1.v.l.length q1.cap,.slice q1.bd q1.v.e.length q1.dap] 44)
   have hab:=HA.out.grow (grown_none hba) (fun _ e=>absurd e (by simp))
   have hvv:=(hv1.keep hg).keep hba
   have hcb:=heap_alloc_new wr (.cells #[.string t,.int .i64 q1.v.k,.int .i64 q1.v.n,.int .u64 q1.v.f,.string q1.v.s,.slice q1.ad q1.v.l.length q1.cap,.slice q1.bd q1.v.e.length q1.dap] 44)
   have hgb:=hg.trans (hba.mono hg.size)
   have hvl:vb<(wr.alloc (.cells #[.string t,.int .i64 q1.v.k,.int .i64 q1.v.n,.int .u64 q1.v.f,.string q1.v.s,.slice q1.ad q1.v.l.length q1.cap,.slice q1.bd q1.v.e.length q1.dap] 44)).heap.size:=by have:=HVB.out;have:=hgb.size;omega
   have hxl:wr.heap.size<(wr.alloc (.cells #[.string t,.int .i64 q1.v.k,.int .i64 q1.v.n,.int .u64 q1.v.f,.string q1.v.s,.slice q1.ad q1.v.l.length q1.cap,.slice q1.bd q1.v.e.length q1.dap] 44)).heap.size:=by simp
   clear hx hq1 hv1 hg1 hg hba HA HB gk1 ht
   go_upto_region 5 with fail
   generalize hwx:World.alloc wr _=wx at hab hvv hcb hgb hvl hxl ⊢
   generalize hxb:wr.heap.size=xb at hcb hxl ⊢
   obtain ⟨e0,e1,e2,e3,e4,e5,e6⟩:=seven_cells hcb
   clear hwx hxb c0 c1 c2 c3 c4 c5 k1
   by_cases heq:isK s (t,q1.v)=true
   ·have t1:(t.toList==s.toList)=true:=heq
    have HTK2:Hid (ps.map (fun p=>(p.1,p.2.v))=dropL (l.take (k+1)) s):=Lib.hid (by
     rw [take_snoc HX.out,drop_snoc,if_pos heq,List.append_nil];exact HTK.out)
    have HAx:=Lib.hid hab
    have HBx:=Lib.hid hgb
    clear heq hab hgb hvv hcb
    go_wp2_with fail
    go_roundw
    case rel=>exact ⟨k+1,m,ps,ao,cp,by omega,by omega,by go_num,rfl,HN,HAx,HTK2,HBx⟩
    case measure=>simp [intOf];omega
   ·have t1:(t.toList==s.toList)=false:=by have:=heq;unfold isK at this;simpa using this
    have HTK2:Hid (∀ p:Loc,p.v=q1.v->(ps++[(t,p)]).map (fun p=>(p.1,p.2.v))=dropL (l.take (k+1)) s):=Lib.hid (fun p hp=>by
     rw [take_snoc HX.out,drop_snoc,if_neg heq,List.map_append,HTK.out,<-hp];rfl)
    have HAd:Hid (Acc wx.drew vb true 44 (.slice ao m cp) ps):=Lib.hid (hab.grow (r:=none) ⟨rfl,rfl,rfl,Nat.le_refl _,fun _ _ _=>rfl⟩ (fun _ e=>absurd e (by simp)))
    have HBd:Hid (Below w.heap.size w wx.drew):=Lib.hid (hgb.trans (Gx.drewN_below wx 1 _))
    have hih:=own_any' q1 wx.drew (hvv.keep (Gx.drewN_below wx 1 _))
    simp only [Loc.val] at hih
    have HCd:=Lib.hid hih
    have HE0:Hid (wx.drew.cell? ⟨xb,0,none⟩=some (.string t)):=Lib.hid e0
    have HXL:Hid (xb<wx.drew.heap.size):=Lib.hid hxl
    have HVL:Hid (vb<wx.drew.heap.size):=Lib.hid hvl
    clear heq hab hgb hvv hcb hih hvl hxl
    go_wp2_with fail
    go_region_law (first
     | (go_simp;(with_reducible refine HCd.out.mono ?_);rintro e w5 ⟨p,rfl,hpv,hp,hb5⟩;have k5e:=(hb5.cell (p:=⟨xb,0,none⟩) HXL.out).trans HE0.out;have HA5:=Lib.hid (HAd.out.grow (grown_none hb5) (fun _ e=>absurd e (by simp)));have HV5:=Lib.hid (Nat.lt_of_lt_of_le HVL.out hb5.size);have HQ5:=Lib.hid (HAd.out.fresh HVL.out hp);have HB5:=Lib.hid (HBd.out.trans (hb5.mono HBd.out.size));have HPV:=Lib.hid hpv;clear hp hb5 hpv;simp only [Loc.val])
     | (refine step_acc Tryz.underlying24 Tryz.info_ent rfl (by decide) rfl (.tmp 18) (.tmp 25) rfl HA5.out HV5.out (t,p) HQ5.out hkl _ rfl rfl rfl m HN.out (by omega) (by omega) ?_;intro ao6 c6 w6 ha6 hg6;have hb6:=HB5.out.grown hg6 HB5.out.size (fun b e=>by have:=(HA5.out.above b e);have:=HVB.out;omega);have HA6:=Lib.hid ha6;have HB6:=Lib.hid hb6;clear ha6 hg6 hb6))
    all_goals
     have H3:Hid ((ps++[(t,p)]).length=m+1):=Lib.hid (by rw [List.length_append,HN.out];rfl)
     have H5:=Lib.hid (HTK2.out p HPV.out)
     go_wp2_with fail
     go_roundw
     case rel=>exact ⟨k+1,m+1,ps++[(t,p)],ao6,c6,by omega,by omega,by go_num,rfl,H3,HA6,H5,HB6⟩
     case measure=>simp [intOf];omega
  ·obtain rfl:k=n:=by omega
   have hall:ps.map (fun p=>(p.1,p.2.v))=dropL l s:=by
    have:=HTK.out
    rw [<-HL.out,List.take_length] at this
    exact this
   have HALL:=Lib.hid hall
   clear hall
   go_wp2_with fail
   try go_ret
   exact ⟨ao,cp,m,ps,rfl,HN.out,HA.out,HALL.out,HB.out⟩
end Go.Proofs.YtldhmfkojaekfaaGreatDoor
