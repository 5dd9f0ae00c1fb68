/-
  The contracts of mean's said and of its reader's token. Conditions: the reader lies where the argument says; the library's tables lie in the world.
  The contract of esc.Quote. Conditions: the library's tables lie in the world; the text has at most 10^8 bytes.
  The contracts of esc.Bare and esc.Key. Conditions: the library's tables lie in the world; the text has at most 10^8 bytes.
  The contracts of mean's reader's leaf and key. Conditions: as for token.
  The contract of mean's reader's key. Conditions: as for leaf; what is ahead lies in memory.
  Mean's reader amid a value: its memory; what comes of a call. No conditions.
-/
import Derived.Lib.OthersKept
import Derived.Test.YtldhmfkojaekfaaGreatDoorMeanGoodAllPartQ
set_option linter.unusedVariables false
namespace Go.Proofs.YtldhmfkojaekfaaGreatDoor
open Go.RowKit Gx
set_option maxRecDepth 100000
/-- a fault that is thrown -/
def thrown (a c : Int) : Ending := .panicked [{ v := .iface 57 (.agg #[.int .i64 a, .int .i64 c]), recovered := false }]
def SaidPost (a : Int) (l : List UInt8) (w : World) (e : Ending) (w' : World) : Prop := Below w.heap.size w w' ∧
  ((∃ t : ByteArray, saidOf l = some t ∧ t.size ≤ 4 * l.length ∧ e = .returned (.string t)) ∨ (saidOf l = none ∧ ∃ c : Int, c ≠ 0 ∧ e = thrown a c))
theorem encs_len : ∀ rs : List Int, (encs rs).length ≤ 4 * rs.length
  | [] => Nat.le_refl _
  | r :: rs => by
    have h1 := (enc_len r).2
    have h2 := encs_len rs
    rw [encs_cons, List.length_append, List.length_cons]
    omega
theorem unqF_len : ∀ (f : Nat) (l : List UInt8) (p : List Int × Nat), unqF f l = some p → p.1.length ≤ f
  | 0, l, p, h => by cases l <;> simp [unqF] at h
  | f + 1, [], p, h => by simp [unqF] at h
  | f + 1, b :: t, p, h => by
    have hm : ∀ (r : Int) (n : Nat) (x : Option (List Int × Nat)), (∀ q, x = some q → q.1.length ≤ f) → more r n x = some p → p.1.length ≤ f + 1 := by
      intro r n x hx hp
      unfold more at hp
      obtain ⟨q, hq, rfl⟩ := Option.map_eq_some_iff.1 hp
      have := hx q hq
      simp; omega
    rw [unqF] at h
    split at h
    · rw [← Option.some.inj h]; simp
    · split at h
      · cases h
      · split at h
        · split at h
          · cases h
          · exact hm _ _ _ (fun q hq => unqF_len f _ q hq) h
        · split at h
          · cases h
          · exact hm _ _ _ (fun q hq => unqF_len f _ q hq) h
theorem unq_len {l : List UInt8} {p : List Int × Nat} (h : unquote l = some p) : p.1.length ≤ l.length := by
  unfold unquote at h
  split at h
  · obtain ⟨q, hq, rfl⟩ := Option.map_eq_some_iff.1 h
    exact unqF_len _ _ q hq
  · cases h
set_option maxHeartbeats 2000000 in
theorem said_any (s : ByteArray) (a : Int) (w : World) (hT : ETabs w) (hs : s.size ≤ 140737488351232) : Calls Tryz.prog 76 #[.string s, .int .i64 a] w (SaidPost a s.data.toList w) := by
  have HU := Lib.hid (unquote_any s w hT hs)
  unfold UnqPost at HU
  clear hT hs
  go_enter Tryz.func76, Tryz.ntmps76
  go_wp2_with fail
  (with_reducible refine HU.out.mono ?_)
  rintro e w1 (⟨rs, n, hu, rfl, hb⟩ | ⟨hu, c, hc, rfl, hb⟩)
  · have HR : Hid (SaidPost a s.data.toList w (.returned (.string ⟨(encs rs).toArray⟩)) w1) := Lib.hid ⟨hb, .inl ⟨⟨(encs rs).toArray⟩, by unfold saidOf; rw [hu]; rfl, by
      have h1 := unq_len hu
      have h2 := encs_len rs
      simp only at h1
      show (encs rs).toArray.size ≤ _
      rw [List.size_toArray]; omega, rfl⟩⟩
    clear hu hb HU
    go_wp2_with fail
    try go_ret
    exact HR.out
  · have HR : Hid (SaidPost a s.data.toList w (thrown a c) w1) := Lib.hid ⟨hb, .inr ⟨by unfold saidOf; rw [hu]; rfl, c, hc, rfl⟩⟩
    have t1 : (c != 0) = true := by simpa using hc
    clear hu hb HU hc
    go_wp2_with fail
    exact ⟨rfl, HR.out⟩
/-- a reader of nodes in memory -/
structure MS (w : World) (R : Nat) (ta : Option Addr) (tc : Nat) (S : ByteArray) (X : TS) : Prop where
  obj : w.heap[R]? = some (.cells #[.string S, .slice ta X.T.length tc] 61)
  tok : TokAt w ta X.T
  str : S.data.toList = X.l
theorem MS.keep {w w' : World} {R : Nat} {ta : Option Addr} {tc : Nat} {S : ByteArray} {X : TS} (h : MS w R ta tc S X) (hb : Below w.heap.size w w') : MS w' R ta tc S X :=
  ⟨(hb.block R (Array.getElem?_eq_some_iff.1 h.obj).1).trans h.obj, h.tok.keep hb, h.str⟩
theorem MS.tok3 {w : World} {R : Nat} {ta : Option Addr} {tc : Nat} {S : ByteArray} {X : TS} (h : MS w R ta tc S X) (k : Nat) (hk : k < X.T.length) : ∃ b, ta = some ⟨b, 0, none⟩ ∧ b < w.heap.size ∧
    w.cell? ⟨b, k * 3, none⟩ = some (.int .i64 (X.kind k)) ∧ w.cell? ⟨b, k * 3 + 1, none⟩ = some (.int .i64 (X.pos k)) ∧ w.cell? ⟨b, k * 3 + 2, none⟩ = some (.int .i64 (X.end_ k)) := by
  obtain ⟨b, h1, h2, h3⟩ := h.tok.resolve_left (by rintro e; rw [e] at hk; simp at hk)
  obtain ⟨g1, g2, g3⟩ := tokCells_get X.T k hk
  have e1 : X.kind k = (X.T[k]).1 := by unfold TS.kind; rw [List.getElem?_eq_getElem hk]
  have e2 : X.pos k = (X.T[k]).2.1 := by unfold TS.pos; rw [List.getElem?_eq_getElem hk]
  have e3 : X.end_ k = (X.T[k]).2.2 := by unfold TS.end_; rw [List.getElem?_eq_getElem hk]
  exact ⟨b, h1, h2, by rw [e1]; exact h3 _ _ g1, by rw [e2]; exact h3 _ _ g2, by rw [e3]; exact h3 _ _ g3⟩
theorem three_all {W : World} {b : Nat} {ty : TypeId} {a0 a1 a2 : Value} (h : W.heap[b]? = some (.cells #[a0, a1, a2] ty)) (u0 u1 u2 : Value) :
    ∃ W9, W9 = (((W.setCell ⟨b, 0, none⟩ u0).setCell ⟨b, 1, none⟩ u1).setCell ⟨b, 2, none⟩ u2).drew ∧ W9.heap[b]? = some (.cells #[u0, u1, u2] ty) ∧ ∀ B w, Below B w W → B ≤ b → Below B w W9 := by
  refine ⟨_, rfl, ?_, fun B w hw hB => ?_⟩
  · show (((W.setCell ⟨b, 0, none⟩ u0).setCell ⟨b, 1, none⟩ u1).setCell ⟨b, 2, none⟩ u2).heap[b]? = _
    simp [World.setCell, Array.getElem?_modify, h]
  · have hb : b < W.heap.size := (Array.getElem?_eq_some_iff.1 h).1
    have g := fun (W : World) j u (hw : Below B w W) (hs : B ≤ W.heap.size) => hw.grown (grown_cell W b j u) hs (fun k e => by have := Option.some.inj e; omega)
    refine Below.trans (g _ 2 u2 (g _ 1 u1 (g W 0 u0 hw (by omega)) ?_) ?_) (Gx.drewN_below _ 1 _)
    · simp [World.setCell]; omega
    · simp [World.setCell]; omega
/-- the tokens lie within the text -/
def InX (X : TS) : Prop := ∀ k, k < X.T.length → X.pos k ≤ X.end_ k ∧ X.end_ k ≤ X.l.length
def TokPost (X : TS) (k : Nat) (w : World) (e : Ending) (w' : World) : Prop := Below w.heap.size w w' ∧ ∃ t : ByteArray, t.data.toList = X.bytes k ∧ e = .returned (.tuple #[.string t, .agg #[.int .i64 (X.kind k), .int .i64 (X.pos k), .int .i64 (X.end_ k)]])
set_option maxHeartbeats 4000000 in
theorem token_any (R : Nat) (ta : Option Addr) (tc : Nat) (S : ByteArray) (X : TS) (hX : InX X) (n : Nd) (so : Option Addr) (sn sc : Nat) (w : World) (h : MS w R ta tc S X) (ha : n.a < X.T.length) (hl : X.l.length ≤ 20000) (hT : X.T.length ≤ 20000) :
    Calls Tryz.prog 75 #[.pointer (some ⟨R, 0, none⟩), .agg #[.int .i64 n.k, .int .i64 n.a, .int .i64 n.b, .slice so sn sc]] w (TokPost X n.a w) := by
  obtain ⟨a, hna⟩ : ∃ a, n.a = a := ⟨_, rfl⟩
  rw [hna] at ha ⊢
  obtain ⟨b, rfl, hbl, d0, d1, d2⟩ := h.tok3 a ha
  obtain ⟨i1, i2⟩ := hX a ha
  have hSz : S.size = X.l.length := by rw [Lib.size_eq, h.str]
  have HST : Hid (∀ p e : Nat, p ≤ e → (S.extract p e).data.toList = (X.l.drop p).take (e - p)) := Lib.hid (fun p e hpe => by
    rw [← h.str]; simp [ByteArray.data_extract, List.drop_take])
  have hob := h.obj
  have hRl := (Array.getElem?_eq_some_iff.1 hob).1
  have r0 : (0 : Int) ≤ (a : Int) := by omega
  have r1 : (a : Int) < (X.T.length : Int) := by omega
  have r2 : (a : Int).toNat = a := rfl
  obtain ⟨K, hK⟩ : ∃ K, X.kind a = K := ⟨_, rfl⟩
  obtain ⟨p, hp⟩ : ∃ p, X.pos a = p := ⟨_, rfl⟩
  obtain ⟨e, he⟩ : ∃ e, X.end_ a = e := ⟨_, rfl⟩
  obtain ⟨N, hN⟩ : ∃ N, X.T.length = N := ⟨_, rfl⟩
  have HPOST : Hid (∀ w' (t : ByteArray), Below w.heap.size w w' → t.data.toList = (X.l.drop p).take (e - p) → TokPost X a w (.returned (.tuple #[.string t, .agg #[.int .i64 K, .int .i64 p, .int .i64 e]])) w') := Lib.hid (fun w' t hb ht => ⟨hb, t, by unfold TS.bytes; rw [hp, he]; exact ht, by rw [hK, hp, he]⟩)
  rw [hK] at d0
  rw [hp] at d1 i1
  rw [he] at d2 i1 i2
  rw [hN] at r1 hob
  have q0 : w.cell? ⟨R, 0, none⟩ = some (.string S) := by simp [World.cell?, hob]
  have q1 : w.cell? ⟨R, 1, none⟩ = some (.slice (some ⟨b, 0, none⟩) N tc) := by simp [World.cell?, hob]
  have b0 : (0 : Int) ≤ (p : Int) := by omega
  have b1 : (p : Int) ≤ (e : Int) := by omega
  have b2 : (e : Int) ≤ (S.size : Int) := by omega
  clear hK hp he hN hob h hX hna ha
  go_enter Tryz.func75, Tryz.ntmps75
  go_upto_region 1 with fail
  obtain ⟨w1, hw1⟩ : ∃ w1, w1 = (w.alloc (.cells #[.int .i64 n.k, .int .i64 a, .int .i64 n.b, .slice so sn sc] 53)).alloc (.cells #[.int .i64 0, .int .i64 0, .int .i64 0] 40) := ⟨_, rfl⟩
  have hb1 : Below w.heap.size w w1 := by rw [hw1]; exact ((Below.refl w.heap.size w).alloc (Nat.le_refl _) _).alloc (by simp) _
  have hsz : w1.heap.size = w.heap.size + 1 + 1 := by rw [hw1]; simp
  have hn1 : w1.heap[w.heap.size]? = some (.cells #[.int .i64 n.k, .int .i64 a, .int .i64 n.b, .slice so sn sc] 53) := by rw [hw1]; exact (heap_alloc_old _ _ (by simp)).trans (heap_alloc_new w _)
  have hr1 : w1.heap[w.heap.size + 1]? = some (.cells #[.int .i64 0, .int .i64 0, .int .i64 0] 40) := by
    have := heap_alloc_new (w.alloc (.cells #[.int .i64 n.k, .int .i64 a, .int .i64 n.b, .slice so sn sc] 53)) (.cells #[.int .i64 0, .int .i64 0, .int .i64 0] 40)
    rw [World.size_alloc] at this
    rw [hw1]; exact this
  rw [← hw1]
  have na : w1.cell? ⟨w.heap.size, 1, none⟩ = some (.int .i64 a) := by simp [World.cell?, hn1]
  have q0' := (hb1.cell (p := ⟨R, 0, none⟩) hRl).trans q0
  have q1' := (hb1.cell (p := ⟨R, 1, none⟩) hRl).trans q1
  have d0' := (hb1.cell (p := ⟨b, a * 3, none⟩) hbl).trans d0
  have d1' := (hb1.cell (p := ⟨b, a * 3 + 1, none⟩) hbl).trans d1
  have d2' := (hb1.cell (p := ⟨b, a * 3 + 2, none⟩) hbl).trans d2
  clear hw1 q0 q1 d0 d1 d2
  go_region_held3 (fun w' => w'.cell? ⟨R, 1, none⟩ = some (.slice (some ⟨b, 0, none⟩) N tc) ∧ w'.cell? ⟨w.heap.size, 1, none⟩ = some (.int .i64 a) ∧ w'.cell? ⟨b, a * 3, none⟩ = some (.int .i64 K) ∧ w'.cell? ⟨b, a * 3 + 1, none⟩ = some (.int .i64 p) ∧ w'.cell? ⟨b, a * 3 + 2, none⟩ = some (.int .i64 e)) (first | exact ⟨q1', na, d0', d1', d2'⟩ | go_keep) (fail)
  have HBX : Hid (Below w.heap.size w (w1.alloc (.cells #[.int .i64 K, .int .i64 p, .int .i64 e] 40)).drew) := Lib.hid ((hb1.alloc hb1.size _).trans (Gx.drewN_below _ 1 _))
  have hx1 : (w1.alloc (.cells #[.int .i64 K, .int .i64 p, .int .i64 e] 40)).drew.heap[w.heap.size + 1 + 1]? = some (.cells #[.int .i64 K, .int .i64 p, .int .i64 e] 40) := by rw [← hsz]; exact heap_alloc_new w1 _
  have hx2 : (w1.alloc (.cells #[.int .i64 K, .int .i64 p, .int .i64 e] 40)).drew.heap[w.heap.size + 1]? = some (.cells #[.int .i64 0, .int .i64 0, .int .i64 0] 40) := (heap_alloc_old w1 _ (by omega)).trans hr1
  have hx3 : (w1.alloc (.cells #[.int .i64 K, .int .i64 p, .int .i64 e] 40)).drew.cell? ⟨R, 0, none⟩ = some (.string S) := (World.cell?_alloc_past _ R 0 (by have := hb1.size; omega)).trans q0'
  generalize (w1.alloc (.cells #[.int .i64 K, .int .i64 p, .int .i64 e] 40)).drew = w2 at HBX hx1 hx2 hx3 ⊢
  clear q0' q1' d0' d1' d2' na hn1 hr1 hb1 hsz
  have x0 : w2.cell? ⟨w.heap.size + 1 + 1, 0, none⟩ = some (.int .i64 K) := by simp [World.cell?, hx1]
  have x1 : w2.cell? ⟨w.heap.size + 1 + 1, 1, none⟩ = some (.int .i64 p) := by simp [World.cell?, hx1]
  have x2 : w2.cell? ⟨w.heap.size + 1 + 1, 2, none⟩ = some (.int .i64 e) := by simp [World.cell?, hx1]
  have y0 : w2.cell? ⟨w.heap.size + 1, 0, none⟩ = some (.int .i64 0) := by simp [World.cell?, hx2]
  have y1 : w2.cell? ⟨w.heap.size + 1, 1, none⟩ = some (.int .i64 0) := by simp [World.cell?, hx2]
  have y2 : w2.cell? ⟨w.heap.size + 1, 2, none⟩ = some (.int .i64 0) := by simp [World.cell?, hx2]
  have yf0 : w2.frozen? ⟨w.heap.size + 1, 0, none⟩ = false := by simp [World.frozen?, hx2]
  have yf1 : w2.frozen? ⟨w.heap.size + 1, 1, none⟩ = false := by simp [World.frozen?, hx2]
  have yf2 : w2.frozen? ⟨w.heap.size + 1, 2, none⟩ = false := by simp [World.frozen?, hx2]
  have hne1 : ¬ R = w.heap.size + 1 := by omega
  have hne2 : ¬ w.heap.size + 1 = R := by omega
  clear hx1
  go_upto_region 2 with fail
  go_region_held3 (fun w' => w'.cell? ⟨R, 0, none⟩ = some (.string S) ∧ w'.cell? ⟨w.heap.size + 1 + 1, 0, none⟩ = some (.int .i64 K) ∧ w'.cell? ⟨w.heap.size + 1 + 1, 1, none⟩ = some (.int .i64 p) ∧ w'.cell? ⟨w.heap.size + 1 + 1, 2, none⟩ = some (.int .i64 e)) (first | exact ⟨hx3, x0, x1, x2⟩ | go_keep) (fail)
  obtain ⟨W9, hW9, h9, hb9⟩ := three_all hx2 (.int .i64 K) (.int .i64 p) (.int .i64 e)
  rw [← hW9]
  have HP9 := Lib.hid (HPOST.out W9 (S.extract p e) (hb9 _ _ HBX.out (by omega)) (HST.out p e i1))
  have z0 : W9.cell? ⟨w.heap.size + 1, 0, none⟩ = some (.int .i64 K) := by simp [World.cell?, h9]
  have z1 : W9.cell? ⟨w.heap.size + 1, 1, none⟩ = some (.int .i64 p) := by simp [World.cell?, h9]
  have z2 : W9.cell? ⟨w.heap.size + 1, 2, none⟩ = some (.int .i64 e) := by simp [World.cell?, h9]
  clear hW9 h9 hb9 hx2 hx3 x0 x1 x2 y0 y1 y2 yf0 yf1 yf2 HBX HPOST HST
  go_wp2_with fail
  exact bodyPost_ret (v := .tuple #[.string (S.extract p e), .agg #[.int .i64 K, .int .i64 p, .int .i64 e]]) (by simp [results, Tryz.results75, go_sem, z0, z1, z2]) rfl HP9.out
end Go.Proofs.YtldhmfkojaekfaaGreatDoor
namespace Go.Proofs.YtldhmfkojaekfaaGreatDoor
open Go.RowKit Gx
set_option maxRecDepth 100000
/-- the tables that Quote reads -/
structure QTabs (w : World) : Prop where
  u : Tabs w
  n : NTabs w
theorem QTabs.keep {w w' : World} (h : QTabs w) (hb : Below w.heap.size w w') : QTabs w' := ⟨h.u.keep hb, h.n.keep hb⟩
def StrErr (x : List UInt8) (c : Int) (w : World) (e : Ending) (w' : World) : Prop := e = .returned (.tuple #[.string ⟨x.toArray⟩, .int .i64 c]) ∧ Below w.heap.size w w'
/-- where the text is left: the runes told, those to tell, the iterator, the builder -/
def QI (B I : Nat) (s : ByteArray) (rs a b : List Int) (wr : World) : Prop := rs = a ++ b ∧ YtldhmfkojaekfaaGreatDoor.Bld B ([34] ++ quotes a) wr ∧ wr.heap[I]? = some (.stringIter s (encs a).length)
theorem QI.next {B I : Nat} {s : ByteArray} {rs a b : List Int} {r : Int} {wr w' : World} (h : QI B I s rs a (r :: b) wr) (hb : YtldhmfkojaekfaaGreatDoor.Bld B ([34] ++ quotes (a ++ [r])) w') (hi : w'.heap[I]? = some (.stringIter s (encs (a ++ [r])).length)) : QI B I s rs (a ++ [r]) b w' :=
  ⟨by rw [h.1]; simp, hb, hi⟩

end Go.Proofs.YtldhmfkojaekfaaGreatDoor
namespace Go.Proofs.YtldhmfkojaekfaaGreatDoor
open Go.RowKit Gx
set_option maxRecDepth 100000
def BoolB (b : Bool) (w : World) (e : Ending) (w' : World) : Prop := e = .returned (.bool b) ∧ Below w.heap.size w w'
set_option maxHeartbeats 16000000 in
theorem bare_any (s : ByteArray) (w : World) (hs : s.size ≤ 9223372036854775807) : Calls Tryz.prog 77 #[.string s] w (BoolB (bareOf s.data.toList) w) := by
  have hsl := Lib.size_eq s
  rcases Nat.eq_zero_or_pos s.size with zs | ps
  · obtain rfl := bytes_nil zs
    clear zs hsl
    go_enter Tryz.func77, Tryz.ntmps77
    go_wp2_with fail
    try go_ret
    exact ⟨rfl, Below.refl _ _⟩
  obtain ⟨em1, em2⟩ := bytes_em ps
  by_cases hbig : 100 < s.size
  · have e : bareOf s.data.toList = false := by
      unfold bareOf
      rw [decide_eq_false (show ¬ s.data.toList.length ≤ 100 by omega)]; simp
    have tb : decide ((100 : Int) < (s.size : Int)) = true := decide_eq_true (by omega)
    rw [e]
    clear e hsl hbig
    go_enter Tryz.func77, Tryz.ntmps77
    go_wp2_with fail
    try go_ret
    exact ⟨rfl, Below.refl _ _⟩
  have tb : decide ((100 : Int) < (s.size : Int)) = false := decide_eq_false (by omega)
  have hbo : bareOf s.data.toList = (bareFrom true s.data.toList && !wordB s.data.toList) := by
    unfold bareOf
    rw [decide_eq_true (list_ne ps), decide_eq_true (show s.data.toList.length ≤ 100 by omega)]; simp
  rw [hbo]
  obtain ⟨cap, w2, hconv, -, hsz2, hg, hC⟩ := Gx.conv_bytes_run (P := Tryz.prog) w 9 72 5 s Tryz.underlying9 Tryz.underlying72 Tryz.underlying5
  have hb2 : Below w.heap.size w w2 := Gx.grown_below hg (Nat.le_refl _) (by simp)
  have htl : s.toList = s.data.toList := Lib.toList_data s
  have HDR := Lib.hid (fun k h => drop_cons s k h)
  have HNO := Lib.hid (fun (h : bareFrom true s.data.toList = false) => (show BoolB (bareFrom true s.data.toList && !wordB s.data.toList) w (.returned (.bool false)) w2 from ⟨by rw [h]; rfl, hb2⟩))
  have HWD := Lib.hid (fun (h : bareFrom true s.data.toList = true) b (hw : wordB s.data.toList = !b) => (show BoolB (bareFrom true s.data.toList && !wordB s.data.toList) w (.returned (.bool b)) w2 from ⟨by rw [h, hw]; simp, hb2⟩))
  have hd0 : bareFrom (decide (0 = 0)) (s.data.toList.drop 0) = bareFrom true s.data.toList := by rw [List.drop_zero]; rfl
  generalize BoolB (bareFrom true s.data.toList && !wordB s.data.toList) w = POST at *
  have hword : wordB s.data.toList = ((s.toList == [110, 117, 108, 108]) || (s.toList == [116, 114, 117, 101]) || (s.toList == [102, 97, 108, 115, 101]) || (s.toList == [110, 97, 110]) || (s.toList == [105, 110, 102])) := by rw [htl]; rfl
  generalize wordB s.data.toList = WB at *
  generalize bareFrom true s.data.toList = BF at *
  have HD0 := Lib.hid hd0
  have HC := Lib.hid hC
  have HSL := Lib.hid hsl
  have HWB := Lib.hid hword
  have hend : ∀ (k : Nat) b, k = s.size → bareFrom b (s.data.toList.drop k) = true := by
    intro k b hk
    rw [List.drop_eq_nil_of_le (by omega)]; rfl
  have HEND := Lib.hid hend
  clear hbo htl hd0 hC hsl hword hend hg hsz2 hb2 hbig
  go_enter Tryz.func77, Tryz.ntmps77
  go_wp2_with fail
  clear hconv em1 em2
  go_loop [17] (fun iv => ∃ k : Nat, k ≤ s.size ∧ iv = .int .i64 k ∧ Hid (bareFrom (decide (k = 0)) (s.data.toList.drop k) = BF)) (fun iv => s.size - (intOf iv).toNat)
  case atStart => exact ⟨0, Nat.zero_le _, rfl, HD0.out⟩
  case round =>
    obtain ⟨k, hk, rfl, hq⟩ := hrel
    by_cases hlt : k < s.size
    · have c0 := HC.out k hlt
      have hst := hq.out
      rw [HDR.out k hlt, bareFrom] at hst
      have e1 : s.data[k] = s[k] := rfl
      rw [e1] at c0
      have hx256 := UInt8.toNat_lt s[k]
      obtain ⟨x, hx⟩ : ∃ x : Nat, x = s[k].toNat := ⟨_, rfl⟩
      rw [← hx] at c0 hst hx256
      have hz : Hid (bareFrom false (s.data.toList.drop (k + 1)) = bareFrom (decide (k + 1 = 0)) (s.data.toList.drop (k + 1))) := by
        show _ = _
        rw [decide_eq_false (by omega)]
      clear e1 hx hq
      have hcl : x < 45 ∨ x = 45 ∨ (46 ≤ x ∧ x ≤ 47) ∨ (48 ≤ x ∧ x ≤ 57) ∨ (58 ≤ x ∧ x ≤ 64) ∨ (65 ≤ x ∧ x ≤ 90) ∨ (91 ≤ x ∧ x ≤ 94) ∨ x = 95 ∨ x = 96 ∨ (97 ≤ x ∧ x ≤ 122) ∨ 123 ≤ x := by omega
      rcases hcl with hc | hc | hc | hc | hc | hc | hc | hc | hc | hc | hc
      · have t1 : decide ((97 : Int) ≤ (x : Int)) = false := decide_eq_false (by omega)
        have t3 : decide ((65 : Int) ≤ (x : Int)) = false := decide_eq_false (by omega)
        have t5 : ((x : Int) == 95) = false := by rw [beq_eq_false_iff_ne]; omega
        have t6 : decide ((48 : Int) ≤ (x : Int)) = false := decide_eq_false (by omega)
        have t8 : ((x : Int) == 45) = false := by rw [beq_eq_false_iff_ne]; omega
        have hlet : letterB x = false := by unfold letterB; simp; omega
        have hmor : moreB x = false := by unfold moreB; simp; omega
        rw [hlet, hmor] at hst
        clear hlet hmor hc
        have N := Lib.hid (HNO.out (by rw [← hst]; simp))
        clear hst hz
        go_wp2_with fail
        try go_ret
        exact N.out
      · have t1 : decide ((97 : Int) ≤ (x : Int)) = false := decide_eq_false (by omega)
        have t3 : decide ((65 : Int) ≤ (x : Int)) = false := decide_eq_false (by omega)
        have t5 : ((x : Int) == 95) = false := by rw [beq_eq_false_iff_ne]; omega
        have t6 : decide ((48 : Int) ≤ (x : Int)) = false := decide_eq_false (by omega)
        have t8 : ((x : Int) == 45) = true := by rw [beq_iff_eq]; omega
        have hlet : letterB x = false := by unfold letterB; simp; omega
        have hmor : moreB x = true := by unfold moreB; simp; omega
        rw [hlet, hmor] at hst
        clear hlet hmor hc
        by_cases hk0 : k = 0
        · subst hk0
          have N := Lib.hid (HNO.out (by rw [← hst]; rfl))
          clear hst hz
          go_wp2_with fail
          try go_ret
          exact N.out
        · have hn : Hid (bareFrom (decide (k + 1 = 0)) (s.data.toList.drop (k + 1)) = BF) := by
            show _ = _
            rw [← hz.out]
            rw [decide_eq_false hk0] at hst
            simpa using hst
          have tk : ((k : Int) == 0) = false := by rw [beq_eq_false_iff_ne]; omega
          have tk2 : decide ((k : Int) = 0) = false := decide_eq_false (by omega)
          clear hst hz
          go_wp2_with fail
          go_round
          case rel => exact ⟨k + 1, by omega, by go_num, hn.out⟩
          case measure => simp [intOf]; omega
      · have t1 : decide ((97 : Int) ≤ (x : Int)) = false := decide_eq_false (by omega)
        have t3 : decide ((65 : Int) ≤ (x : Int)) = false := decide_eq_false (by omega)
        have t5 : ((x : Int) == 95) = false := by rw [beq_eq_false_iff_ne]; omega
        have t6 : decide ((48 : Int) ≤ (x : Int)) = false := decide_eq_false (by omega)
        have t8 : ((x : Int) == 45) = false := by rw [beq_eq_false_iff_ne]; omega
        have hlet : letterB x = false := by unfold letterB; simp; omega
        have hmor : moreB x = false := by unfold moreB; simp; omega
        rw [hlet, hmor] at hst
        clear hlet hmor hc
        have N := Lib.hid (HNO.out (by rw [← hst]; simp))
        clear hst hz
        go_wp2_with fail
        try go_ret
        exact N.out
      · have t1 : decide ((97 : Int) ≤ (x : Int)) = false := decide_eq_false (by omega)
        have t3 : decide ((65 : Int) ≤ (x : Int)) = false := decide_eq_false (by omega)
        have t5 : ((x : Int) == 95) = false := by rw [beq_eq_false_iff_ne]; omega
        have t6 : decide ((48 : Int) ≤ (x : Int)) = true := decide_eq_true (by omega)
        have t7 : decide ((x : Int) ≤ 57) = true := decide_eq_true (by omega)
        have hlet : letterB x = false := by unfold letterB; simp; omega
        have hmor : moreB x = true := by unfold moreB; simp; omega
        rw [hlet, hmor] at hst
        clear hlet hmor hc
        by_cases hk0 : k = 0
        · subst hk0
          have N := Lib.hid (HNO.out (by rw [← hst]; rfl))
          clear hst hz
          go_wp2_with fail
          try go_ret
          exact N.out
        · have hn : Hid (bareFrom (decide (k + 1 = 0)) (s.data.toList.drop (k + 1)) = BF) := by
            show _ = _
            rw [← hz.out]
            rw [decide_eq_false hk0] at hst
            simpa using hst
          have tk : ((k : Int) == 0) = false := by rw [beq_eq_false_iff_ne]; omega
          have tk2 : decide ((k : Int) = 0) = false := decide_eq_false (by omega)
          clear hst hz
          go_wp2_with fail
          go_round
          case rel => exact ⟨k + 1, by omega, by go_num, hn.out⟩
          case measure => simp [intOf]; omega
      · have t1 : decide ((97 : Int) ≤ (x : Int)) = false := decide_eq_false (by omega)
        have t3 : decide ((65 : Int) ≤ (x : Int)) = false := decide_eq_false (by omega)
        have t5 : ((x : Int) == 95) = false := by rw [beq_eq_false_iff_ne]; omega
        have t6 : decide ((48 : Int) ≤ (x : Int)) = true := decide_eq_true (by omega)
        have t7 : decide ((x : Int) ≤ 57) = false := decide_eq_false (by omega)
        have t8 : ((x : Int) == 45) = false := by rw [beq_eq_false_iff_ne]; omega
        have hlet : letterB x = false := by unfold letterB; simp; omega
        have hmor : moreB x = false := by unfold moreB; simp; omega
        rw [hlet, hmor] at hst
        clear hlet hmor hc
        have N := Lib.hid (HNO.out (by rw [← hst]; simp))
        clear hst hz
        go_wp2_with fail
        try go_ret
        exact N.out
      · have t1 : decide ((97 : Int) ≤ (x : Int)) = false := decide_eq_false (by omega)
        have t3 : decide ((65 : Int) ≤ (x : Int)) = true := decide_eq_true (by omega)
        have t4 : decide ((x : Int) ≤ 90) = true := decide_eq_true (by omega)
        have t6 : decide ((48 : Int) ≤ (x : Int)) = true := decide_eq_true (by omega)
        have t7 : decide ((x : Int) ≤ 57) = false := decide_eq_false (by omega)
        have t8 : ((x : Int) == 45) = false := by rw [beq_eq_false_iff_ne]; omega
        have hlet : letterB x = true := by unfold letterB; simp; omega
        have hmor : moreB x = false := by unfold moreB; simp; omega
        rw [hlet, hmor] at hst
        clear hlet hmor hc
        have hn : Hid (bareFrom (decide (k + 1 = 0)) (s.data.toList.drop (k + 1)) = BF) := by
          show _ = _
          rw [← hz.out]; simpa using hst
        clear hst hz
        go_wp2_with fail
        go_round
        case rel => exact ⟨k + 1, by omega, by go_num, hn.out⟩
        case measure => simp [intOf]; omega
      · have t1 : decide ((97 : Int) ≤ (x : Int)) = false := decide_eq_false (by omega)
        have t3 : decide ((65 : Int) ≤ (x : Int)) = true := decide_eq_true (by omega)
        have t4 : decide ((x : Int) ≤ 90) = false := decide_eq_false (by omega)
        have t5 : ((x : Int) == 95) = false := by rw [beq_eq_false_iff_ne]; omega
        have t6 : decide ((48 : Int) ≤ (x : Int)) = true := decide_eq_true (by omega)
        have t7 : decide ((x : Int) ≤ 57) = false := decide_eq_false (by omega)
        have t8 : ((x : Int) == 45) = false := by rw [beq_eq_false_iff_ne]; omega
        have hlet : letterB x = false := by unfold letterB; simp; omega
        have hmor : moreB x = false := by unfold moreB; simp; omega
        rw [hlet, hmor] at hst
        clear hlet hmor hc
        have N := Lib.hid (HNO.out (by rw [← hst]; simp))
        clear hst hz
        go_wp2_with fail
        try go_ret
        exact N.out
      · have t1 : decide ((97 : Int) ≤ (x : Int)) = false := decide_eq_false (by omega)
        have t3 : decide ((65 : Int) ≤ (x : Int)) = true := decide_eq_true (by omega)
        have t4 : decide ((x : Int) ≤ 90) = false := decide_eq_false (by omega)
        have t5 : ((x : Int) == 95) = true := by rw [beq_iff_eq]; omega
        have t6 : decide ((48 : Int) ≤ (x : Int)) = true := decide_eq_true (by omega)
        have t7 : decide ((x : Int) ≤ 57) = false := decide_eq_false (by omega)
        have t8 : ((x : Int) == 45) = false := by rw [beq_eq_false_iff_ne]; omega
        have hlet : letterB x = true := by unfold letterB; simp; omega
        have hmor : moreB x = false := by unfold moreB; simp; omega
        rw [hlet, hmor] at hst
        clear hlet hmor hc
        have hn : Hid (bareFrom (decide (k + 1 = 0)) (s.data.toList.drop (k + 1)) = BF) := by
          show _ = _
          rw [← hz.out]; simpa using hst
        clear hst hz
        go_wp2_with fail
        go_round
        case rel => exact ⟨k + 1, by omega, by go_num, hn.out⟩
        case measure => simp [intOf]; omega
      · have t1 : decide ((97 : Int) ≤ (x : Int)) = false := decide_eq_false (by omega)
        have t3 : decide ((65 : Int) ≤ (x : Int)) = true := decide_eq_true (by omega)
        have t4 : decide ((x : Int) ≤ 90) = false := decide_eq_false (by omega)
        have t5 : ((x : Int) == 95) = false := by rw [beq_eq_false_iff_ne]; omega
        have t6 : decide ((48 : Int) ≤ (x : Int)) = true := decide_eq_true (by omega)
        have t7 : decide ((x : Int) ≤ 57) = false := decide_eq_false (by omega)
        have t8 : ((x : Int) == 45) = false := by rw [beq_eq_false_iff_ne]; omega
        have hlet : letterB x = false := by unfold letterB; simp; omega
        have hmor : moreB x = false := by unfold moreB; simp; omega
        rw [hlet, hmor] at hst
        clear hlet hmor hc
        have N := Lib.hid (HNO.out (by rw [← hst]; simp))
        clear hst hz
        go_wp2_with fail
        try go_ret
        exact N.out
      · have t1 : decide ((97 : Int) ≤ (x : Int)) = true := decide_eq_true (by omega)
        have t2 : decide ((x : Int) ≤ 122) = true := decide_eq_true (by omega)
        have t6 : decide ((48 : Int) ≤ (x : Int)) = true := decide_eq_true (by omega)
        have t7 : decide ((x : Int) ≤ 57) = false := decide_eq_false (by omega)
        have t8 : ((x : Int) == 45) = false := by rw [beq_eq_false_iff_ne]; omega
        have hlet : letterB x = true := by unfold letterB; simp; omega
        have hmor : moreB x = false := by unfold moreB; simp; omega
        rw [hlet, hmor] at hst
        clear hlet hmor hc
        have hn : Hid (bareFrom (decide (k + 1 = 0)) (s.data.toList.drop (k + 1)) = BF) := by
          show _ = _
          rw [← hz.out]; simpa using hst
        clear hst hz
        go_wp2_with fail
        go_round
        case rel => exact ⟨k + 1, by omega, by go_num, hn.out⟩
        case measure => simp [intOf]; omega
      · have t1 : decide ((97 : Int) ≤ (x : Int)) = true := decide_eq_true (by omega)
        have t2 : decide ((x : Int) ≤ 122) = false := decide_eq_false (by omega)
        have t3 : decide ((65 : Int) ≤ (x : Int)) = true := decide_eq_true (by omega)
        have t4 : decide ((x : Int) ≤ 90) = false := decide_eq_false (by omega)
        have t5 : ((x : Int) == 95) = false := by rw [beq_eq_false_iff_ne]; omega
        have t6 : decide ((48 : Int) ≤ (x : Int)) = true := decide_eq_true (by omega)
        have t7 : decide ((x : Int) ≤ 57) = false := decide_eq_false (by omega)
        have t8 : ((x : Int) == 45) = false := by rw [beq_eq_false_iff_ne]; omega
        have hlet : letterB x = false := by unfold letterB; simp; omega
        have hmor : moreB x = false := by unfold moreB; simp; omega
        rw [hlet, hmor] at hst
        clear hlet hmor hc
        have N := Lib.hid (HNO.out (by rw [← hst]; simp))
        clear hst hz
        go_wp2_with fail
        try go_ret
        exact N.out
    · have hbf : BF = true := by rw [← hq.out]; exact HEND.out k _ (by omega)
      have HW2 := Lib.hid (HWD.out hbf)
      clear hq hbf
      have hwb := HWB.out
      cases c0 : (s.toList == [110, 117, 108, 108]) with
      | true =>
        have N := Lib.hid (HW2.out false (by rw [hwb, c0]; simp))
        clear hwb
        go_wp2_with fail
        try go_ret
        exact N.out
      | false =>
        cases c1 : (s.toList == [116, 114, 117, 101]) with
        | true =>
          have N := Lib.hid (HW2.out false (by rw [hwb, c0, c1]; simp))
          clear hwb
          go_wp2_with fail
          try go_ret
          exact N.out
        | false =>
          cases c2 : (s.toList == [102, 97, 108, 115, 101]) with
          | true =>
            have N := Lib.hid (HW2.out false (by rw [hwb, c0, c1, c2]; simp))
            clear hwb
            go_wp2_with fail
            try go_ret
            exact N.out
          | false =>
            cases c3 : (s.toList == [110, 97, 110]) with
            | true =>
              have N := Lib.hid (HW2.out false (by rw [hwb, c0, c1, c2, c3]; simp))
              clear hwb
              go_wp2_with fail
              try go_ret
              exact N.out
            | false =>
              cases c4 : (s.toList == [105, 110, 102]) with
              | true =>
                have N := Lib.hid (HW2.out false (by rw [hwb, c0, c1, c2, c3, c4]; simp))
                clear hwb
                go_wp2_with fail
                try go_ret
                exact N.out
              | false =>
                have N := Lib.hid (HW2.out true (by rw [hwb, c0, c1, c2, c3, c4]; rfl))
                clear hwb
                go_wp2_with fail
                try go_ret
                exact N.out

end Go.Proofs.YtldhmfkojaekfaaGreatDoor
namespace Go.Proofs.YtldhmfkojaekfaaGreatDoor
open Go.RowKit Gx
set_option maxRecDepth 100000
/-- what comes of a node: a value in new memory, or a fault that is thrown -/
def Out (w : World) (r : Except Flt V) (e : Ending) (w' : World) : Prop := Below w.heap.size w w' ∧
  ((∃ q : Loc, r = .ok q.v ∧ e = .returned q.val ∧ VAt w' (fun b => w.heap.size ≤ b) q) ∨ (∃ (f : Flt) (c : Int), r = .error f ∧ c ≠ 0 ∧ (f.2 = true → c = 6) ∧ e = thrown f.1 c))
theorem vat_bare {w : World} {B : Nat → Prop} {k n f : Int} {s : ByteArray} (h : (V.mk k n f s [] []).wf) : VAt w B ⟨.mk k n f s [] [], none, 0, none, 0⟩ := ⟨h, .nil _ _ _, .nil _ _ _⟩
theorem wf_text {s : ByteArray} (h : s.size ≤ 140737488351232) : (V.mk 4 0 0 s [] []).wf :=
  ⟨show (-9223372036854775808 : Int) ≤ 4 by decide, show (4 : Int) ≤ 9223372036854775807 by decide, show (-9223372036854775808 : Int) ≤ 0 by decide, show (0 : Int) ≤ 9223372036854775807 by decide, show (0 : Int) ≤ 0 by decide, show (0 : Int) ≤ 18446744073709551615 by decide, h⟩
theorem tok_cells {w : World} {b : Nat} {ty : TypeId} {x y z : Value} (h : w.heap[b]? = some (.cells #[x, y, z] ty)) : w.cell? ⟨b, 0, none⟩ = some x ∧ w.cell? ⟨b, 1, none⟩ = some y ∧ w.cell? ⟨b, 2, none⟩ = some z :=
  ⟨by simp [World.cell?, h], by simp [World.cell?, h], by simp [World.cell?, h]⟩
theorem node4 {w : World} {b : Nat} {ty : TypeId} {x y z u : Value} (h : w.heap[b]? = some (.cells #[x, y, z, u] ty)) : w.cell? ⟨b, 0, none⟩ = some x ∧ w.cell? ⟨b, 1, none⟩ = some y ∧ w.cell? ⟨b, 2, none⟩ = some z ∧ w.cell? ⟨b, 3, none⟩ = some u :=
  ⟨by simp [World.cell?, h], by simp [World.cell?, h], by simp [World.cell?, h], by simp [World.cell?, h]⟩
set_option maxHeartbeats 8000000 in
theorem mleaf_any (R : Nat) (ta : Option Addr) (tc : Nat) (S : ByteArray) (X : TS) (hX : InX X) (n : Nd) (so : Option Addr) (sn sc : Nat) (w : World) (h : MS w R ta tc S X) (hE : ETabs w) (ha : n.a < X.T.length) (hl : X.l.length ≤ 20000) (hT : X.T.length ≤ 20000) :
    Calls Tryz.prog 49 #[.pointer (some ⟨R, 0, none⟩), .agg #[.int .i64 n.k, .int .i64 n.a, .int .i64 n.b, .slice so sn sc]] w (Out w (leafN X n.a)) := by
  have hb1 := ((Below.refl w.heap.size w).alloc (Nat.le_refl _) (.cells #[.int .i64 n.k, .int .i64 n.a, .int .i64 n.b, .slice so sn sc] 53)).alloc (by simp) (.cells #[.int .i64 0, .int .i64 0, .int .u64 0, .string ⟨#[]⟩, .slice none 0 0, .slice none 0 0] 26)
  have hn1 : ((w.alloc (.cells #[.int .i64 n.k, .int .i64 n.a, .int .i64 n.b, .slice so sn sc] 53)).alloc (.cells #[.int .i64 0, .int .i64 0, .int .u64 0, .string ⟨#[]⟩, .slice none 0 0, .slice none 0 0] 26)).heap[w.heap.size]? = some (.cells #[.int .i64 n.k, .int .i64 n.a, .int .i64 n.b, .slice so sn sc] 53) := (heap_alloc_old _ _ (by simp)).trans (heap_alloc_new w _)
  have hr1 := heap_alloc_new (w.alloc (.cells #[.int .i64 n.k, .int .i64 n.a, .int .i64 n.b, .slice so sn sc] 53)) (.cells #[.int .i64 0, .int .i64 0, .int .u64 0, .string ⟨#[]⟩, .slice none 0 0, .slice none 0 0] 26)
  rw [World.size_alloc] at hr1
  obtain ⟨a, hna⟩ : ∃ a, n.a = a := ⟨_, rfl⟩
  have HH := Lib.hid (h.keep hb1)
  have HE := Lib.hid (hE.keep hb1)
  have HTK := Lib.hid (token_any R ta tc S X hX n so sn sc _ HH.out ha hl hT)
  have hend : (X.bytes n.a).length ≤ 20000 := by
    have := hX n.a ha
    unfold TS.bytes
    rw [List.length_take, List.length_drop]; omega
  unfold TokPost at HTK
  rw [hna] at HH HE HTK hn1 hb1 hr1 hend ⊢
  clear h hE ha hX
  go_enter Tryz.func49, Tryz.ntmps49
  go_upto_region 1 with fail
  generalize hw1 : World.alloc (World.alloc w _) _ = w1 at hb1 hn1 hr1 HH HE HTK ⊢
  clear hw1
  obtain ⟨c0, c1, c2, c3⟩ := node4 hn1
  have HB1 := Lib.hid hb1
  have HR1 := Lib.hid hr1
  clear hb1 hn1 hr1
  go_wp2_with fail
  (with_reducible refine HTK.out.mono ?_)
  rintro e w2 ⟨hb2, t, ht, rfl⟩
  obtain ⟨K, hK⟩ : ∃ K, X.kind a = K := ⟨_, rfl⟩
  obtain ⟨p, hp⟩ : ∃ p, X.pos a = p := ⟨_, rfl⟩
  obtain ⟨en, hen⟩ : ∃ en, X.end_ a = en := ⟨_, rfl⟩
  have HL1 : Hid (∀ v, leafOf K t.data.toList = some v → leafN X a = .ok v) := Lib.hid (fun v hv => by unfold leafN; rw [hK, ← ht, hv])
  have HL2 : Hid (leafOf K t.data.toList = none → leafN X a = .error (p, false)) := Lib.hid (fun hv => by unfold leafN; rw [hK, hp, ← ht, hv])
  rw [← ht] at hend
  have hts : t.size ≤ 20000 := by rw [Lib.size_eq]; exact hend
  rw [hK, hp, hen]
  have hba := hb2.alloc hb2.size (.cells #[.int .i64 K, .int .i64 p, .int .i64 en] 40)
  have HB2 := Lib.hid (HB1.out.trans (hba.mono HB1.out.size))
  have HR2 : Hid ((w2.alloc (.cells #[.int .i64 K, .int .i64 p, .int .i64 en] 40)).heap[w.heap.size + 1]? = some (.cells #[.int .i64 0, .int .i64 0, .int .u64 0, .string ⟨#[]⟩, .slice none 0 0, .slice none 0 0] 26)) := Lib.hid ((hba.block _ (Array.getElem?_eq_some_iff.1 HR1.out).1).trans HR1.out)
  have hk2 := heap_alloc_new w2 (.cells #[.int .i64 K, .int .i64 p, .int .i64 en] 40)
  have HE2 := Lib.hid (HE.out.keep hba)
  have hlt2 : w.heap.size + 1 < w2.heap.size := Nat.lt_of_lt_of_le (Array.getElem?_eq_some_iff.1 HR1.out).1 hb2.size
  clear hb2 hba HTK c0 c1 c2 c3 HR1 HH HE HB1 hK hp hen ht hend hna
  go_upto_region 2 with fail
  generalize hwx : World.alloc w2 _ = w3 at HB2 HR2 hk2 HE2 ⊢
  clear hwx
  obtain ⟨d0, d1, d2⟩ := tok_cells hk2
  have hkl := (Array.getElem?_eq_some_iff.1 hk2).1
  by_cases h5 : K = 5
  · subst h5
    have HS := Lib.hid (said_any t p w3 HE2.out (by omega))
    unfold SaidPost at HS
    clear hk2
    go_wp2_with fail
    (with_reducible refine HS.out.mono ?_)
    rintro e w4 ⟨hb4, ⟨x, hx, hxl, rfl⟩ | ⟨hx, c, hc, rfl⟩⟩
    · have hr4 := (hb4.block _ (Array.getElem?_eq_some_iff.1 HR2.out).1).trans HR2.out
      have hbw := HB2.out.trans (hb4.mono HB2.out.size)
      obtain ⟨W9, hW9, hr9, -, -, hbw9, -⟩ := six_all hr4 (.int .i64 4) (.int .i64 0) (.int .u64 0) (.string x) (.slice none 0 0) (.slice none 0 0)
      obtain ⟨g0, g1, g2, g3, g4, g5, gf⟩ := six_cells hr4
      have gf0 := gf 0
      have gf1 := gf 1
      have gf2 := gf 2
      have gf3 := gf 3
      have gf4 := gf 4
      have gf5 := gf 5
      obtain ⟨q0, q1, q2, q3, q4, q5, -⟩ := six_cells hr9
      have HW9 := Lib.hid hW9
      have HR : Hid (Out w (leafN X a) (.returned (.agg #[.int .i64 4, .int .i64 0, .int .u64 0, .string x, .slice none 0 0, .slice none 0 0])) W9) := Lib.hid ⟨hbw9 _ _ hbw (by omega), .inl ⟨⟨.mk 4 0 0 x [] [], none, 0, none, 0⟩, HL1.out _ (by unfold leafOf; rw [if_pos rfl, hx]; rfl), rfl, vat_bare (wf_text (by
          have : t.data.toList.length = t.size := (Lib.size_eq t).symm
          omega))⟩⟩
      clear hW9 hr9 hbw9 gf hx hxl hb4 hbw hr4 HS HL1 HL2 HE2 HB2 HR2
      go_wp2_with fail
      rw [← HW9.out]
      exact bodyPost_ret (v := .agg #[.int .i64 4, .int .i64 0, .int .u64 0, .string x, .slice none 0 0, .slice none 0 0]) (by simp [results, Tryz.results49, go_sem, q0, q1, q2, q3, q4, q5]) rfl HR.out
    · unfold thrown
      have HR : Hid (Out w (leafN X a) (thrown p c) w4) := Lib.hid ⟨HB2.out.trans (hb4.mono HB2.out.size), .inr ⟨(p, false), c, HL2.out (by unfold leafOf; rw [if_pos rfl, hx]; rfl), hc, (fun h => by cases h), rfl⟩⟩
      exact ⟨rfl, HR.out⟩
  · have t5 : (K == 5) = false := beq_eq_false_iff_ne.2 h5
    have HW := Lib.hid (word_any t w3)
    unfold WordPost at HW
    clear hk2
    go_wp2_with fail
    (with_reducible refine HW.out.mono ?_)
    rintro e w4 ⟨hb4, ⟨k, m, f, hx, hwf, rfl⟩ | ⟨hx, c, hc, rfl⟩⟩
    · have hba4 := hb4.alloc hb4.size (.cells #[.int .i64 k, .int .i64 m, .int .u64 f, .string ⟨#[]⟩, .slice none 0 0, .slice none 0 0] 26)
      have hv4 := heap_alloc_new w4 (.cells #[.int .i64 k, .int .i64 m, .int .u64 f, .string ⟨#[]⟩, .slice none 0 0, .slice none 0 0] 26)
      have hr4 := (hba4.block _ (Array.getElem?_eq_some_iff.1 HR2.out).1).trans HR2.out
      have hbw := HB2.out.trans (hba4.mono HB2.out.size)
      clear hb4 HW
      go_upto_region 5 with fail
      generalize hwy : World.alloc w4 _ = w5 at hba4 hv4 hr4 hbw ⊢
      clear hwy
      obtain ⟨W9, hW9, hr9, -, -, hbw9, -⟩ := six_all hr4 (.int .i64 k) (.int .i64 m) (.int .u64 f) (.string ⟨#[]⟩) (.slice none 0 0) (.slice none 0 0)
      obtain ⟨g0, g1, g2, g3, g4, g5, gf⟩ := six_cells hr4
      obtain ⟨s0, s1, s2, s3, s4, s5, -⟩ := six_cells hv4
      have gf0 := gf 0
      have gf1 := gf 1
      have gf2 := gf 2
      have gf3 := gf 3
      have gf4 := gf 4
      have gf5 := gf 5
      obtain ⟨q0, q1, q2, q3, q4, q5, -⟩ := six_cells hr9
      have HW9 := Lib.hid hW9
      have HR : Hid (Out w (leafN X a) (.returned (.agg #[.int .i64 k, .int .i64 m, .int .u64 f, .string ⟨#[]⟩, .slice none 0 0, .slice none 0 0])) W9) := Lib.hid ⟨hbw9 _ _ hbw (by omega), .inl ⟨⟨.mk k m f ⟨#[]⟩ [] [], none, 0, none, 0⟩, HL1.out _ (by unfold leafOf; rw [if_neg h5, hx]), rfl, vat_bare hwf⟩⟩
      clear hW9 hr9 hbw9 gf hx hwf hba4 hbw hr4 hv4 HL1 HL2 HE2 HB2 HR2
      go_wp2_with fail
      rw [← HW9.out]
      exact bodyPost_ret (v := .agg #[.int .i64 k, .int .i64 m, .int .u64 f, .string ⟨#[]⟩, .slice none 0 0, .slice none 0 0]) (by simp [results, Tryz.results49, go_sem, q0, q1, q2, q3, q4, q5]) rfl HR.out
    · have hba4 := hb4.alloc hb4.size (.cells #[.int .i64 0, .int .i64 0, .int .u64 0, .string ⟨#[]⟩, .slice none 0 0, .slice none 0 0] 26)
      have hd4 := (hba4.cell (p := ⟨w2.heap.size, 1, none⟩) (by show w2.heap.size < _; exact hkl)).trans d1
      have HR : Hid (∀ w', Below w3.heap.size w3 w' → Out w (leafN X a) (thrown p c) w') := Lib.hid (fun w' hb => ⟨HB2.out.trans (hb.mono HB2.out.size), .inr ⟨(p, false), c, HL2.out (by unfold leafOf; rw [if_neg h5, hx]), hc, (fun h => by cases h), rfl⟩⟩)
      have t1 : (c != 0) = true := by simpa using hc
      have HBA := Lib.hid hba4
      clear hb4 HW hx hba4 d0 d1 d2
      go_upto_region 5 with fail
      generalize hwy : World.alloc w4 _ = w5 at HBA hd4 ⊢
      clear hwy
      go_wp2_with fail
      exact ⟨rfl, HR.out _ HBA.out⟩
end Go.Proofs.YtldhmfkojaekfaaGreatDoor
namespace Go.Proofs.YtldhmfkojaekfaaGreatDoor
open Go.RowKit Gx
set_option maxRecDepth 100000
def KeyPostM (r : Except Flt ByteArray) (w : World) (e : Ending) (w' : World) : Prop := Below w.heap.size w w' ∧
  ((∃ t : ByteArray, r = .ok t ∧ t.size ≤ 80000 ∧ e = .returned (.string t)) ∨ (∃ (f : Flt) (c : Int), r = .error f ∧ c ≠ 0 ∧ (f.2 = true → c = 6) ∧ e = thrown f.1 c))
set_option maxHeartbeats 8000000 in
theorem mkey_any (R : Nat) (ta : Option Addr) (tc : Nat) (S : ByteArray) (X : TS) (hX : InX X) (n : Nd) (so : Option Addr) (sn sc : Nat) (acc : List (ByteArray × V)) (bd : Option Addr) (dap m : Nat) (hacc : acc.length = m) (w : World) (h : MS w R ta tc S X) (hE : ETabs w)
    (hr : RowAt w (fun _ => True) true acc (.slice bd m dap)) (ha : n.a < X.T.length) (hl : X.l.length ≤ 20000) (hT : X.T.length ≤ 20000) :
    Calls Tryz.prog 47 #[.pointer (some ⟨R, 0, none⟩), .agg #[.int .i64 n.k, .int .i64 n.a, .int .i64 n.b, .slice so sn sc], .slice bd m dap] w (KeyPostM (keyN X n.a acc) w) := by
  have hb1 := (Below.refl w.heap.size w).alloc (Nat.le_refl _) (.cells #[.int .i64 n.k, .int .i64 n.a, .int .i64 n.b, .slice so sn sc] 53)
  have hn1 := heap_alloc_new w (.cells #[.int .i64 n.k, .int .i64 n.a, .int .i64 n.b, .slice so sn sc] 53)
  obtain ⟨a, hna⟩ : ∃ a, n.a = a := ⟨_, rfl⟩
  have HH := Lib.hid (h.keep hb1)
  have HE := Lib.hid (hE.keep hb1)
  have HTK := Lib.hid (token_any R ta tc S X hX n so sn sc _ HH.out ha hl hT)
  have hend : (X.bytes n.a).length ≤ 20000 := by
    have := hX n.a ha
    unfold TS.bytes
    rw [List.length_take, List.length_drop]; omega
  unfold TokPost at HTK
  have HACC : Hid (∀ w', w.heap.size ≤ w'.heap.size → Below w.heap.size w w' → RowAt w' (fun _ => True) true acc (.slice bd acc.length dap)) := Lib.hid (fun w' _ hb => by rw [hacc]; exact hr.keep hb)
  have HLEN := Lib.hid hacc
  rw [hna] at HH HE HTK hn1 hb1 hend ⊢
  clear h hE ha hX hacc hr
  go_enter Tryz.func47, Tryz.ntmps47
  go_upto_region 1 with fail
  generalize hw1 : World.alloc w _ = w1 at hb1 hn1 HH HE HTK ⊢
  clear hw1
  obtain ⟨c0, c1, c2, c3⟩ := node4 hn1
  have HB1 := Lib.hid hb1
  clear hb1 hn1
  go_wp2_with fail
  (with_reducible refine HTK.out.mono ?_)
  rintro e w2 ⟨hb2, t, ht, rfl⟩
  obtain ⟨K, hK⟩ : ∃ K, X.kind a = K := ⟨_, rfl⟩
  obtain ⟨p, hp⟩ : ∃ p, X.pos a = p := ⟨_, rfl⟩
  obtain ⟨en, hen⟩ : ∃ en, X.end_ a = en := ⟨_, rfl⟩
  have HOK : Hid (∀ x, keyOf K t.data.toList = some x → ¬ fidx x acc < acc.length → keyN X a acc = .ok x) := Lib.hid (fun v hv hx => by unfold keyN; rw [hK, ← ht, hv]; simp only []; rw [if_neg hx])
  have HTW : Hid (∀ x, keyOf K t.data.toList = some x → fidx x acc < acc.length → keyN X a acc = .error (p, true)) := Lib.hid (fun v hv hx => by unfold keyN; rw [hK, hp, ← ht, hv]; simp only []; rw [if_pos hx])
  have HBD : Hid (keyOf K t.data.toList = none → keyN X a acc = .error (p, false)) := Lib.hid (fun hv => by unfold keyN; rw [hK, hp, ← ht, hv])
  rw [← ht] at hend
  have hts : t.size ≤ 20000 := by rw [Lib.size_eq]; exact hend
  rw [hK, hp, hen]
  have hba := hb2.alloc hb2.size (.cells #[.int .i64 K, .int .i64 p, .int .i64 en] 40)
  have HB2 := Lib.hid (HB1.out.trans (hba.mono HB1.out.size))
  have hk2 := heap_alloc_new w2 (.cells #[.int .i64 K, .int .i64 p, .int .i64 en] 40)
  have HE2 := Lib.hid (HE.out.keep hba)
  have hkl0 := (Array.getElem?_eq_some_iff.1 hk2).1
  clear hb2 hba HTK c0 c1 c2 c3 HH HE HB1 hK hp hen ht hna hkl0
  go_upto_region 2 with fail
  generalize hwx : World.alloc w2 _ = w3 at HB2 hk2 HE2 ⊢
  clear hwx
  obtain ⟨d0, d1, d2⟩ := tok_cells hk2
  have hkl := (Array.getElem?_eq_some_iff.1 hk2).1
  by_cases h5 : K = 5
  · subst h5
    have HS := Lib.hid (said_any t p w3 HE2.out (by omega))
    unfold SaidPost at HS
    clear hk2
    go_wp2_with fail
    (with_reducible refine HS.out.mono ?_)
    rintro e w4 ⟨hb4, ⟨x, hx, hxl, rfl⟩ | ⟨hx, c, hc, rfl⟩⟩
    · have hkey : keyOf 5 t.data.toList = some x := by unfold keyOf; rw [if_pos rfl]; exact hx
      have hxs : x.size ≤ 80000 := by
        have : t.data.toList.length = t.size := (Lib.size_eq t).symm
        omega
      have HB4 := Lib.hid (HB2.out.trans (hb4.mono HB2.out.size))
      have HB4L : Hid (w2.heap.size < w4.heap.size) := Lib.hid (Nat.lt_of_lt_of_le hkl hb4.size)
      have d1q := (hb4.cell (p := ⟨w2.heap.size, 1, none⟩) hkl).trans d1
      clear hb4 hx hxl HS d0 d1 d2 HE2 HBD hend
      have HF := Lib.hid (find_any bd dap acc x w4 (HACC.out _ HB4.out.size HB4.out))
      unfold IdxPostE at HF
      rw [HLEN.out] at HF
      obtain ⟨I, hI⟩ : ∃ I, fidx x acc = I := ⟨_, rfl⟩
      rw [hI] at HF
      by_cases hIm : I < m
      · rw [if_pos hIm] at HF
        have t1 : decide ((0 : Int) ≤ (I : Int)) = true := decide_eq_true (by omega)
        have HR : Hid (∀ w', Below w.heap.size w w' → KeyPostM (keyN X a acc) w (thrown p 6) w') := Lib.hid (fun w' hb => ⟨hb, .inr ⟨(p, true), 6, HTW.out _ hkey (by rw [hI, HLEN.out]; exact hIm), by decide, (fun _ => rfl), rfl⟩⟩)
        clear hkey hI
        go_wp2_with fail
        (with_reducible refine HF.out.mono ?_)
        rintro e w6 ⟨rfl, hb6⟩
        have HB6 := Lib.hid (HB4.out.trans (hb6.mono HB4.out.size))
        have hd6 := (hb6.cell (p := ⟨w2.heap.size, 1, none⟩) (by show w2.heap.size < _; have := HB4L.out; omega)).trans d1q
        clear hb6 HF
        go_wp2_with fail
        exact ⟨rfl, HR.out _ HB6.out⟩
      · rw [if_neg hIm] at HF
        have t1 : decide ((0 : Int) ≤ -1) = false := by decide
        have HR : Hid (∀ w', Below w.heap.size w w' → KeyPostM (keyN X a acc) w (.returned (.string x)) w') := Lib.hid (fun w' hb => ⟨hb, .inl ⟨x, HOK.out _ hkey (by rw [hI, HLEN.out]; exact hIm), hxs, rfl⟩⟩)
        clear hkey hI
        go_wp2_with fail
        (with_reducible refine HF.out.mono ?_)
        rintro e w6 ⟨rfl, hb6⟩
        have HB6 := Lib.hid (HB4.out.trans (hb6.mono HB4.out.size))
        clear hb6 HF
        go_wp2_with fail
        try go_ret
        exact HR.out _ HB6.out
    · unfold thrown
      have HR : Hid (KeyPostM (keyN X a acc) w (thrown p c) w4) := Lib.hid ⟨HB2.out.trans (hb4.mono HB2.out.size), .inr ⟨(p, false), c, HBD.out (by unfold keyOf; rw [if_pos rfl]; exact hx), hc, (fun h => by cases h), rfl⟩⟩
      exact ⟨rfl, HR.out⟩
  · have t5 : (K == 5) = false := beq_eq_false_iff_ne.2 h5
    have HS := Lib.hid (bare_any t w3 (by omega))
    unfold BoolB at HS
    obtain ⟨b, hb⟩ : ∃ b, bareOf t.data.toList = b := ⟨_, rfl⟩
    rw [hb] at HS
    clear hk2
    cases b with
    | true =>
      go_wp2_with fail
      (with_reducible refine HS.out.mono ?_)
      rintro e w4 ⟨rfl, hb4⟩
      have hkey : keyOf K t.data.toList = some t := by unfold keyOf; rw [if_neg h5, if_pos hb]
      have hxs : t.size ≤ 80000 := by omega
      have HB4 := Lib.hid (HB2.out.trans (hb4.mono HB2.out.size))
      have HB4L : Hid (w2.heap.size < w4.heap.size) := Lib.hid (Nat.lt_of_lt_of_le hkl hb4.size)
      have d1q := (hb4.cell (p := ⟨w2.heap.size, 1, none⟩) hkl).trans d1
      clear hb4 hb HS d0 d1 d2 HE2 HBD hend
      have HF := Lib.hid (find_any bd dap acc t w4 (HACC.out _ HB4.out.size HB4.out))
      unfold IdxPostE at HF
      rw [HLEN.out] at HF
      obtain ⟨I, hI⟩ : ∃ I, fidx t acc = I := ⟨_, rfl⟩
      rw [hI] at HF
      by_cases hIm : I < m
      · rw [if_pos hIm] at HF
        have t1 : decide ((0 : Int) ≤ (I : Int)) = true := decide_eq_true (by omega)
        have HR : Hid (∀ w', Below w.heap.size w w' → KeyPostM (keyN X a acc) w (thrown p 6) w') := Lib.hid (fun w' hb => ⟨hb, .inr ⟨(p, true), 6, HTW.out _ hkey (by rw [hI, HLEN.out]; exact hIm), by decide, (fun _ => rfl), rfl⟩⟩)
        clear hkey hI
        go_wp2_with fail
        (with_reducible refine HF.out.mono ?_)
        rintro e w6 ⟨rfl, hb6⟩
        have HB6 := Lib.hid (HB4.out.trans (hb6.mono HB4.out.size))
        have hd6 := (hb6.cell (p := ⟨w2.heap.size, 1, none⟩) (by show w2.heap.size < _; have := HB4L.out; omega)).trans d1q
        clear hb6 HF
        go_wp2_with fail
        exact ⟨rfl, HR.out _ HB6.out⟩
      · rw [if_neg hIm] at HF
        have t1 : decide ((0 : Int) ≤ -1) = false := by decide
        have HR : Hid (∀ w', Below w.heap.size w w' → KeyPostM (keyN X a acc) w (.returned (.string t)) w') := Lib.hid (fun w' hb => ⟨hb, .inl ⟨t, HOK.out _ hkey (by rw [hI, HLEN.out]; exact hIm), hxs, rfl⟩⟩)
        clear hkey hI
        go_wp2_with fail
        (with_reducible refine HF.out.mono ?_)
        rintro e w6 ⟨rfl, hb6⟩
        have HB6 := Lib.hid (HB4.out.trans (hb6.mono HB4.out.size))
        clear hb6 HF
        go_wp2_with fail
        try go_ret
        exact HR.out _ HB6.out
    | false =>
      have HR : Hid (∀ w', Below w.heap.size w w' → KeyPostM (keyN X a acc) w (thrown p 4) w') := Lib.hid (fun w' hbw => ⟨hbw, .inr ⟨(p, false), 4, HBD.out (by unfold keyOf; rw [if_neg h5, if_neg (by rw [hb]; decide)]), by decide, (fun h => by cases h), rfl⟩⟩)
      go_wp2_with fail
      (with_reducible refine HS.out.mono ?_)
      rintro e w4 ⟨rfl, hb4⟩
      have HB4 := Lib.hid (HB2.out.trans (hb4.mono HB2.out.size))
      have d1q := (hb4.cell (p := ⟨w2.heap.size, 1, none⟩) hkl).trans d1
      clear hb4 hb HS d0 d1 d2 HE2 HBD hend
      go_wp2_with fail
      exact ⟨rfl, HR.out _ HB4.out⟩
end Go.Proofs.YtldhmfkojaekfaaGreatDoor
namespace Go.Proofs.YtldhmfkojaekfaaGreatDoor
open Go.RowKit Gx
set_option maxRecDepth 100000
theorem kid_at {w : World} {kids : List Nd} {so : Option Addr} {n sc : Nat} (h : KidsAt w (fun _ => True) kids (.slice so n sc)) (r : Nat) (nd : Nd) (hr : kids[r]? = some nd) :
    ∃ blk, so = some ⟨blk, 0, none⟩ ∧ ∃ ko kc, blk < w.heap.size ∧ w.cell? ⟨blk, r * 4, none⟩ = some (.int .i64 nd.k) ∧ w.cell? ⟨blk, r * 4 + 1, none⟩ = some (.int .i64 nd.a) ∧ w.cell? ⟨blk, r * 4 + 2, none⟩ = some (.int .i64 nd.b) ∧
      w.cell? ⟨blk, r * 4 + 3, none⟩ = some (.slice ko nd.kids.length kc) ∧ KidsAt w (fun _ => True) nd.kids (.slice ko nd.kids.length kc) := by
  cases h with
  | nil => simp at hr
  | row _ sf blk cap hne hB hlt hc hk =>
    obtain ⟨ko, kc, hf⟩ := (hk r nd hr).form
    obtain ⟨c0, c1, c2, c3⟩ := hc r nd hr
    refine ⟨blk, rfl, ko, kc, hlt, c0, c1, c2, by rw [c3, hf], ?_⟩
    rw [← hf]
    exact hk r nd hr
theorem KidsAt.since {w w' : World} {kids : List Nd} {v : Value} (h : KidsAt w (fun _ => True) kids v) (hb : Below w.heap.size w w') : KidsAt w' (fun _ => True) kids v :=
  ((h.weak (C := fun b => b < w.heap.size) (fun b _ hlt => hlt)).grow (row := some w.heap.size) ⟨hb.os, hb.tape, hb.output, hb.size, fun k hk _ => hb.block k hk⟩ (fun b e hb2 => by have := Option.some.inj e; omega)).weak (fun _ _ _ => trivial)
/-- the result's box, the value's -/
structure VB (w : World) (k : Int) (sl se : Value) (W : World) : Prop where
  res : W.heap[w.heap.size + 1]? = some (.cells #[.int .i64 0, .int .i64 0, .int .u64 0, .string ⟨#[]⟩, .slice none 0 0, .slice none 0 0] 26)
  box : W.heap[w.heap.size + 1 + 1]? = some (.cells #[.int .i64 k, .int .i64 0, .int .u64 0, .string ⟨#[]⟩, sl, se] 26)
  g : Below w.heap.size w W
namespace VB
variable {w W W' : World} {k : Int} {sl se : Value}
theorem vlt (h : VB w k sl se W) : w.heap.size + 1 + 1 < W.heap.size := (Array.getElem?_eq_some_iff.1 h.box).1
theorem grow (h : VB w k sl se W) {r : Option Nat} (hg : W.grownBy W' r) (hr : ∀ b, r = some b → w.heap.size + 1 + 1 < b) : VB w k sl se W' := by
  have h1 := h.vlt
  exact ⟨(hg.block _ (by omega) (fun e => by have := hr _ e.symm; omega)).trans h.res, (hg.block _ h1 (fun e => by have := hr _ e.symm; omega)).trans h.box,
    ⟨hg.os.trans h.g.os, hg.tape.trans h.g.tape, hg.output.trans h.g.output, Nat.le_trans h.g.size hg.size, fun i hi => (hg.block i (by omega) (fun e => by have := hr _ e.symm; omega)).trans (h.g.block i hi)⟩⟩
theorem keep (h : VB w k sl se W) (hb : Below W.heap.size W W') : VB w k sl se W' := h.grow (grown_none hb) (fun _ e => absurd e (by simp))
theorem setAll (h : VB w k sl se W) (j : Nat) (u : Value) {sl' se' : Value} (he : #[Value.int .i64 k, .int .i64 0, .int .u64 0, .string ⟨#[]⟩, sl, se].setIfInBounds j u = #[.int .i64 k, .int .i64 0, .int .u64 0, .string ⟨#[]⟩, sl', se']) :
    VB w k sl' se' (W.setCell ⟨w.heap.size + 1 + 1, j, none⟩ u) := by
  have h1 := h.vlt
  exact ⟨((grown_cell W _ j u).block _ (by omega) (fun e => by have := Option.some.inj e; omega)).trans h.res, by rw [six_store h.box j u, he], h.g.setCell (by show w.heap.size ≤ w.heap.size + 1 + 1; omega) u⟩
theorem setL (h : VB w k sl se W) (u : Value) : VB w k u se (W.setCell ⟨w.heap.size + 1 + 1, 4, none⟩ u) := h.setAll 4 u rfl
theorem setE (h : VB w k sl se W) (u : Value) : VB w k sl u (W.setCell ⟨w.heap.size + 1 + 1, 5, none⟩ u) := h.setAll 5 u rfl
theorem cells (h : VB w k sl se W) : W.cell? ⟨w.heap.size + 1 + 1, 0, none⟩ = some (.int .i64 k) ∧ W.cell? ⟨w.heap.size + 1 + 1, 1, none⟩ = some (.int .i64 0) ∧ W.cell? ⟨w.heap.size + 1 + 1, 2, none⟩ = some (.int .u64 0) ∧ W.cell? ⟨w.heap.size + 1 + 1, 3, none⟩ = some (.string ⟨#[]⟩) ∧ W.cell? ⟨w.heap.size + 1 + 1, 4, none⟩ = some sl ∧ W.cell? ⟨w.heap.size + 1 + 1, 5, none⟩ = some se ∧ (∀ j, W.frozen? ⟨w.heap.size + 1 + 1, j, none⟩ = false) := six_cells h.box
end VB
def OkPost (v : V) (w : World) (e : Ending) (w' : World) : Prop := ∃ p : Loc, e = .returned p.val ∧ p.v = v ∧ VAt w' (fun b => w.heap.size ≤ b) p ∧ Below w.heap.size w w'
def ErrPost (f : Flt) (w : World) (e : Ending) (w' : World) : Prop := ∃ c : Int, c ≠ 0 ∧ (f.2 = true → c = 6) ∧ e = thrown f.1 c ∧ Below w.heap.size w w'
/-- what value is asked for, d levels being left -/
def ValM (R : Nat) (ta : Option Addr) (tc : Nat) (S : ByteArray) (X : TS) (d : Nat) : Prop := ∀ (n : Nd) (so : Option Addr) (sc : Nat) (w : World), MS w R ta tc S X → ETabs w → KidsAt w (fun _ => True) n.kids (.slice so n.kids.length sc) → Wn X d n →
  Calls Tryz.prog 26 #[.pointer (some ⟨R, 0, none⟩), .agg #[.int .i64 n.k, .int .i64 n.a, .int .i64 n.b, .slice so n.kids.length sc]] w (Out w (meanN X d n))
/-- what is there at each place and time -/
structure Env (w : World) (R : Nat) (ta : Option Addr) (tc : Nat) (S : ByteArray) (X : TS) (n : Nd) (so : Option Addr) (sc : Nat) : Prop where
  ms : MS w R ta tc S X
  et : ETabs w
  kd : KidsAt w (fun _ => True) n.kids (.slice so n.kids.length sc)
theorem Env.keep {w w' : World} {R : Nat} {ta : Option Addr} {tc : Nat} {S : ByteArray} {X : TS} {n : Nd} {so : Option Addr} {sc : Nat} (h : Env w R ta tc S X n so sc) (hb : Below w.heap.size w w') : Env w' R ta tc S X n so sc := ⟨h.ms.keep hb, h.et.keep hb, h.kd.since hb⟩
/-- the boxes at the start -/
theorem boxes {w : World} {n0 n1 n2 n3 : Value} :
    let w2 := (w.alloc (.cells #[n0, n1, n2, n3] 53)).alloc (.cells #[.int .i64 0, .int .i64 0, .int .u64 0, .string ⟨#[]⟩, .slice none 0 0, .slice none 0 0] 26)
    Below w.heap.size w w2 ∧ w2.heap.size = w.heap.size + 1 + 1 ∧ w2.heap[w.heap.size]? = some (.cells #[n0, n1, n2, n3] 53) ∧ w2.heap[w.heap.size + 1]? = some (.cells #[.int .i64 0, .int .i64 0, .int .u64 0, .string ⟨#[]⟩, .slice none 0 0, .slice none 0 0] 26) := by
  refine ⟨((Below.refl _ w).alloc (Nat.le_refl _) _).alloc (by simp) _, by simp, (heap_alloc_old _ _ (by simp)).trans (heap_alloc_new w _), ?_⟩
  have := heap_alloc_new (w.alloc (.cells #[n0, n1, n2, n3] 53)) (.cells #[.int .i64 0, .int .i64 0, .int .u64 0, .string ⟨#[]⟩, .slice none 0 0, .slice none 0 0] 26)
  rwa [World.size_alloc] at this
theorem drop_at {α : Type} {l : List α} {k : Nat} {x : α} (h : l[k]? = some x) : l.drop k = x :: l.drop (k + 1) := by
  obtain ⟨hk, rfl⟩ := List.getElem?_eq_some_iff.1 h
  exact List.drop_eq_getElem_cons hk
end Go.Proofs.YtldhmfkojaekfaaGreatDoor
