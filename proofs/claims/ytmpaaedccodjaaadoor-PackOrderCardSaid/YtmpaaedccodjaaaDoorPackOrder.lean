/-
  PackOrder's walk. Conditions: Go's two tables of utf8 lie in the world.
-/
import Derived.Test.YtmpaaedccodjaaaDoorOrderLaw2
import Derived.Test.YtmpaaedccodjaaaDoorPack
import Derived.Lib.BytesEntry
namespace Go.Proofs.YtmpaaedccodjaaaDoor
open Go.RowKit Gx
set_option maxRecDepth 100000

theorem out_cells {w : World} {base : Nat} {v : Value} {xs : List Int} (h : Out w base v xs) (hn : 0 < xs.length) : ∃ g c, v = .slice (some ⟨g, 0, none⟩) xs.length c ∧ xs.length ≤ c ∧ ∀ i, i < xs.length → w.cell? ⟨g, 0 + i, none⟩ = some (.int .u8 (xs.getD i 0)) := by
  obtain ⟨g, c, h1, -, h2, -, h3⟩ := own_cell h hn
  refine ⟨g, c, h1, h2, fun i hi => ?_⟩
  rw [Nat.zero_add]
  exact h3 i _ (by simp [List.getD, List.getElem?_eq_getElem hi])
theorem pk_pos (v : V) : 0 < v.pk.length := by rw [pk_eq]; simp
theorem run_cmpBytes (g1 g2 n m c d : Nat) (xs ys : List Int) (w : World) (hx : xs.length = n) (hy : ys.length = m) (h1 : ∀ i, i < n → w.cell? ⟨g1, 0 + i, none⟩ = some (.int .u8 (xs.getD i 0))) (h2 : ∀ i, i < m → w.cell? ⟨g2, 0 + i, none⟩ = some (.int .u8 (ys.getD i 0))) :
    (Extern.BytealgCompare.compare #[.slice (some ⟨g1, 0, none⟩) n c, .slice (some ⟨g2, 0, none⟩) m d]).run Tryd.prog w = .ok (.int .i64 (Lib.compareBytes (Lib.bytesOf xs) (Lib.bytesOf ys))) w := by
  have key : ∀ (g : Nat) (n : Nat) (zs : List Int), zs.length = n → (∀ i, i < n → w.cell? ⟨g, 0 + i, none⟩ = some (.int .u8 (zs.getD i 0))) →
      (Extern.Bytes.loadBytes ⟨g, 0, none⟩ n .empty).run Tryd.prog w = .ok ⟨(Lib.bytesOf zs).toArray⟩ w := by
    intro g n zs hz hc
    have hl := Lib.run_loadBytesX (P := Tryd.prog) w zs ⟨g, 0, none⟩ .empty (fun j x hj => by
      have hjl : j < zs.length := (List.getElem?_eq_some_iff.1 hj).1
      rw [Addr.add_lit, hc j (by omega), List.getD_eq_getElem?_getD, hj]
      rfl)
    rw [hz] at hl
    rw [hl]
    congr 1
    apply ByteArray.ext
    show (#[] : Array UInt8) ++ (Lib.bytesOf zs).toArray = (Lib.bytesOf zs).toArray
    simp
  change Sem.run Tryd.prog (do pure (goInt (Extern.BytealgCompare.cmp (← Extern.Bytes.bytesOf (.slice (some ⟨g1, 0, none⟩) n c)) (← Extern.Bytes.bytesOf (.slice (some ⟨g2, 0, none⟩) m d))))) w = _
  simp only [Extern.Bytes.bytesOf, Sem.run_bind, Sem.run_pure, key g1 n xs hx h1, key g2 m ys hy h2, Result.andThen]
  rw [Lib.cmp_eq]
  rfl
set_option maxHeartbeats 1000000 in
theorem bytesCmp_any (g1 g2 n m c d : Nat) (xs ys : List Int) (o : Int) (w : World) (hx : xs.length = n) (hy : ys.length = m) (h1 : ∀ i, i < n → w.cell? ⟨g1, 0 + i, none⟩ = some (.int .u8 (xs.getD i 0))) (h2 : ∀ i, i < m → w.cell? ⟨g2, 0 + i, none⟩ = some (.int .u8 (ys.getD i 0)))
    (ho : Lib.compareBytes (Lib.bytesOf xs) (Lib.bytesOf ys) = o) :
    Calls Tryd.prog 8 #[.slice (some ⟨g1, 0, none⟩) n c, .slice (some ⟨g2, 0, none⟩) m d] w (CmpPost o w) := by
  have hr : (callFunc 17 #[.slice (some ⟨g1, 0, none⟩) n c, .slice (some ⟨g2, 0, none⟩) m d]).run Tryd.prog w = .ok (.value (.int .i64 o)) w := by
    rw [run_callFunc_extern Tryd.func17 (by kernel_rfl) (by kernel_rfl) (by kernel_rfl) (e := Extern.BytealgCompare.compare) (by kernel_rfl), run_cmpBytes g1 g2 n m c d xs ys w hx hy h1 h2, ho]
    rfl
  clear hx hy h1 h2 ho
  go_enter Tryd.func8, Tryd.ntmps8
  go_wp2
  go_ret
  exact ⟨rfl, rfl⟩
def BoolPost (b : Bool) (w : World) (e : Ending) (w' : World) : Prop := e = .returned (.bool b) ∧ Below w.heap.size w w'
set_option maxHeartbeats 1000000 in
theorem same_any (q p : Loc) (c : Int) (w : World) (h : ∀ W, Below w.heap.size w W → Calls Tryd.prog 9 #[q.val, p.val] W (IntPost c W)) : Calls Tryd.prog 10 #[q.val, p.val] w (BoolPost (c == 0) w) := by
  have HT := Lib.hid (Two.start q p w)
  unfold Loc.val at h ⊢
  have H := Lib.hid h
  clear h
  go_enter Tryd.func10, Tryd.ntmps10
  go_upto_region 1 with fail
  generalize hw2 : World.alloc (World.alloc w _) _ = w2 at HT ⊢
  clear hw2
  obtain ⟨a0, a1, a2, a3, a4, a5⟩ := HT.out.a
  obtain ⟨b0, b1, b2, b3, b4, b5⟩ := HT.out.b
  go_wp2_with fail
  (with_reducible refine (H.out _ HT.out.g).mono ?_)
  rintro e w' ⟨rfl, hb⟩
  have HB := Lib.hid (HT.out.g.trans (hb.mono HT.out.g.size))
  clear hb
  go_wp2_with fail
  try go_ret
  exact ⟨rfl, HB.out⟩

/-- what PackOrder lays -/
structure PO (w : World) (q p : Loc) (W : World) : Prop where
  two : Two w q p W
  hq : VAt W (fun _ => True) q
  hp : VAt W (fun _ => True) p
theorem PO.keep {w : World} {q p : Loc} {W W' : World} (h : PO w q p W) (hb : Below W.heap.size W W') : PO w q p W' := ⟨h.two.keep hb, h.hq.keep hb, h.hp.keep hb⟩
def TruePost' (w : World) (e : Ending) (w' : World) : Prop := e = .returned (.bool true) ∧ Below w.heap.size w w'

set_option maxHeartbeats 16000000 in
theorem packOrder_walk (q p : Loc) (w : World) (hT : Tabs w) (hq : VAt w (fun _ => True) q) (hp : VAt w (fun _ => True) p) : Calls Tryd.prog 3 #[q.val, p.val] w (TruePost' w) := by
  have ht := Two.start q p w
  have HPO := Lib.hid (PO.mk ht (hq.keep (ht.g.mono (Nat.le_refl _))) (hp.keep ht.g))
  have HT := Lib.hid hT
  unfold Loc.val
  clear ht hq hp hT
  go_enter Tryd.func3, Tryd.ntmps3
  go_upto_region 1 with fail
  generalize hw2 : World.alloc (World.alloc w _) _ = w2 at HPO ⊢
  clear hw2
  go_wp2_with fail
  (with_reducible refine (packs_any _ (HT.out.keep HPO.out.two.g)).mono ?_)
  rintro e w3 ⟨rfl, hb3⟩
  have HP3 := Lib.hid (HPO.out.keep hb3)
  clear hb3 HPO
  obtain ⟨a0, a1, a2, a3, a4, a5⟩ := HP3.out.two.a
  have hpk := Pack_any q w3 (HT.out.keep HP3.out.two.g) HP3.out.hq
  simp only [Loc.val] at hpk
  have HPK := Lib.hid hpk
  clear hpk
  go_wp2_with fail
  (with_reducible refine HPK.out.mono ?_)
  rintro e w4 ⟨ao, m, c, rfl, hb4, hno, hyes⟩
  have HP4 := Lib.hid (HP3.out.keep hb4)
  have HN := Lib.hid hno
  have HY := Lib.hid hyes
  clear hb4 hno hyes a0 a1 a2 a3 a4 a5 HPK
  obtain ⟨a0, a1, a2, a3, a4, a5⟩ := HP4.out.two.b
  have hpk := Pack_any p w4 (HT.out.keep HP4.out.two.g) HP4.out.hp
  simp only [Loc.val] at hpk
  have HPK := Lib.hid hpk
  clear hpk
  obtain ⟨r1, hr1⟩ : ∃ r, chkV q.v = r := ⟨_, rfl⟩
  obtain ⟨r2, hr2⟩ : ∃ r, chkV p.v = r := ⟨_, rfl⟩
  rw [hr1] at HY ⊢
  have HR1 := Lib.hid hr1
  have HR2 := Lib.hid hr2
  clear hr1 hr2
  go_wp2_with fail
  (with_reducible refine HPK.out.mono ?_)
  rintro e w5 ⟨bo, m', c', rfl, hb5, -, hyes2⟩
  rw [HR2.out] at hyes2 ⊢
  have HP5 := Lib.hid (HP4.out.keep hb5)
  have HB5 := Lib.hid hb5
  have HY2 := Lib.hid hyes2
  clear hb5 hyes2 a0 a1 a2 a3 a4 a5 HPK
  by_cases h1 : r1 = 0
  rotate_left
  · have t1 : ((r1 : Int) != 0) = true := by simp; omega
    clear h1
    go_wp2_with fail
    try go_ret
    exact ⟨rfl, HP5.out.two.g⟩
  subst h1
  by_cases h2 : r2 = 0
  rotate_left
  · have t1 : ((r2 : Int) != 0) = true := by simp; omega
    clear h2
    rw [show ((0 : Nat) : Int) = 0 from rfl]
    go_wp2_with fail
    try go_ret
    exact ⟨rfl, HP5.out.two.g⟩
  subst h2
  obtain ⟨rfl, ho1⟩ := HY.out rfl
  obtain ⟨rfl, ho2⟩ := HY2.out rfl
  have ho1' := ho1.keep HB5.out
  obtain ⟨g1, x1, e1, hx1, hc1⟩ := out_cells ho1' (pk_pos _)
  obtain ⟨g2, x2, e2, hx2, hc2⟩ := out_cells ho2 (pk_pos _)
  obtain ⟨rfl, -, rfl⟩ : ao = some ⟨g1, 0, none⟩ ∧ True ∧ c = x1 := by simpa using e1
  obtain ⟨rfl, -, rfl⟩ : bo = some ⟨g2, 0, none⟩ ∧ True ∧ c' = x2 := by simpa using e2
  have hd := pk_dif _ q.v p.v (Nat.le_refl _) (chkV_good HR1.out).1 (chkV_good HR2.out).1 HP5.out.hq.wfAll HP5.out.hp.wfAll
  have lt1 : g1 < w5.heap.size := World.block_lt_of_cell? _ _ (hc1 0 (pk_pos _))
  have lt2 : g2 < w5.heap.size := World.block_lt_of_cell? _ _ (hc2 0 (pk_pos _))
  have k1 : ∀ W, Below w5.heap.size w5 W → ∀ i, i < q.v.pk.length → W.cell? ⟨g1, 0 + i, none⟩ = some (.int .u8 (q.v.pk.getD i 0)) := fun W hW i hi => (hW.cell (p := ⟨g1, _, none⟩) lt1).trans (hc1 i hi)
  have k2 : ∀ W, Below w5.heap.size w5 W → ∀ i, i < p.v.pk.length → W.cell? ⟨g2, 0 + i, none⟩ = some (.int .u8 (p.v.pk.getD i 0)) := fun W hW i hi => (hW.cell (p := ⟨g2, _, none⟩) lt2).trans (hc2 i hi)
  obtain ⟨o, ho⟩ : ∃ o, cmpD (SizeOf.sizeOf q.v) q.v p.v = o := ⟨_, rfl⟩
  have hcm : ∀ W, Below w5.heap.size w5 W → Calls Tryd.prog 9 #[.agg #[.int .i64 q.v.k, .int .i64 q.v.n, .int .u64 q.v.f, .string q.v.s, .slice q.ad q.v.l.length q.cap, .slice q.bd q.v.e.length q.dap], .agg #[.int .i64 p.v.k, .int .i64 p.v.n, .int .u64 p.v.f, .string p.v.s, .slice p.ad p.v.l.length p.cap, .slice p.bd p.v.e.length p.dap]] W (IntPost o W) := fun W hW => by
    have := Compare_any _ q p W (Nat.le_refl _) (HP5.out.hq.keep hW) (HP5.out.hp.keep hW)
    rw [ho] at this; exact this
  have hsm : ∀ W, Below w5.heap.size w5 W → Calls Tryd.prog 10 #[.agg #[.int .i64 q.v.k, .int .i64 q.v.n, .int .u64 q.v.f, .string q.v.s, .slice q.ad q.v.l.length q.cap, .slice q.bd q.v.e.length q.dap], .agg #[.int .i64 p.v.k, .int .i64 p.v.n, .int .u64 p.v.f, .string p.v.s, .slice p.ad p.v.l.length p.cap, .slice p.bd p.v.e.length p.dap]] W (BoolPost (o == 0) W) := fun W hW => same_any q p o W (fun W' hW' => hcm W' (hW.trans (hW'.mono hW.size)))
  rw [ho] at hd
  have bcmp : ∀ oo, Lib.compareBytes (Lib.bytesOf q.v.pk) (Lib.bytesOf p.v.pk) = oo → ∀ W, Below w5.heap.size w5 W → Calls Tryd.prog 8 #[.slice (some ⟨g1, 0, none⟩) q.v.pk.length c, .slice (some ⟨g2, 0, none⟩) p.v.pk.length c'] W (CmpPost oo W) := fun oo hoo W hW =>
    bytesCmp_any g1 g2 _ _ c c' q.v.pk p.v.pk oo W rfl rfl (k1 W hW) (k2 W hW) hoo
  have hpf1 : Lib.hasPrefix (Lib.bytesOf q.v.pk) (Lib.bytesOf p.v.pk) = false → ∀ W, Below w5.heap.size w5 W → Calls Tryd.prog 11 #[.slice (some ⟨g1, 0, none⟩) q.v.pk.length c, .slice (some ⟨g2, 0, none⟩) p.v.pk.length c'] W (fun e w' => e = .returned (.bool false) ∧ w' = W) := fun hf W hW => by
    have := Tryd.bytes_HasPrefix_all (some ⟨g1, 0, none⟩) (some ⟨g2, 0, none⟩) _ c _ c' q.v.pk p.v.pk W rfl rfl hx1 (fun _ => ⟨g1, 0, rfl, k1 W hW⟩) (fun _ => ⟨g2, 0, rfl, k2 W hW⟩)
    rwa [hf] at this
  have hpf2 : Lib.hasPrefix (Lib.bytesOf p.v.pk) (Lib.bytesOf q.v.pk) = false → ∀ W, Below w5.heap.size w5 W → Calls Tryd.prog 11 #[.slice (some ⟨g2, 0, none⟩) p.v.pk.length c', .slice (some ⟨g1, 0, none⟩) q.v.pk.length c] W (fun e w' => e = .returned (.bool false) ∧ w' = W) := fun hf W hW => by
    have := Tryd.bytes_HasPrefix_all (some ⟨g2, 0, none⟩) (some ⟨g1, 0, none⟩) _ c' _ c p.v.pk q.v.pk W rfl rfl hx2 (fun _ => ⟨g2, 0, rfl, k2 W hW⟩) (fun _ => ⟨g1, 0, rfl, k1 W hW⟩)
    rwa [hf] at this
  have HCM := Lib.hid hcm
  have hb0 : Below w5.heap.size w5 w5.drew := Gx.drewN_below w5 1 _
  have HB0 := Lib.hid hb0
  have hk5 : SixTwo w5.drew w.heap.size (w.heap.size + 1) q p := (HP5.out.two.keep hb0).cells
  have hkk : ∀ W, Below w5.heap.size w5 W → SixTwo W w.heap.size (w.heap.size + 1) q p := fun W hW => (HP5.out.two.keep hW).cells
  have HKK := Lib.hid hkk
  have HG := Lib.hid HP5.out.two.g
  obtain ⟨n1, hn1⟩ : ∃ n, q.v.pk.length = n := ⟨_, rfl⟩
  obtain ⟨n2, hn2⟩ : ∃ n, p.v.pk.length = n := ⟨_, rfl⟩
  rw [hn1, hn2] at bcmp hpf1
  rw [hn1, hn2] at hpf2
  rw [hn1, hn2]
  clear hcm ho1 ho2 ho1' hc1 hc2 k1 k2 lt1 lt2 hx1 hx2 e1 e2 ho hb0 hkk hn1 hn2
  unfold SixTwo at hk5
  rcases hd with ⟨hvu, rfl⟩ | hd
  · have HBC := Lib.hid (bcmp 0 (by rw [hvu]; exact cmp_refl _))
    have HSM : Hid (∀ W, Below w5.heap.size w5 W → Calls Tryd.prog 10 #[.agg #[.int .i64 q.v.k, .int .i64 q.v.n, .int .u64 q.v.f, .string q.v.s, .slice q.ad q.v.l.length q.cap, .slice q.bd q.v.e.length q.dap], .agg #[.int .i64 p.v.k, .int .i64 p.v.n, .int .u64 p.v.f, .string p.v.s, .slice p.ad p.v.l.length p.cap, .slice p.bd p.v.e.length p.dap]] W (BoolPost true W)) := Lib.hid hsm
    clear bcmp hpf1 hpf2 hvu hsm
    rw [show ((0 : Nat) : Int) = 0 from rfl]
    go_upto_region 7 with fail
    obtain ⟨a0, a1, a2, a3, a4, a5, b0, b1, b2, b3, b4, b5⟩ := hk5
    have hund : undef = Value.tuple #[] := rfl
    first
      | (go_region_law (first
        | (rw [if_neg (show ¬ (_ = some true) from fun h => by cases h)])
        | (go_simp; rw [if_neg (show ¬ (_ = some true) from fun h => by cases h)])
        | (go_simp; go_at_call 8; refine (HBC.out _ HB0.out).mono ?_; rintro e w' ⟨rfl, rfl⟩)
        | (go_simp; go_at_call 8; refine (HBC.out _ HB6.out).mono ?_; rintro e w' ⟨rfl, rfl⟩)
        | (go_simp; go_at_call 9; refine (HCM.out _ HB0.out).mono ?_; rintro e w6 ⟨rfl, hb6⟩; have hb56 := HB0.out.trans (hb6.mono (Nat.le_refl _)); have hk6 := HKK.out _ hb56; unfold SixTwo at hk6; obtain ⟨a6, a7, a8, a9, aa, ab, b6, b7, b8, b9, ba, bb⟩ := hk6; have HB6 := Lib.hid hb56; clear hb6 hb56)
        | (go_simp; go_at_call 10; refine (HSM.out _ HB6.out).mono ?_; rintro e w7 ⟨rfl, hb7⟩; have hb57 := HB6.out.trans (hb7.mono HB6.out.size); have HB7 := Lib.hid hb57; clear hb7 hb57)))
      | fail
    all_goals
      go_wp2_with fail
      try go_ret
      exact ⟨rfl, HG.out.trans (HB7.out.mono HG.out.size)⟩
  · have HBC := Lib.hid (bcmp o hd.cmp)
    have HF1 := Lib.hid (hpf1 hd.prefix.1)
    have HF2 := Lib.hid (hpf2 hd.prefix.2)
    have t9 : (o == 0) = false := by have := hd.ne; simpa using this
    rw [t9] at hsm
    have HSM := Lib.hid hsm
    clear bcmp hpf1 hpf2 hd hsm
    rw [show ((0 : Nat) : Int) = 0 from rfl]
    go_upto_region 7 with fail
    go_region_held3 (fun w' => w'.cell? ⟨w.heap.size, 0, none⟩ = some (.int .i64 q.v.k) ∧ w'.cell? ⟨w.heap.size, 1, none⟩ = some (.int .i64 q.v.n) ∧ w'.cell? ⟨w.heap.size, 2, none⟩ = some (.int .u64 q.v.f) ∧ w'.cell? ⟨w.heap.size, 3, none⟩ = some (.string q.v.s) ∧ w'.cell? ⟨w.heap.size, 4, none⟩ = some (.slice q.ad q.v.l.length q.cap) ∧ w'.cell? ⟨w.heap.size, 5, none⟩ = some (.slice q.bd q.v.e.length q.dap) ∧ w'.cell? ⟨w.heap.size + 1, 0, none⟩ = some (.int .i64 p.v.k) ∧ w'.cell? ⟨w.heap.size + 1, 1, none⟩ = some (.int .i64 p.v.n) ∧ w'.cell? ⟨w.heap.size + 1, 2, none⟩ = some (.int .u64 p.v.f) ∧ w'.cell? ⟨w.heap.size + 1, 3, none⟩ = some (.string p.v.s) ∧ w'.cell? ⟨w.heap.size + 1, 4, none⟩ = some (.slice p.ad p.v.l.length p.cap) ∧ w'.cell? ⟨w.heap.size + 1, 5, none⟩ = some (.slice p.bd p.v.e.length p.dap)) (first | exact hk5 | exact hk6 | exact hk7 | go_keep)
      (first
        | (go_simp; go_at_call 8; refine (HBC.out _ HB0.out).mono ?_; rintro e w' ⟨rfl, rfl⟩)
        | (go_simp; go_at_call 9; refine (HCM.out _ HB0.out).mono ?_; rintro e w6 ⟨rfl, hb6⟩; have hb56 := HB0.out.trans (hb6.mono (Nat.le_refl _)); have hk6 := HKK.out _ hb56; unfold SixTwo at hk6; have HB6 := Lib.hid hb56; clear hb6 hb56)
        | (go_simp; go_at_call 10; refine (HSM.out _ HB6.out).mono ?_; rintro e w7 ⟨rfl, hb7⟩; have hb57 := HB6.out.trans (hb7.mono HB6.out.size); have hk7 := HKK.out _ hb57; unfold SixTwo at hk7; have HB7 := Lib.hid hb57; clear hb7 hb57)
        | (go_simp; go_at_call 11; (with_reducible refine (HF1.out _ HB7.out).mono ?_); rintro e w' ⟨rfl, rfl⟩)
        | (go_simp; go_at_call 11; (with_reducible refine (HF2.out _ HB7.out).mono ?_); rintro e w' ⟨rfl, rfl⟩))
    go_wp2_with fail
    try go_ret
    exact ⟨rfl, HG.out.trans (HB7.out.mono HG.out.size)⟩
end Go.Proofs.YtmpaaedccodjaaaDoor
