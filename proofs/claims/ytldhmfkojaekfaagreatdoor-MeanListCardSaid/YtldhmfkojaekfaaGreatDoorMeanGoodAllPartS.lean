/-
  The contract of mean's reader's value at a list. Conditions: as for leaf; the kids' contract.
  The contract of mean's reader's value at a table. Conditions: as for leaf; the kids' contract.
  The contract of mean's reader's value. Conditions: the reader lies where the argument says; the library's tables lie in the world; nodes as tree's reader makes them.
  The contracts of val.parts and of the iterator that it hands back. No conditions.
  The contract of val.own: what can be said of a value without its parts. Conditions: Go's two tables of utf8 lie in the world.
  What val.Check answers, plainly. No conditions.
  Plain law: a text's tokens lie within it; a mark is one byte. What a document means, and what goes wrong. No conditions.
  The contracts of mean.Mean's deferred closure: of a frame that returns, and of one that panics with a fault. No conditions.
-/
import Derived.RangeFuncNested
import Derived.RangeFuncBound
import Derived.RangeFuncCalls
import Derived.RangeFuncLeaves
import Derived.Shelf.Abstract
import Derived.Shelf.RegionOpen
import Derived.WalkKit
import Derived.OwnWalkIn
import Derived.TacticsInMore
import Derived.LoopNIn
import Derived.LoopIn
import Derived.Outline
import Derived.Test.YtldhmfkojaekfaaGreatDoorProg
import Derived.WalkLawsBesides
import Derived.Deep.DeepFit
import Derived.Defers
import Derived.Recover
import Derived.Test.YtldhmfkojaekfaaGreatDoorMeanGoodAllPartR
set_option linter.unusedVariables false
theorem Go.alloc_old_gx (w : Go.World) (o : Go.Obj) {r : Nat} (h : r < w.heap.size) : (w.alloc o).heap[r]? = w.heap[r]? := by
  show (w.heap.push o)[r]? = w.heap[r]?
  rw [Array.getElem?_push, if_neg (Nat.ne_of_lt h)]
namespace Go.Proofs.YtldhmfkojaekfaaGreatDoor
open Go.RowKit Gx
set_option maxRecDepth 100000
set_option maxHeartbeats 16000000 in
theorem value_list (R : Nat) (ta : Option Addr) (tc : Nat) (S : ByteArray) (X : TS) (hT : X.T.length ≤ 20000) (d : Nat) (IH : ValM R ta tc S X d) (n : Nd) (hk5 : n.k = 5) (hwn : Wn X (d + 1) n) (so : Option Addr) (sc : Nat) (w : World) (he : Env w R ta tc S X n so sc) :
    Calls Tryz.prog 26 #[.pointer (some ⟨R, 0, none⟩), .agg #[.int .i64 n.k, .int .i64 n.a, .int .i64 n.b, .slice so n.kids.length sc]] w (Out w (meanN X (d + 1) n)) := by
  have hkl := hwn.1
  have hkw : ∀ x ∈ n.kids, Wn X d x := by
    rcases hwn.2 with ⟨-, h⟩ | ⟨h, -⟩ | ⟨h, -⟩
    · exact h
    · omega
    · exact absurd hk5 h
  have HM1 : Hid (∀ l, listN (meanN X d) [] n.kids = .ok l → meanN X (d + 1) n = .ok (listV l)) := Lib.hid (fun l h => by rw [meanN, if_pos hk5, h])
  have HM2 : Hid (∀ e, listN (meanN X d) [] n.kids = .error e → meanN X (d + 1) n = .error e) := Lib.hid (fun l h => by rw [meanN, if_pos hk5, h])
  obtain ⟨hb1, hsz, hn1, hr1⟩ := boxes (w := w) (n0 := .int .i64 5) (n1 := .int .i64 n.a) (n2 := .int .i64 n.b) (n3 := .slice so n.kids.length sc)
  have hbx : VB w 5 (.slice none 0 0) (.slice none 0 0) (((w.alloc (.cells #[.int .i64 5, .int .i64 n.a, .int .i64 n.b, .slice so n.kids.length sc] 53)).alloc (.cells #[.int .i64 0, .int .i64 0, .int .u64 0, .string ⟨#[]⟩, .slice none 0 0, .slice none 0 0] 26)).alloc (.cells #[.int .i64 5, .int .i64 0, .int .u64 0, .string ⟨#[]⟩, .slice none 0 0, .slice none 0 0] 26)) := by
    refine ⟨(alloc_old_gx _ _ (by simp)).trans hr1, ?_, hb1.alloc hb1.size _⟩
    have := heap_alloc_new ((w.alloc (.cells #[.int .i64 5, .int .i64 n.a, .int .i64 n.b, .slice so n.kids.length sc] 53)).alloc (.cells #[.int .i64 0, .int .i64 0, .int .u64 0, .string ⟨#[]⟩, .slice none 0 0, .slice none 0 0] 26)) (.cells #[.int .i64 5, .int .i64 0, .int .u64 0, .string ⟨#[]⟩, .slice none 0 0, .slice none 0 0] 26)
    rwa [hsz] at this
  have hnb : (((w.alloc (.cells #[.int .i64 5, .int .i64 n.a, .int .i64 n.b, .slice so n.kids.length sc] 53)).alloc (.cells #[.int .i64 0, .int .i64 0, .int .u64 0, .string ⟨#[]⟩, .slice none 0 0, .slice none 0 0] 26)).alloc (.cells #[.int .i64 5, .int .i64 0, .int .u64 0, .string ⟨#[]⟩, .slice none 0 0, .slice none 0 0] 26)).heap[w.heap.size]? = some (.cells #[.int .i64 5, .int .i64 n.a, .int .i64 n.b, .slice so n.kids.length sc] 53) := (alloc_old_gx _ _ (by simp; omega)).trans hn1
  obtain ⟨N, hN⟩ : ∃ N, n.kids.length = N := ⟨_, rfl⟩
  have HENV := Lib.hid he
  have HKW := Lib.hid hkw
  rw [hk5]
  rw [hN] at hbx hnb hkl hn1 ⊢
  have HN := Lib.hid hN
  obtain ⟨c0, c1, c2, c3⟩ := node4 hn1
  clear he hkw hk5 hwn hb1 hsz hn1 hr1 hN
  go_enter Tryz.func26, Tryz.ntmps26
  go_upto_region 4 with fail
  generalize hw3 : World.alloc (World.alloc (World.alloc w _) _) _ = w3 at hbx hnb ⊢
  clear hw3 c0 c1 c2 c3
  obtain ⟨c0, c1, c2, c3⟩ := node4 hnb
  have HB3 := Lib.hid hbx
  clear hbx hnb
  go_wp2_with fail
  clear c0 c1 c2 c3
  go_loopw [20] (fun v20 wr => ∃ (k : Nat) (ps : List (ByteArray × Loc)) (vs : List V) (ao : Option Addr) (cp : Nat), k ≤ N ∧ v20 = .int .i64 k ∧ Hid (ps.length = k) ∧ Hid (VB w 5 (.slice ao k cp) (.slice none 0 0) wr) ∧ Hid (Acc wr (w.heap.size + 1 + 1) false 26 (.slice ao k cp) ps) ∧ Hid (∀ p ∈ ps, p.1 = ⟨#[]⟩) ∧ Hid (ps.map (·.2.v) = vs) ∧ Hid (listN (meanN X d) [] n.kids = listN (meanN X d) vs (n.kids.drop k))) (fun v20 _ => N - (intOf v20).toNat)
  case atStart => exact ⟨0, [], [], none, 0, Nat.zero_le _, rfl, Lib.hid rfl, HB3, Lib.hid (Acc.nil _ _ _ _), Lib.hid (fun _ h => absurd h List.not_mem_nil), Lib.hid rfl, Lib.hid rfl⟩
  case round =>
    obtain ⟨k, ps, vs, ao, cp, hk, rfl, HL, HO, HA, HZ, HTK, HLN⟩ := hrel
    clear HB3
    by_cases hlt : k < N
    · obtain ⟨x, hx⟩ : ∃ x, n.kids[k]? = some x := ⟨_, List.getElem?_eq_getElem (by rw [HN.out]; exact hlt)⟩
      have henv := HENV.out.keep HO.out.g
      have hkd := henv.kd
      rw [HN.out] at hkd
      obtain ⟨blk, rfl, ko, kc, hbk, e0, e1, e2, e3, hkk⟩ := kid_at hkd k x hx
      have HXW := Lib.hid (HKW.out x (List.mem_of_getElem? hx))
      have HLE : Hid (∀ f, meanN X d x = .error f → listN (meanN X d) [] n.kids = .error f) := Lib.hid (fun f h => by rw [HLN.out, drop_at hx, listN, h])
      have HLK : Hid (∀ v, meanN X d x = .ok v → listN (meanN X d) [] n.kids = listN (meanN X d) (vs ++ [v]) (n.kids.drop (k + 1))) := Lib.hid (fun v h => by rw [HLN.out, drop_at hx, listN, h])
      have r1 : (0 : Int) ≤ (k : Int) := by omega
      have r2 : (k : Int) < (N : Int) := by omega
      have r4 : (k : Int).toNat = k := rfl
      obtain ⟨xk, hxk⟩ : ∃ xk, x.k = xk := ⟨_, rfl⟩
      obtain ⟨xa, hxa⟩ : ∃ xa, x.a = xa := ⟨_, rfl⟩
      obtain ⟨xb, hxb⟩ : ∃ xb, x.b = xb := ⟨_, rfl⟩
      obtain ⟨xl, hxl⟩ : ∃ xl, x.kids.length = xl := ⟨_, rfl⟩
      have hba := (Below.refl wr.heap.size wr).alloc (Nat.le_refl _) (.cells #[.int .i64 xk, .int .i64 xa, .int .i64 xb, .slice ko xl kc] 53)
      have hob := HO.out.keep hba
      have hab := HA.out.grow (grown_none hba) (fun _ e => absurd e (by simp))
      have hcb := heap_alloc_new wr (.cells #[.int .i64 xk, .int .i64 xa, .int .i64 xb, .slice ko xl kc] 53)
      have hev := henv.keep hba
      have hkn := hkk.since hba
      have hvl := HO.out.vlt
      rw [hxk] at e0
      rw [hxa] at e1
      rw [hxb] at e2
      rw [hxl] at e3
      clear hx hkd hkk hba HO HA henv
      go_upto_region 7 with fail
      generalize hwx : World.alloc wr _ = wx at hob hab hcb hev hkn ⊢
      generalize hyb : wr.heap.size = yb at hcb hvl ⊢
      have HOB := Lib.hid (hab.above)
      have HOd := Lib.hid (hob.keep (Gx.drewN_below wx 1 _))
      have HAd : Hid (Acc wx.drew (w.heap.size + 1 + 1) false 26 (.slice ao k cp) ps) := Lib.hid (hab.grow (r := none) ⟨rfl, rfl, rfl, Nat.le_refl _, fun _ _ _ => rfl⟩ (fun _ e => absurd e (by simp)))
      have hih := IH x ko kc wx.drew ((hev.keep (Gx.drewN_below wx 1 _)).ms) ((hev.keep (Gx.drewN_below wx 1 _)).et) (hkn.since (Gx.drewN_below wx 1 _)) HXW.out
      rw [hxk, hxa, hxb, hxl] at hih
      obtain ⟨f0, f1, f2, f3⟩ := node4 hcb
      obtain ⟨-, -, -, -, k4, -, -⟩ := hob.cells
      have HCd := Lib.hid hih
      have HR : Hid (∀ (f : Flt) (c : Int) w', meanN X d x = .error f → c ≠ 0 → (f.2 = true → c = 6) → Below w.heap.size w w' → Out w (meanN X (d + 1) n) (thrown f.1 c) w') := Lib.hid (fun f c w' hm h1 h2 hb => ⟨hb, .inr ⟨f, c, HM2.out f (HLE.out f hm), h1, h2, rfl⟩⟩)
      clear hwx hyb e0 e1 e2 e3 hob hab hcb hev hkn hih HLE HLN hxk hxa hxb hxl HXW
      go_region_law (first
        | (go_simp; (with_reducible refine HCd.out.mono ?_); rintro e w5 ⟨hb5, ⟨p, hpv, rfl, hp⟩ | ⟨f, c, hm, hc1, hc2, rfl⟩⟩; rotate_left; (have hr := HR.out f c w5 hm hc1 hc2 (HOd.out.g.trans (hb5.mono HOd.out.g.size)); unfold thrown at hr ⊢; go_wp2_with fail; exact ⟨rfl, hr⟩); have ho5 := HOd.out.keep hb5; obtain ⟨-, -, -, -, k5, -, -⟩ := ho5.cells; obtain ⟨-, -, -, -, k5a, -, -⟩ := (ho5.grow (World.grownBy_alloc w5 (.cells #[.int .i64 p.v.k, .int .i64 p.v.n, .int .u64 p.v.f, .string p.v.s, .slice p.ad p.v.l.length p.cap, .slice p.bd p.v.e.length p.dap] 26) none) (fun b e => absurd e (by simp))).cells; have HO5 := Lib.hid ho5; have HA5 := Lib.hid (HAd.out.grow (grown_none hb5) (fun _ e => absurd e (by simp))); have HQ5 := Lib.hid (HAd.out.fresh HOd.out.vlt hp); have HPV := Lib.hid hpv; clear hp hb5 hpv ho5; simp only [Loc.val])
        | (refine step_acc Tryz.underlying23 Tryz.info_val rfl (by decide) rfl (.tmp 25) (.tmp 29) rfl HA5.out HO5.out.vlt (⟨#[]⟩, p) HQ5.out (by show (0 : Nat) ≤ 140737488351232; decide) _ rfl rfl rfl k HL.out (by omega) (by omega) ?_; intro ao6 c6 w6 ha6 hg6; have ho6 := HO5.out.grow hg6 HOB.out; obtain ⟨-, -, -, -, k6, -, kf⟩ := ho6.cells; have kf6 := kf 4; have HO6 := Lib.hid ho6; have HA6 := Lib.hid ha6; clear ha6 hg6 ho6 kf))
      all_goals
        go_wp2_with fail
        obtain ⟨y, hy⟩ : ∃ y : ByteArray × Loc, (⟨#[]⟩, p) = y := ⟨_, rfl⟩
        have hy1 : y.1 = ⟨#[]⟩ := by rw [← hy]
        have hyv : (y.2.v : V) = p.v := by rw [← hy]
        have HLN3 : Hid (listN (meanN X d) [] n.kids = listN (meanN X d) (vs ++ [p.v]) (n.kids.drop (k + 1))) := Lib.hid (HLK.out p.v HPV.out)
        have ho := HO6.out.setL (.slice ao6 (k + 1) c6)
        have ha := HA6.out.grow (grown_cell w6 (w.heap.size + 1 + 1) 4 (.slice ao6 (k + 1) c6)) (fun b e => by have := Option.some.inj e; omega)
        rw [hy] at ha
        have H1 := Lib.hid ho
        have H2 := Lib.hid ha
        have H3 : Hid ((ps ++ [y]).length = k + 1) := Lib.hid (by rw [List.length_append, HL.out]; rfl)
        have H4 : Hid (∀ z ∈ ps ++ [y], z.1 = ⟨#[]⟩) := Lib.hid (fun z hz => by
          rcases List.mem_append.1 hz with hz | hz
          · exact HZ.out z hz
          · obtain rfl : z = y := by simpa using hz
            exact hy1)
        have H5 : Hid ((ps ++ [y]).map (·.2.v) = vs ++ [p.v]) := Lib.hid (by rw [List.map_append, HTK.out, ← hyv]; rfl)
        clear ho ha hy1 hyv hy HO6 HA6 HO5 HA5 HQ5 HPV HOd HAd HLK HR
        go_roundw
        case rel => exact ⟨k + 1, ps ++ [y], vs ++ [p.v], ao6, c6, by omega, by go_num, H3, H1, H2, H4, H5, HLN3⟩
        case measure => simp [intOf]; omega
    · obtain rfl : k = N := by omega
      have hvl : vs.length = k := by rw [← HTK.out, List.length_map, HL.out]
      have hok : meanN X (d + 1) n = .ok (listV vs) := HM1.out vs (by rw [HLN.out, List.drop_of_length_le (by rw [HN.out]; omega)]; rfl)
      have hrow := HA.out.row (xs := lp vs) (by rw [HL.out]; simp [st]; omega) (by
        rw [← HTK.out]
        unfold lp
        rw [List.map_map]
        exact List.map_congr_left (fun p hp => by rw [HZ.out p hp]; rfl))
      have hv : VAt wr (fun b => w.heap.size + 1 + 1 < b) ⟨listV vs, ao, cp, none, 0⟩ := ⟨⟨by show (-9223372036854775808 : Int) ≤ 5; decide, by show (5 : Int) ≤ 9223372036854775807; decide, by show (-9223372036854775808 : Int) ≤ 0; decide, by show (0 : Int) ≤ 9223372036854775807; decide, by show (0 : Int) ≤ 0; decide, by show (0 : Int) ≤ 18446744073709551615; decide, by show (0 : Nat) ≤ 140737488351232; decide⟩, by
          show RowAt wr _ false (lp vs) (.slice ao vs.length cp)
          rw [hvl]; exact hrow, .nil _ _ _⟩
      obtain ⟨a0, a1, a2, a3, a4, a5, -⟩ := HO.out.cells
      obtain ⟨p0, p1, p2, p3, p4, p5, pf⟩ := six_cells HO.out.res
      have pf0 := pf 0
      have pf1 := pf 1
      have pf2 := pf 2
      have pf3 := pf 3
      have pf4 := pf 4
      have pf5 := pf 5
      obtain ⟨W9, hW9, hr9, -, -, hbw, hvw⟩ := six_all HO.out.res (.int .i64 5) (.int .i64 0) (.int .u64 0) (.string ⟨#[]⟩) (.slice ao k cp) (.slice none 0 0)
      obtain ⟨q0, q1, q2, q3, q4, q5, -⟩ := six_cells hr9
      have HW9 := Lib.hid hW9
      have HR : Hid (Out w (meanN X (d + 1) n) (.returned (.agg #[.int .i64 5, .int .i64 0, .int .u64 0, .string ⟨#[]⟩, .slice ao k cp, .slice none 0 0])) W9) := Lib.hid ⟨hbw _ _ HO.out.g (by omega), .inl ⟨⟨listV vs, ao, cp, none, 0⟩, hok, by rw [← hvl]; rfl, (hvw _ _ hv (by omega)).weak (fun b hb _ => by omega)⟩⟩
      clear hW9 hr9 hbw hvw pf hv hrow hok hvl
      go_wp2_with fail
      rw [← HW9.out]
      exact bodyPost_ret (v := .agg #[.int .i64 5, .int .i64 0, .int .u64 0, .string ⟨#[]⟩, .slice ao k cp, .slice none 0 0]) (by simp [results, Tryz.results26, go_sem, q0, q1, q2, q3, q4, q5]) rfl HR.out
end Go.Proofs.YtldhmfkojaekfaaGreatDoor
namespace Go.Proofs.YtldhmfkojaekfaaGreatDoor
open Go.RowKit Gx
set_option maxRecDepth 100000
theorem put_len (l : List (ByteArray × V)) (s : ByteArray) (v : V) : (putL l s v).length ≤ l.length + 1 := by
  have h := drop_le s l
  unfold putL insL
  rw [List.length_append, List.length_cons, List.length_take, List.length_drop]
  omega
set_option maxHeartbeats 16000000 in
theorem value_table (R : Nat) (ta : Option Addr) (tc : Nat) (S : ByteArray) (X : TS) (hX : InX X) (hXl : X.l.length ≤ 20000) (hT : X.T.length ≤ 20000) (d : Nat) (IH : ValM R ta tc S X d) (n : Nd) (hk3 : n.k = 3) (hwn : Wn X (d + 1) n) (so : Option Addr) (sc : Nat) (w : World) (he : Env w R ta tc S X n so sc) :
    Calls Tryz.prog 26 #[.pointer (some ⟨R, 0, none⟩), .agg #[.int .i64 n.k, .int .i64 n.a, .int .i64 n.b, .slice so n.kids.length sc]] w (Out w (meanN X (d + 1) n)) := by
  have hkl := hwn.1
  have hkw : ∀ x ∈ n.kids, ∃ k y, x.kids = [k, y] ∧ k.a < X.T.length ∧ Wn X d y := by
    rcases hwn.2 with ⟨h, -⟩ | ⟨-, h⟩ | ⟨-, h, -⟩
    · omega
    · exact h
    · exact absurd hk3 h
  have HM1 : Hid (∀ l, tableN X (meanN X d) [] n.kids = .ok l → meanN X (d + 1) n = .ok (tableV l)) := Lib.hid (fun l h => by rw [meanN, if_neg (by omega), if_pos hk3, h])
  have HM2 : Hid (∀ e, tableN X (meanN X d) [] n.kids = .error e → meanN X (d + 1) n = .error e) := Lib.hid (fun l h => by rw [meanN, if_neg (by omega), if_pos hk3, h])
  obtain ⟨hb1, hsz, hn1, hr1⟩ := boxes (w := w) (n0 := .int .i64 3) (n1 := .int .i64 n.a) (n2 := .int .i64 n.b) (n3 := .slice so n.kids.length sc)
  have hbx : VB w 6 (.slice none 0 0) (.slice none 0 0) (((w.alloc (.cells #[.int .i64 3, .int .i64 n.a, .int .i64 n.b, .slice so n.kids.length sc] 53)).alloc (.cells #[.int .i64 0, .int .i64 0, .int .u64 0, .string ⟨#[]⟩, .slice none 0 0, .slice none 0 0] 26)).alloc (.cells #[.int .i64 6, .int .i64 0, .int .u64 0, .string ⟨#[]⟩, .slice none 0 0, .slice none 0 0] 26)) := by
    refine ⟨(alloc_old_gx _ _ (by simp)).trans hr1, ?_, hb1.alloc hb1.size _⟩
    have := heap_alloc_new ((w.alloc (.cells #[.int .i64 3, .int .i64 n.a, .int .i64 n.b, .slice so n.kids.length sc] 53)).alloc (.cells #[.int .i64 0, .int .i64 0, .int .u64 0, .string ⟨#[]⟩, .slice none 0 0, .slice none 0 0] 26)) (.cells #[.int .i64 6, .int .i64 0, .int .u64 0, .string ⟨#[]⟩, .slice none 0 0, .slice none 0 0] 26)
    rwa [hsz] at this
  have hnb : (((w.alloc (.cells #[.int .i64 3, .int .i64 n.a, .int .i64 n.b, .slice so n.kids.length sc] 53)).alloc (.cells #[.int .i64 0, .int .i64 0, .int .u64 0, .string ⟨#[]⟩, .slice none 0 0, .slice none 0 0] 26)).alloc (.cells #[.int .i64 6, .int .i64 0, .int .u64 0, .string ⟨#[]⟩, .slice none 0 0, .slice none 0 0] 26)).heap[w.heap.size]? = some (.cells #[.int .i64 3, .int .i64 n.a, .int .i64 n.b, .slice so n.kids.length sc] 53) := (alloc_old_gx _ _ (by simp; omega)).trans hn1
  obtain ⟨N, hN⟩ : ∃ N, n.kids.length = N := ⟨_, rfl⟩
  have HENV := Lib.hid he
  have HKW := Lib.hid hkw
  have HIX := Lib.hid hX
  rw [hk3]
  rw [hN] at hbx hnb hkl hn1 ⊢
  have HN := Lib.hid hN
  obtain ⟨c0, c1, c2, c3⟩ := node4 hn1
  clear he hkw hk3 hwn hb1 hsz hn1 hr1 hN hX
  go_enter Tryz.func26, Tryz.ntmps26
  go_upto_region 12 with fail
  generalize hw3 : World.alloc (World.alloc (World.alloc w _) _) _ = w3 at hbx hnb ⊢
  clear hw3 c0 c1 c2 c3
  obtain ⟨c0, c1, c2, c3⟩ := node4 hnb
  have HB3 := Lib.hid hbx
  clear hbx hnb
  go_wp2_with fail
  clear c0 c1 c2 c3
  go_loopw [40] (fun v40 wr => ∃ (k m : Nat) (acc : List (ByteArray × V)) (bo : Option Addr) (cq : Nat), k ≤ N ∧ m ≤ k ∧ v40 = .int .i64 k ∧ Hid (acc.length = m) ∧ Hid (VB w 6 (.slice none 0 0) (.slice bo m cq) wr) ∧ Hid (RowAt wr (fun b => w.heap.size + 1 + 1 < b) true acc (.slice bo m cq)) ∧ Hid (tableN X (meanN X d) [] n.kids = tableN X (meanN X d) acc (n.kids.drop k))) (fun v40 _ => N - (intOf v40).toNat)
  case atStart => exact ⟨0, 0, [], none, 0, Nat.zero_le _, Nat.le_refl _, rfl, Lib.hid rfl, HB3, Lib.hid (.nil _ _ _), Lib.hid rfl⟩
  case round =>
    obtain ⟨k, m, acc, bo, cq, hk, hmk, rfl, HL, HO, HA, HLN⟩ := hrel
    clear HB3
    by_cases hlt : k < N
    · obtain ⟨x, hx⟩ : ∃ x, n.kids[k]? = some x := ⟨_, List.getElem?_eq_getElem (by rw [HN.out]; exact hlt)⟩
      have henv := HENV.out.keep HO.out.g
      have hkd := henv.kd
      rw [HN.out] at hkd
      obtain ⟨blk, rfl, ko, kc, hbk, e0, e1, e2, e3, hkk⟩ := kid_at hkd k x hx
      obtain ⟨kn, yn, hxy, hka, hyw⟩ := HKW.out x (List.mem_of_getElem? hx)
      have h0 : x.kids.getD 0 Nd.none = kn := by rw [hxy]; rfl
      have h1 : x.kids.getD 1 Nd.none = yn := by rw [hxy]; rfl
      have HTE : Hid (∀ f, keyN X kn.a acc = .error f → tableN X (meanN X d) [] n.kids = .error f) := Lib.hid (fun f h => by rw [HLN.out, drop_at hx, tableN, h0, h])
      have HTF : Hid (∀ s f, keyN X kn.a acc = .ok s → meanN X d yn = .error f → tableN X (meanN X d) [] n.kids = .error f) := Lib.hid (fun s f h g => by rw [HLN.out, drop_at hx, tableN, h0, h]; simp only []; rw [h1, g])
      have HTK : Hid (∀ s v, keyN X kn.a acc = .ok s → meanN X d yn = .ok v → tableN X (meanN X d) [] n.kids = tableN X (meanN X d) (putL acc s v) (n.kids.drop (k + 1))) := Lib.hid (fun s v h g => by rw [HLN.out, drop_at hx, tableN, h0, h]; simp only []; rw [h1, g])
      have hx2 : x.kids.length = 2 := by rw [hxy]; rfl
      rw [hx2] at e3 hkk
      obtain ⟨blk2, rfl, k0o, k0c, hbk2, a0, a1, a2, a3, hkk0⟩ := kid_at hkk 0 kn (by rw [hxy]; rfl)
      obtain ⟨blk3, hb23, k1o, k1c, -, b0, b1, b2, b3, hkk1⟩ := kid_at hkk 1 yn (by rw [hxy]; rfl)
      obtain rfl : blk2 = blk3 := by have := Option.some.inj hb23; exact congrArg Addr.block this
      have r1 : (0 : Int) ≤ (k : Int) := by omega
      have r2 : (k : Int) < (N : Int) := by omega
      have r4 : (k : Int).toNat = k := rfl
      obtain ⟨xk, hxk⟩ : ∃ xk, x.k = xk := ⟨_, rfl⟩
      obtain ⟨xa, hxa⟩ : ∃ xa, x.a = xa := ⟨_, rfl⟩
      obtain ⟨xb, hxb⟩ : ∃ xb, x.b = xb := ⟨_, rfl⟩
      rw [hxk] at e0
      rw [hxa] at e1
      rw [hxb] at e2
      clear hxk hxa hxb
      have hba := (Below.refl wr.heap.size wr).alloc (Nat.le_refl _) (.cells #[.int .i64 xk, .int .i64 xa, .int .i64 xb, .slice (some ⟨blk2, 0, none⟩) 2 kc] 53)
      have hob := HO.out.keep hba
      have hab := HA.out.keep hba
      have hcb := heap_alloc_new wr (.cells #[.int .i64 xk, .int .i64 xa, .int .i64 xb, .slice (some ⟨blk2, 0, none⟩) 2 kc] 53)
      have hev := henv.keep hba
      have hkn0 := hkk0.since hba
      have hkn1 := hkk1.since hba
      have a0' : (wr.alloc (.cells #[.int .i64 xk, .int .i64 xa, .int .i64 xb, .slice (some ⟨blk2, 0, none⟩) 2 kc] 53)).cell? ⟨blk2, 0, none⟩ = some (.int .i64 kn.k) := (hba.cell (p := ⟨blk2, 0, none⟩) hbk2).trans a0
      have a1' : (wr.alloc (.cells #[.int .i64 xk, .int .i64 xa, .int .i64 xb, .slice (some ⟨blk2, 0, none⟩) 2 kc] 53)).cell? ⟨blk2, 1, none⟩ = some (.int .i64 kn.a) := (hba.cell (p := ⟨blk2, 1, none⟩) hbk2).trans a1
      have a2' : (wr.alloc (.cells #[.int .i64 xk, .int .i64 xa, .int .i64 xb, .slice (some ⟨blk2, 0, none⟩) 2 kc] 53)).cell? ⟨blk2, 2, none⟩ = some (.int .i64 kn.b) := (hba.cell (p := ⟨blk2, 2, none⟩) hbk2).trans a2
      have a3' : (wr.alloc (.cells #[.int .i64 xk, .int .i64 xa, .int .i64 xb, .slice (some ⟨blk2, 0, none⟩) 2 kc] 53)).cell? ⟨blk2, 3, none⟩ = some (.slice k0o kn.kids.length k0c) := (hba.cell (p := ⟨blk2, 3, none⟩) hbk2).trans a3
      have b0' : (wr.alloc (.cells #[.int .i64 xk, .int .i64 xa, .int .i64 xb, .slice (some ⟨blk2, 0, none⟩) 2 kc] 53)).cell? ⟨blk2, 4, none⟩ = some (.int .i64 yn.k) := (hba.cell (p := ⟨blk2, 4, none⟩) hbk2).trans b0
      have b1' : (wr.alloc (.cells #[.int .i64 xk, .int .i64 xa, .int .i64 xb, .slice (some ⟨blk2, 0, none⟩) 2 kc] 53)).cell? ⟨blk2, 5, none⟩ = some (.int .i64 yn.a) := (hba.cell (p := ⟨blk2, 5, none⟩) hbk2).trans b1
      have b2' : (wr.alloc (.cells #[.int .i64 xk, .int .i64 xa, .int .i64 xb, .slice (some ⟨blk2, 0, none⟩) 2 kc] 53)).cell? ⟨blk2, 6, none⟩ = some (.int .i64 yn.b) := (hba.cell (p := ⟨blk2, 6, none⟩) hbk2).trans b2
      have b3' : (wr.alloc (.cells #[.int .i64 xk, .int .i64 xa, .int .i64 xb, .slice (some ⟨blk2, 0, none⟩) 2 kc] 53)).cell? ⟨blk2, 7, none⟩ = some (.slice k1o yn.kids.length k1c) := (hba.cell (p := ⟨blk2, 7, none⟩) hbk2).trans b3
      have hbk2' := Nat.lt_of_lt_of_le hbk2 hba.size
      have hvl := HO.out.vlt
      have hyl : wr.heap.size < (wr.alloc (.cells #[.int .i64 xk, .int .i64 xa, .int .i64 xb, .slice (some ⟨blk2, 0, none⟩) 2 kc] 53)).heap.size := by simp
      clear hx hkd hkk hkk0 hkk1 hba HO HA henv a0 a1 a2 a3 b0 b1 b2 b3 h0 h1 hxy hx2 hb23 hbk hbk2
      go_upto_region 15 with fail
      generalize hwx : World.alloc wr _ = wx at hob hab hcb hev hkn0 hkn1 a0' a1' a2' a3' b0' b1' b2' b3' hbk2' hyl ⊢
      generalize hyb : wr.heap.size = yb at hcb hvl hyl ⊢
      obtain ⟨f0, f1, f2, f3⟩ := node4 hcb
      obtain ⟨-, -, -, -, -, k5, -⟩ := hob.cells
      have hevd := hev.keep (Gx.drewN_below wx 1 _)
      have hky := mkey_any R ta tc S X HIX.out kn k0o kn.kids.length k0c acc bo cq m HL.out wx.drew hevd.ms hevd.et ((hab.weak (fun _ _ _ => trivial)).keep (Gx.drewN_below wx 1 _)) hka hXl hT
      obtain ⟨ka, hkae⟩ : ∃ ka, kn.a = ka := ⟨_, rfl⟩
      obtain ⟨kk, hkke⟩ : ∃ kk, kn.k = kk := ⟨_, rfl⟩
      obtain ⟨kb, hkbe⟩ : ∃ kb, kn.b = kb := ⟨_, rfl⟩
      obtain ⟨kz, hkze⟩ : ∃ kz, kn.kids.length = kz := ⟨_, rfl⟩
      rw [hkae, hkke, hkbe, hkze] at hky
      rw [hkae] at a1' HTE HTF HTK
      rw [hkke] at a0'
      rw [hkbe] at a2'
      rw [hkze] at a3'
      unfold KeyPostM at hky
      have HKY := Lib.hid hky
      have HOx := Lib.hid hob
      have HAx := Lib.hid hab
      have HEx := Lib.hid hev
      have HK1 := Lib.hid hkn1
      have HOd : Hid (Below w.heap.size w wx.drew) := Lib.hid (hob.g.trans (Gx.drewN_below wx 1 _))
      have HRE : Hid (∀ (f : Flt) (c : Int) w', tableN X (meanN X d) [] n.kids = .error f → c ≠ 0 → (f.2 = true → c = 6) → Below w.heap.size w w' → Out w (meanN X (d + 1) n) (thrown f.1 c) w') := Lib.hid (fun f c w' hm h1 h2 hb => ⟨hb, .inr ⟨f, c, HM2.out f hm, h1, h2, rfl⟩⟩)
      clear hwx hyb hob hab hcb hev hkn0 hkn1 hky hevd hka hkae hkke hkbe hkze e0 e1 e2 e3 HLN
      go_region_law (go_simp; (with_reducible refine HKY.out.mono ?_); rintro e w5 ⟨hb5, ⟨t, hkt, hts, rfl⟩ | ⟨f, c, hm, hc1, hc2, rfl⟩⟩; rotate_left; (have hr := HRE.out f c w5 (HTE.out f hm) hc1 hc2 (HOd.out.trans (hb5.mono HOd.out.size)); unfold thrown at hr ⊢; go_wp2_with fail; exact ⟨rfl, hr⟩))
      all_goals
        have hbx5 : Below wx.heap.size wx w5 := (Gx.drewN_below wx 1 _).trans (hb5.mono (Nat.le_refl _))
        have hob := HOx.out.keep hbx5
        have hab := HAx.out.keep hbx5
        have hev := HEx.out.keep hbx5
        have hkn1 := HK1.out.since hbx5
        have g3 := (hbx5.cell (p := ⟨yb, 3, none⟩) hyl).trans f3
        have b0'' := (hbx5.cell (p := ⟨blk2, 4, none⟩) hbk2').trans b0'
        have b1'' := (hbx5.cell (p := ⟨blk2, 5, none⟩) hbk2').trans b1'
        have b2'' := (hbx5.cell (p := ⟨blk2, 6, none⟩) hbk2').trans b2'
        have b3'' := (hbx5.cell (p := ⟨blk2, 7, none⟩) hbk2').trans b3'
        have HKT := Lib.hid hkt
        clear a0' a1' a2' a3' b0' b1' b2' b3' f0 f1 f2 f3 k5 hb5 hbx5 HKY HOx HAx HEx HK1 HOd hkt HTE
        obtain ⟨-, -, -, -, -, k5, -⟩ := hob.cells
        have hevd := hev.keep (Gx.drewN_below w5 1 _)
        have hih := IH yn k1o k1c w5.drew hevd.ms hevd.et (hkn1.since (Gx.drewN_below w5 1 _)) hyw
        obtain ⟨ya, hyae⟩ : ∃ ya, yn.a = ya := ⟨_, rfl⟩
        obtain ⟨yk, hyke⟩ : ∃ yk, yn.k = yk := ⟨_, rfl⟩
        obtain ⟨yc, hybe⟩ : ∃ yc, yn.b = yc := ⟨_, rfl⟩
        obtain ⟨yz, hyze⟩ : ∃ yz, yn.kids.length = yz := ⟨_, rfl⟩
        rw [hyae, hyke, hybe, hyze] at hih
        rw [hyae] at b1''
        rw [hyke] at b0''
        rw [hybe] at b2''
        rw [hyze] at b3''
        have HCd := Lib.hid hih
        have HOd := Lib.hid (hob.keep (Gx.drewN_below w5 1 _))
        have HAd : Hid (RowAt w5.drew (fun b => w.heap.size + 1 + 1 < b) true acc (.slice bo m cq)) := Lib.hid (hab.keep (Gx.drewN_below w5 1 _))
        clear hyae hyke hybe hyze hih hob hab hev hkn1 hevd
        go_wp2_with fail
        go_region_law (first
          | (go_simp; (with_reducible refine HCd.out.mono ?_); rintro e w6 ⟨hb6, ⟨p, hpv, rfl, hp⟩ | ⟨f, c, hm, hc1, hc2, rfl⟩⟩; rotate_left; (have hr := HRE.out f c w6 (HTF.out t f HKT.out hm) hc1 hc2 (HOd.out.g.trans (hb6.mono HOd.out.g.size)); unfold thrown at hr ⊢; go_wp2_with fail; exact ⟨rfl, hr⟩); have ho6 := HOd.out.keep hb6; obtain ⟨-, -, -, -, -, k6, -⟩ := ho6.cells; have HO6 := Lib.hid ho6; have HPT := Lib.hid (put_any bo cq m acc t p w6 ((HAd.out.keep hb6).weak (fun _ _ _ => trivial)) HL.out (by omega) (hp.weak (fun _ _ _ => trivial)) (by omega)); have HPV := Lib.hid hpv; clear hp hb6 hpv ho6; simp only [Loc.val] at HPT ⊢)
          | (go_simp; (with_reducible refine HPT.out.mono ?_); rintro e w7 ⟨vo, vc, m2, rfl, hm2, hr7, hb7⟩; have ho7 := HO6.out.keep hb7; obtain ⟨-, -, -, -, -, k7, kf⟩ := ho7.cells; have kf7 := kf 5; have HO7 := Lib.hid ho7; have hv6 := HO6.out.vlt; have HA7 : Hid (RowAt w7 (fun b => w.heap.size + 1 + 1 < b) true (putL acc t p.v) (.slice vo m2 vc)) := Lib.hid (hr7.weak (fun b hb _ => by omega)); have HM7 := Lib.hid hm2; clear hr7 hb7 ho7 kf hm2 hv6))
        all_goals
          have ho := HO7.out.setE (.slice vo m2 vc)
          have ha := HA7.out.grow (grown_cell w7 (w.heap.size + 1 + 1) 5 (.slice vo m2 vc)) (fun b e hb => by have := Option.some.inj e; omega)
          have hm2 : m2 ≤ k + 1 := by
            have h1 := put_len acc t p.v
            have h2 := HM7.out
            have h3 := HL.out
            omega
          have H1 := Lib.hid ho
          have H2 := Lib.hid ha
          have H3 := Lib.hid (HTK.out t p.v HKT.out HPV.out)
          clear ho ha HO7 HA7 HO6 HPT HPV HOd HAd HKT HTK HTF HRE
          go_wp2_with fail
          go_roundw
          case rel => exact ⟨k + 1, m2, putL acc t p.v, vo, vc, by omega, hm2, by go_num, HM7, H1, H2, H3⟩
          case measure => simp [intOf]; omega
    · obtain rfl : k = N := by omega
      have hok : meanN X (d + 1) n = .ok (tableV acc) := HM1.out acc (by rw [HLN.out, List.drop_of_length_le (by rw [HN.out]; omega)]; rfl)
      have hrow := HA.out
      have hv : VAt wr (fun b => w.heap.size + 1 + 1 < b) ⟨tableV acc, none, 0, bo, cq⟩ := ⟨⟨by show (-9223372036854775808 : Int) ≤ 6; decide, by show (6 : Int) ≤ 9223372036854775807; decide, by show (-9223372036854775808 : Int) ≤ 0; decide, by show (0 : Int) ≤ 9223372036854775807; decide, by show (0 : Int) ≤ 0; decide, by show (0 : Int) ≤ 18446744073709551615; decide, by show (0 : Nat) ≤ 140737488351232; decide⟩, .nil _ _ _, by
          show RowAt wr _ true acc (.slice bo acc.length cq)
          rw [HL.out]; exact hrow⟩
      obtain ⟨a0, a1, a2, a3, a4, a5, -⟩ := HO.out.cells
      obtain ⟨p0, p1, p2, p3, p4, p5, pf⟩ := six_cells HO.out.res
      have pf0 := pf 0
      have pf1 := pf 1
      have pf2 := pf 2
      have pf3 := pf 3
      have pf4 := pf 4
      have pf5 := pf 5
      obtain ⟨W9, hW9, hr9, -, -, hbw, hvw⟩ := six_all HO.out.res (.int .i64 6) (.int .i64 0) (.int .u64 0) (.string ⟨#[]⟩) (.slice none 0 0) (.slice bo m cq)
      obtain ⟨q0, q1, q2, q3, q4, q5, -⟩ := six_cells hr9
      have HW9 := Lib.hid hW9
      have HR : Hid (Out w (meanN X (d + 1) n) (.returned (.agg #[.int .i64 6, .int .i64 0, .int .u64 0, .string ⟨#[]⟩, .slice none 0 0, .slice bo m cq])) W9) := Lib.hid ⟨hbw _ _ HO.out.g (by omega), .inl ⟨⟨tableV acc, none, 0, bo, cq⟩, hok, by rw [← HL.out]; rfl, (hvw _ _ hv (by omega)).weak (fun b hb _ => by omega)⟩⟩
      clear hW9 hr9 hbw hvw pf hv hrow hok
      go_wp2_with fail
      rw [← HW9.out]
      exact bodyPost_ret (v := .agg #[.int .i64 6, .int .i64 0, .int .u64 0, .string ⟨#[]⟩, .slice none 0 0, .slice bo m cq]) (by simp [results, Tryz.results26, go_sem, q0, q1, q2, q3, q4, q5]) rfl HR.out
end Go.Proofs.YtldhmfkojaekfaaGreatDoor
namespace Go.Proofs.YtldhmfkojaekfaaGreatDoor
open Go.RowKit Gx
set_option maxRecDepth 100000
set_option maxHeartbeats 8000000 in
theorem value_leaf (R : Nat) (ta : Option Addr) (tc : Nat) (S : ByteArray) (X : TS) (hX : InX X) (hXl : X.l.length ≤ 20000) (hT : X.T.length ≤ 20000) (d : Nat) (n : Nd) (h5 : n.k ≠ 5) (h3 : n.k ≠ 3) (ha : n.a < X.T.length) (so : Option Addr) (sc : Nat) (w : World) (he : Env w R ta tc S X n so sc) :
    Calls Tryz.prog 26 #[.pointer (some ⟨R, 0, none⟩), .agg #[.int .i64 n.k, .int .i64 n.a, .int .i64 n.b, .slice so n.kids.length sc]] w (Out w (meanN X (d + 1) n)) := by
  have hmn : meanN X (d + 1) n = leafN X n.a := by rw [meanN, if_neg h5, if_neg h3]
  rw [hmn]
  obtain ⟨hb1, hsz, hn1, hr1⟩ := boxes (w := w) (n0 := .int .i64 n.k) (n1 := .int .i64 n.a) (n2 := .int .i64 n.b) (n3 := .slice so n.kids.length sc)
  have hev := he.keep hb1
  have hlf := mleaf_any R ta tc S X hX n so n.kids.length sc _ hev.ms hev.et ha hXl hT
  have t5 : (n.k == 5) = false := beq_eq_false_iff_ne.2 h5
  have t3 : (n.k == 3) = false := beq_eq_false_iff_ne.2 h3
  obtain ⟨c0, c1, c2, c3⟩ := node4 hn1
  obtain ⟨K, hK⟩ : ∃ K, n.k = K := ⟨_, rfl⟩
  obtain ⟨a, hA⟩ : ∃ a, n.a = a := ⟨_, rfl⟩
  obtain ⟨b, hB⟩ : ∃ b, n.b = b := ⟨_, rfl⟩
  obtain ⟨N, hN⟩ : ∃ N, n.kids.length = N := ⟨_, rfl⟩
  rw [hK, hA, hB, hN] at hlf hb1 hr1 c0 c1 c2 c3
  rw [hK] at t5 t3
  rw [hK, hA, hB, hN]
  have HLF := Lib.hid hlf
  have HB1 := Lib.hid hb1
  have HR1 := Lib.hid hr1
  unfold Out at HLF
  clear hlf hb1 hr1 hmn h5 h3 ha he hev hsz hn1 hK hA hB hN
  go_enter Tryz.func26, Tryz.ntmps26
  go_wp2_with fail
  (with_reducible refine HLF.out.mono ?_)
  rintro e w4 ⟨hb4, ⟨q, hq, rfl, hv⟩ | ⟨f, c, hq, hc1, hc2, rfl⟩⟩
  · have hr4 := (hb4.block _ (Array.getElem?_eq_some_iff.1 HR1.out).1).trans HR1.out
    have hbw := HB1.out.trans (hb4.mono HB1.out.size)
    have hsz1 := HB1.out.size
    obtain ⟨W9, hW9, hr9, -, -, hbw9, hvw⟩ := six_all hr4 (.int .i64 q.v.k) (.int .i64 q.v.n) (.int .u64 q.v.f) (.string q.v.s) (.slice q.ad q.v.l.length q.cap) (.slice q.bd q.v.e.length q.dap)
    obtain ⟨g0, g1, g2, g3, g4, g5, gf⟩ := six_cells hr4
    have gf0 := gf 0
    have gf1 := gf 1
    have gf2 := gf 2
    have gf3 := gf 3
    have gf4 := gf 4
    have gf5 := gf 5
    obtain ⟨q0, q1, q2, q3, q4, q5, -⟩ := six_cells hr9
    have HW9 := Lib.hid hW9
    have HR : Hid (Out w (leafN X a) (.returned (.agg #[.int .i64 q.v.k, .int .i64 q.v.n, .int .u64 q.v.f, .string q.v.s, .slice q.ad q.v.l.length q.cap, .slice q.bd q.v.e.length q.dap])) W9) := Lib.hid ⟨hbw9 _ _ hbw (by omega), .inl ⟨q, hq, rfl, (hvw _ _ hv (by have := (Array.getElem?_eq_some_iff.1 HR1.out).1; omega)).weak (fun b hb _ => by omega)⟩⟩
    unfold Loc.val
    clear hW9 hr9 hbw9 gf hq hv hb4 hbw hr4 HLF HB1 HR1 hvw
    go_wp2_with fail
    rw [← HW9.out]
    exact bodyPost_ret (v := .agg #[.int .i64 q.v.k, .int .i64 q.v.n, .int .u64 q.v.f, .string q.v.s, .slice q.ad q.v.l.length q.cap, .slice q.bd q.v.e.length q.dap]) (by simp [results, Tryz.results26, go_sem, q0, q1, q2, q3, q4, q5]) rfl HR.out
  · have HR : Hid (Out w (leafN X a) (thrown f.1 c) w4) := Lib.hid ⟨HB1.out.trans (hb4.mono HB1.out.size), .inr ⟨f, c, hq, hc1, hc2, rfl⟩⟩
    unfold thrown at HR ⊢
    exact ⟨rfl, HR.out⟩
theorem valM_any (R : Nat) (ta : Option Addr) (tc : Nat) (S : ByteArray) (X : TS) (hX : InX X) (hXl : X.l.length ≤ 20000) (hT : X.T.length ≤ 20000) : ∀ d, ValM R ta tc S X d
  | 0 => fun n so sc w _ _ _ h => h.elim
  | d + 1 => fun n so sc w h1 h2 h3 h => by
    have IH := valM_any R ta tc S X hX hXl hT d
    rcases h.2 with ⟨g, -⟩ | ⟨g, -⟩ | ⟨g5, g3, ga⟩
    · exact value_list R ta tc S X hT d IH n g h so sc w ⟨h1, h2, h3⟩
    · exact value_table R ta tc S X hX hXl hT d IH n g h so sc w ⟨h1, h2, h3⟩
    · exact value_leaf R ta tc S X hX hXl hT d n g5 g3 ga so sc w ⟨h1, h2, h3⟩
end Go.Proofs.YtldhmfkojaekfaaGreatDoor
namespace Go.Proofs.YtldhmfkojaekfaaGreatDoor
open Go.RowKit Go.Shelf Gx
attribute [local go_sem] Oper.semAt_some
set_option maxRecDepth 100000
/-- blocks below n₀, M left out -/
def Bw (n₀ M : Nat) (b : Nat) : Prop := b < n₀ ∧ b ≠ M
/-- what a round keeps -/
structure KeM (n₀ M : Nat) (W W' : World) : Prop where
  size : W.heap.size ≤ W'.heap.size
  block : ∀ k, Bw n₀ M k → k < W.heap.size → W'.heap[k]? = W.heap[k]?
theorem KeM.refl (n₀ M : Nat) (W : World) : KeM n₀ M W W := ⟨Nat.le_refl _, fun _ _ _ => rfl⟩
theorem KeM.trans {n₀ M : Nat} {A B C : World} (h : KeM n₀ M A B) (k : KeM n₀ M B C) : KeM n₀ M A C :=
  ⟨Nat.le_trans h.size k.size, fun i hi hl => (k.block i hi (Nat.lt_of_lt_of_le hl h.size)).trans (h.block i hi hl)⟩
theorem KeM.grow {n₀ M : Nat} {A B : World} {row : Option Nat} (hg : A.grownBy B row) (hr : ∀ k, row = some k → ¬ Bw n₀ M k) : KeM n₀ M A B :=
  ⟨hg.size, fun i hi hl => hg.block i hl (fun e => hr i e.symm hi)⟩
theorem KeM.alloc (n₀ M : Nat) (A : World) (o : Obj) : KeM n₀ M A (A.alloc o) := ⟨by simp, fun _ _ hl => Below.heap_alloc A o _ hl⟩
theorem KeM.put {n₀ M : Nat} {w : World} (hn : n₀ ≤ w.heap.size) (W : World) (l : Nat) (o o' : Obj) (hl : w.heap.size ≤ l) (h : W.heap[l]? = some o) (_ : o.isCells = false) (_ : o.isWalk = false) : KeM n₀ M W (W.putObj l o') :=
  .grow (grownBy_putObj' W l o') (fun k e hb => by cases e; have := hb.1; omega)
theorem KeM.cell {n₀ M : Nat} {A B : World} (h : KeM n₀ M A B) {b o : Nat} (hb : Bw n₀ M b) (hl : b < A.heap.size) : B.cell? ⟨b, o, none⟩ = A.cell? ⟨b, o, none⟩ := World.cell?_of_block (h.block b hb hl)

/-- values that lie in blocks below n₀, M left out -/
abbrev LocAt (w : World) (n₀ M : Nat) := { x : Loc // VAt w (Bw n₀ M) x }
/-- the parts of a value: those of its list, and those of its entries -/
def V.parts (v : V) : List V := v.l ++ v.e.map Prod.snd

/-- they lie there, one by one -/
def LsAt (w : World) (n₀ M : Nat) (q : Loc) (ls : List (LocAt w n₀ M)) : Prop := ls.map (·.1.v) = q.v.l ∧
  ∀ i x, ls[i]? = some x → ∃ b off, q.ad = some ⟨b, off, none⟩ ∧ Bw n₀ M b ∧ b < w.heap.size ∧ CellsAt w b (off + i * 6) x.1
def EsAt (w : World) (n₀ M : Nat) (q : Loc) (es : List (LocAt w n₀ M)) : Prop := es.map (·.1.v) = q.v.e.map Prod.snd ∧
  ∀ i x, es[i]? = some x → ∃ b off key, q.bd = some ⟨b, off, none⟩ ∧ Bw n₀ M b ∧ b < w.heap.size ∧ w.cell? ⟨b, off + i * 7, none⟩ = some (.string key) ∧ CellsAt w b (off + i * 7 + 1) x.1
theorem locs_of {w : World} {n₀ M : Nat} {q : Loc} (h : VAt w (Bw n₀ M) q) : ∃ ls es, LsAt w n₀ M q ls ∧ EsAt w n₀ M q es := by
  have key : ∀ {α : Type} (l : List α) (p : α → V) (Q : Nat → LocAt w n₀ M → Prop), (∀ i x, l[i]? = some x → ∃ y : LocAt w n₀ M, y.1.v = p x ∧ Q i y) → ∃ ys : List (LocAt w n₀ M), ys.map (·.1.v) = l.map p ∧ ∀ i y, ys[i]? = some y → Q i y := by
    intro α l p Q hq
    induction l generalizing Q with
    | nil => exact ⟨[], rfl, fun i y h => by simp at h⟩
    | cons a l ih =>
      obtain ⟨y, hy, hQ⟩ := hq 0 a rfl
      obtain ⟨ys, h1, h2⟩ := ih (fun i y => Q (i + 1) y) (fun i x h => hq (i + 1) x (by simpa using h))
      refine ⟨y :: ys, by simp [hy, h1], fun i z hz => ?_⟩
      cases i with
      | zero => simp at hz; subst hz; exact hQ
      | succ i => exact h2 i z (by simpa using hz)
  obtain ⟨ls, hl1, hl2⟩ := key q.v.l id (fun i x => ∃ b off, q.ad = some ⟨b, off, none⟩ ∧ Bw n₀ M b ∧ b < w.heap.size ∧ CellsAt w b (off + i * 6) x.1) (fun i x hi => by
    obtain ⟨b, off, e1, e2, e3, e4⟩ := RowAt.elem h.l (by have := (List.getElem?_eq_some_iff.1 hi).1; omega)
    obtain ⟨p, rfl, hv, c⟩ := e4 i x hi
    exact ⟨⟨p, hv⟩, rfl, b, off, e1, e2, e3, c⟩)
  obtain ⟨es, he1, he2⟩ := key q.v.e Prod.snd (fun i x => ∃ b off key, q.bd = some ⟨b, off, none⟩ ∧ Bw n₀ M b ∧ b < w.heap.size ∧ w.cell? ⟨b, off + i * 7, none⟩ = some (.string key) ∧ CellsAt w b (off + i * 7 + 1) x.1) (fun i x hi => by
    obtain ⟨b, off, e1, e2, e3, e4⟩ := RowAt.entry h.e (by have := (List.getElem?_eq_some_iff.1 hi).1; omega)
    obtain ⟨_, ck, p, hp, hv, c⟩ := e4 i x hi
    exact ⟨⟨p, hv⟩, hp, b, off, x.1, e1, e2, e3, ck, c⟩)
  exact ⟨ls, es, ⟨by simpa using hl1, hl2⟩, he1, he2⟩
theorem LsAt.len {w : World} {n₀ M : Nat} {q : Loc} {ls : List (LocAt w n₀ M)} (h : LsAt w n₀ M q ls) : ls.length = q.v.l.length := by have := congrArg List.length h.1; simpa using this
theorem EsAt.len {w : World} {n₀ M : Nat} {q : Loc} {es : List (LocAt w n₀ M)} (h : EsAt w n₀ M q es) : es.length = q.v.e.length := by have := congrArg List.length h.1; simpa using this

def PartsPost (q : Loc) (w : World) (e : Ending) (w' : World) : Prop :=
  e = .returned (.func (.func 55) #[] #[.pointer (some ⟨w.heap.size, 0, none⟩)]) ∧ w' = w.alloc (.cells #[.int .i64 q.v.k, .int .i64 q.v.n, .int .u64 q.v.f, .string q.v.s, .slice q.ad q.v.l.length q.cap, .slice q.bd q.v.e.length q.dap] 26)
set_option maxHeartbeats 1000000 in
theorem parts_any (q : Loc) (w : World) : Calls Tryz.prog 29 #[q.val] w (PartsPost q w) := by
  unfold Loc.val
  go_enter Tryz.func29, Tryz.ntmps29
  go_wp2_with fail
  try go_ret
  exact ⟨rfl, rfl⟩
end Go.Proofs.YtldhmfkojaekfaaGreatDoor
namespace Go.Proofs.YtldhmfkojaekfaaGreatDoor
open Go.RowKit Gx
set_option maxRecDepth 100000
/-- the bits of a fraction that are no number's, and not the one that stands for it -/
def nanBad (f : Int) : Bool := (bits .and .u64 (f / 4503599627370496) 2047 == 2047) && (bits .and .u64 f 4503599627370495 != 0) && (f != 9221120237041090561)
def kindBad (k n f : Int) (s : ByteArray) (nl ne : Nat) : Bool :=
  decide (k < 0) || decide (6 < k) || (!(k == 1 || k == 2) && n != 0) || (k == 1 && n != 0 && n != 1) || (k != 3 && f != 0) || nanBad f ||
    (k != 4 && !s.toList.isEmpty) || (k != 5 && decide (0 < nl)) || (k != 6 && decide (0 < ne))
open Classical in
/-- what own says -/
noncomputable def ownE (k n f : Int) (s : ByteArray) (nl ne : Nat) : Nat :=
  if kindBad k n f s nl ne then 10 else if 4000 < s.size ∨ 200 < nl ∨ 200 < ne then 2 else if okText s.data.toList then 0 else 3
def OwnPost (r : Nat) (w : World) (e : Ending) (w' : World) : Prop := e = .returned (.int .i64 r) ∧ Below w.heap.size w w'
theorem nan0 : nanBad 0 = false := by decide
theorem nan_of {f E F : Int} (hE : bits .and .u64 (f / 4503599627370496) 2047 = E) (hF : bits .and .u64 f 4503599627370495 = F) : nanBad f = ((E == 2047) && (F != 0) && (f != 9221120237041090561)) := by unfold nanBad; rw [hE, hF]
theorem empty_of {s : ByteArray} (h : s.toList.isEmpty = true) : s = ⟨#[]⟩ := by
  have h1 : s.toList = [] := by simpa using h
  have h2 : s.data.toList = [] := by rw [← h1]; exact (ByteArray.toList_eq s).symm
  obtain ⟨a⟩ := s
  have : a = #[] := by simpa using h2
  rw [this]
theorem empty_size : (ByteArray.mk #[]).size = 0 := rfl
theorem empty_bad : (ByteArray.mk #[]).toList.isEmpty = true := by rw [ByteArray.toList_eq]; rfl


end Go.Proofs.YtldhmfkojaekfaaGreatDoor
namespace Go.Proofs.YtldhmfkojaekfaaGreatDoor
open Go.RowKit Gx
/-- what own says of a value -/
noncomputable def ownV (v : V) : Nat := ownE v.k v.n v.f v.s v.l.length v.e.length
/-- the first fault of keys, prev being the one ahead -/
def keyBad (prev : Option ByteArray) (x : ByteArray) : Bool := match prev with | none => false | some p => !(Op.bytesLess p.toList x.toList)
open Classical in
noncomputable def keyE (prev : Option ByteArray) : List (ByteArray × V) → Nat
  | [] => 0
  | x :: xs => if 100 < x.1.size then 2 else if ¬ okText x.1.data.toList then 3 else if keyBad prev x.1 = true then 14 else keyE (some x.1) xs
/-- all of them, one behind the other -/
def chkAll (f : V → Nat → Nat × Nat) : List V → Nat → Nat × Nat
  | [], m => (0, m)
  | x :: xs, m => if (f x m).1 = 0 then chkAll f xs (f x m).2 else f x m
/-- what check says, d levels being left, m nodes being counted; and how many are then -/
noncomputable def chk : Nat → V → Nat → Nat × Nat
  | 0, _, m => (if 2000 < m + 1 then 2 else 5, m + 1)
  | d + 1, v, m => if 2000 < m + 1 then (2, m + 1) else if ownV v ≠ 0 then (ownV v, m + 1) else if keyE none v.e ≠ 0 then (keyE none v.e, m + 1) else chkAll (chk d) v.parts (m + 1)

/-- what Check says -/
noncomputable def chkV (v : V) : Nat := (chk 20 v 0).1

theorem chkAll_snoc (f : V → Nat → Nat × Nat) : ∀ (xs : List V) (x : V) (m : Nat), (chkAll f xs m).1 = 0 → chkAll f (xs ++ [x]) m = f x (chkAll f xs m).2
  | [], x, m, _ => by
    show (if (f x m).1 = 0 then (0, (f x m).2) else f x m) = f x m
    by_cases h : (f x m).1 = 0
    · rw [if_pos h]; exact Prod.ext h.symm rfl
    · rw [if_neg h]
  | y :: xs, x, m, h => by
    have e : ∀ zs, chkAll f (y :: zs) m = if (f y m).1 = 0 then chkAll f zs (f y m).2 else f y m := fun _ => rfl
    rw [e] at h
    rw [List.cons_append, e, e]
    by_cases h1 : (f y m).1 = 0
    · rw [if_pos h1] at h
      rw [if_pos h1, if_pos h1]
      exact chkAll_snoc f xs x _ h
    · rw [if_neg h1] at h
      exact absurd h h1
theorem chkAll_stop (f : V → Nat → Nat × Nat) : ∀ (xs ys : List V) (m : Nat), (chkAll f xs m).1 ≠ 0 → chkAll f (xs ++ ys) m = chkAll f xs m
  | [], ys, m, h => absurd rfl h
  | x :: xs, ys, m, h => by
    simp only [chkAll, List.cons_append] at h ⊢
    by_cases h1 : (f x m).1 = 0
    · rw [if_pos h1] at h
      rw [if_pos h1, if_pos h1]
      exact chkAll_stop f xs ys _ h
    · rw [if_neg h1, if_neg h1]
theorem chkAll_le (f : V → Nat → Nat × Nat) (hf : ∀ x m, m ≤ 2000 → (f x m).2 ≤ 2001 ∧ ((f x m).1 = 0 → (f x m).2 ≤ 2000)) : ∀ (xs : List V) (m : Nat), m ≤ 2000 → (chkAll f xs m).2 ≤ 2001 ∧ ((chkAll f xs m).1 = 0 → (chkAll f xs m).2 ≤ 2000)
  | [], m, h => ⟨by simp [chkAll]; omega, fun _ => h⟩
  | x :: xs, m, h => by
    simp only [chkAll]
    by_cases h1 : (f x m).1 = 0
    · rw [if_pos h1]
      exact chkAll_le f hf xs _ ((hf x m h).2 h1)
    · rw [if_neg h1]
      exact hf x m h
theorem chk_le : ∀ (d : Nat) (v : V) (m : Nat), m ≤ 2000 → (chk d v m).2 ≤ 2001 ∧ ((chk d v m).1 = 0 → (chk d v m).2 ≤ 2000)
  | 0, v, m, h => by
    simp only [chk]
    refine ⟨by omega, fun h2 => ?_⟩
    split at h2 <;> cases h2
  | d + 1, v, m, h => by
    simp only [chk]
    by_cases h1 : 2000 < m + 1
    · rw [if_pos h1]; exact ⟨by simp only; omega, fun h2 => by cases h2⟩
    rw [if_neg h1]
    by_cases h2 : ownV v ≠ 0
    · rw [if_pos h2]; exact ⟨by simp only; omega, fun h3 => absurd h3 h2⟩
    rw [if_neg h2]
    by_cases h3 : keyE none v.e ≠ 0
    · rw [if_pos h3]; exact ⟨by simp only; omega, fun h4 => absurd h4 h3⟩
    rw [if_neg h3]
    exact chkAll_le _ (chk_le d) _ _ (by omega)
/-- the key ahead of the k-th -/
def prevK (e : List (ByteArray × V)) (k : Nat) : Option ByteArray := if k = 0 then none else (e[k - 1]?).map Prod.fst
theorem prevK_succ {e : List (ByteArray × V)} {k : Nat} {x : ByteArray × V} (h : e[k]? = some x) : prevK e (k + 1) = some x.1 := by unfold prevK; simp [h]
open Classical in
theorem keyE_drop {e : List (ByteArray × V)} {k : Nat} {x : ByteArray × V} (h : e[k]? = some x) : keyE (prevK e k) (e.drop k) =
    if 100 < x.1.size then 2 else if ¬ okText x.1.data.toList then 3 else if keyBad (prevK e k) x.1 = true then 14 else keyE (prevK e (k + 1)) (e.drop (k + 1)) := by
  obtain ⟨hl, hx⟩ := List.getElem?_eq_some_iff.1 h
  rw [prevK_succ h, List.drop_eq_getElem_cons hl, hx, keyE]
theorem keyE_end (e : List (ByteArray × V)) (p : Option ByteArray) : keyE p (e.drop e.length) = 0 := by rw [List.drop_length]; rfl
end Go.Proofs.YtldhmfkojaekfaaGreatDoor
namespace Go.Proofs.YtldhmfkojaekfaaGreatDoor
open Go.RowKit Gx
theorem next_mark {l : List UInt8} (h : (nextTok l).1 = 6) : (nextTok l).2 = 1 := by
  cases l with
  | nil => unfold nextTok at h; cases h
  | cons b r =>
    unfold nextTok at h ⊢
    simp only [] at h ⊢
    by_cases h1 : classOf (b.toNat : Int) = 1 ∨ classOf (b.toNat : Int) = 4
    · rw [if_pos h1] at h
      simp only [] at h
      omega
    · rw [if_neg h1] at h ⊢
      by_cases h3 : classOf (b.toNat : Int) = 3
      · rw [if_pos h3] at h
        split at h <;> simp at h
      · rw [if_neg h3] at h ⊢
        by_cases h5 : classOf (b.toNat : Int) = 5
        · rw [if_pos h5] at h
          split at h <;> simp at h
        · rw [if_neg h5]
theorem toks_in (l : List UInt8) : ∀ (f a : Nat), l.length ≤ a + f → ∀ t ∈ toksFrom l a, t.2.1 ≤ t.2.2 ∧ t.2.2 ≤ l.length ∧ t.2.1 < l.length ∧ (t.1 = 6 → t.2.2 = t.2.1 + 1)
  | 0, a, h, t, ht => by rw [toksFrom_end _ _ (by omega)] at ht; cases ht
  | f + 1, a, h, t, ht => by
    by_cases ha : l.length ≤ a
    · rw [toksFrom_end _ _ ha] at ht; cases ht
    · have hn := nextTok_fits (l.drop a) (by rw [List.length_drop]; omega)
      rw [List.length_drop] at hn
      rw [toksFrom_step _ a (by omega)] at ht
      rcases List.mem_cons.1 ht with rfl | ht
      · refine ⟨by simp only []; omega, by simp only []; omega, by simp only []; omega, fun h6 => ?_⟩
        simp only [] at h6 ⊢
        rw [next_mark h6]
      · exact toks_in l f _ (by omega) t ht
theorem treeX_tok (l : List UInt8) (k : Nat) (hk : k < (treeX l).T.length) : (treeX l).pos k ≤ (treeX l).end_ k ∧ (treeX l).end_ k ≤ l.length ∧ (treeX l).pos k < l.length ∧ ((treeX l).kind k = 6 → (treeX l).end_ k = (treeX l).pos k + 1) := by
  have h := toks_in l l.length 0 (by omega) ((treeX l).T[k]) (List.getElem_mem hk)
  unfold TS.pos TS.end_ TS.kind
  rw [List.getElem?_eq_getElem hk]
  exact h
theorem treeX_in (l : List UInt8) : InX (treeX l) := fun k hk => ⟨(treeX_tok l k hk).1, (treeX_tok l k hk).2.1⟩
/-- what the whole of a text's nodes is -/
def rootN (l : List UInt8) : Nd := (valueS (treeX l) 20 ⟨0, 0, 0⟩).2
def MeanOk (l : List UInt8) (v : V) : Prop := l.length ≤ 20000 ∧ (parseS (treeX l)).bad = 0 ∧ meanN (treeX l) 21 (rootN l) = .ok v ∧ chkV v = 0
def MeanBad (l : List UInt8) (a : Nat) (c : Int) : Prop :=
  (20000 < l.length ∧ a = 0 ∧ c = 2) ∨ (l.length ≤ 20000 ∧ (parseS (treeX l)).bad ≠ 0 ∧ a = (parseS (treeX l)).wh ∧ c = (parseS (treeX l)).bad) ∨
  (l.length ≤ 20000 ∧ (parseS (treeX l)).bad = 0 ∧ ((∃ f : Flt, meanN (treeX l) 21 (rootN l) = .error f ∧ a = f.1 ∧ c ≠ 0 ∧ (f.2 = true → c = 6)) ∨ (∃ v, meanN (treeX l) 21 (rootN l) = .ok v ∧ chkV v ≠ 0 ∧ a = 0 ∧ c = (chkV v : Int))))
theorem parse_bad {X : TS} (h : (parseS X).bad = 0) : (valueS X 20 ⟨0, 0, 0⟩).1.bad = 0 := by
  unfold parseS endS at h
  split at h
  · exact (fail_not (by decide) h).elim
  · exact h
theorem root_wn {l : List UInt8} (h : (parseS (treeX l)).bad = 0) : Wn (treeX l) 21 (rootN l) := value_wn (treeX l) 20 ⟨0, 0, 0⟩ (Nat.zero_le _) (parse_bad h)
end Go.Proofs.YtldhmfkojaekfaaGreatDoor
namespace Go.Proofs.YtldhmfkojaekfaaGreatDoor
open Go.RowKit Gx
set_option maxRecDepth 100000
set_option maxHeartbeats 4000000 in
theorem catch_idle (p q r : Addr) (w : World) :
    CallsD Tryz.prog 25 #[.pointer (some p), .pointer (some q), .pointer (some r)] .returning w fun e u' w' => e = .returned (.tuple #[]) ∧ u' = .returning ∧ w' = w := by
  refine callsD_of_wpS Tryz.func25 rfl fun c₀ cs hu => ?_
  apply wpS_seq
  apply wpS_region
  simp [wpOpsS, go_sem, recoverD, hu, Tryz.ntmps25, Exit.thenS]
  refine wpS_of_wp ?_
  change Code.wp _ _ _ { tmps := #[.pointer (some p), .pointer (some q), .pointer (some r), .nilIface, undef, undef, .nilIface, undef, undef, undef, undef, undef, undef, undef, undef, undef, undef, undef, undef, undef], defers := [] } w
  refine (fun (h : ∀ POST : Exit → Act → World → Prop, (∀ tmps, POST .normal { tmps := tmps, defers := [] } w) → Code.wp Tryz.prog _ POST _ w) => h _ ?_) ?_
  · intro tmps
    cases c₀
    simp_all [bodyPostS, results, Tryz.results25, go_sem]
  · clear hu
    intro POST hPOST
    have HP := Lib.hid hPOST
    clear hPOST
    have q1 : (binOp BinOp.neq 20 .nilIface .nilIface).run Tryz.prog w = .ok (.bool false) w := by kernel_rfl
    go_wp2_with fail
    exact HP.out _
set_option maxHeartbeats 4000000 in
theorem catch_fault (b0 b1 b2 : Nat) (a c : Int) (u0 u1 u2 u3 u4 u5 x y : Value) (w : World) (h0 : w.heap[b0]? = some (.cells #[u0, u1, u2, u3, u4, u5] 26)) (h1 : w.heap[b1]? = some (.cells #[x] 28)) (h2 : w.heap[b2]? = some (.cells #[y] 3)) (n01 : b0 ≠ b1) (n02 : b0 ≠ b2) (n12 : b1 ≠ b2) :
    CallsD Tryz.prog 25 #[.pointer (some ⟨b0, 0, none⟩), .pointer (some ⟨b1, 0, none⟩), .pointer (some ⟨b2, 0, none⟩)] (.panicking [{ v := .iface 57 (.agg #[.int .i64 a, .int .i64 c]), recovered := false }]) w fun e u' w' =>
      e = .returned (.tuple #[]) ∧ u' = .panicking [{ v := .iface 57 (.agg #[.int .i64 a, .int .i64 c]), recovered := true }] ∧
      w'.heap[b0]? = some (.cells #[.int .i64 0, .int .i64 0, .int .u64 0, .string ⟨#[]⟩, .slice none 0 0, .slice none 0 0] 26) ∧ w'.heap[b1]? = some (.cells #[.int .i64 c] 28) ∧ w'.heap[b2]? = some (.cells #[.int .i64 a] 3) ∧
      ∀ B w0, Below B w0 w → B ≤ b0 → B ≤ b1 → B ≤ b2 → Below B w0 w' := by
  refine callsD_of_wpS Tryz.func25 rfl fun c₀ cs hu => ?_
  apply wpS_seq
  apply wpS_region
  simp [wpOpsS, go_sem, recoverD, hu, Tryz.ntmps25, Exit.thenS]
  refine wpS_of_wp ?_
  change Code.wp _ _ _ { tmps := #[.pointer (some ⟨b0, 0, none⟩), .pointer (some ⟨b1, 0, none⟩), .pointer (some ⟨b2, 0, none⟩), .iface 57 (.agg #[.int .i64 a, .int .i64 c]), undef, undef, .iface 57 (.agg #[.int .i64 a, .int .i64 c]), undef, undef, undef, undef, undef, undef, undef, undef, undef, undef, undef, undef, undef], defers := [] } w
  refine (fun (h : ∀ POST : Exit → Act → World → Prop, (∀ tmps w', (w'.heap[b0]? = some (.cells #[.int .i64 0, .int .i64 0, .int .u64 0, .string ⟨#[]⟩, .slice none 0 0, .slice none 0 0] 26) ∧ w'.heap[b1]? = some (.cells #[.int .i64 c] 28) ∧ w'.heap[b2]? = some (.cells #[.int .i64 a] 3) ∧
      ∀ B w0, Below B w0 w → B ≤ b0 → B ≤ b1 → B ≤ b2 → Below B w0 w') → POST .normal { tmps := tmps, defers := [] } w') → Code.wp Tryz.prog _ POST _ w) => h _ ?_) ?_
  · rintro tmps w' ⟨h0, h1, h2, h3⟩
    cases c₀
    simp_all [bodyPostS, results, Tryz.results25, go_sem]
  · clear hu
    intro POST hPOST
    have HP := Lib.hid hPOST
    clear hPOST
    obtain ⟨W9, hW9, hr9, hot, -, hbw9, -⟩ := six_all h0 (.int .i64 0) (.int .i64 0) (.int .u64 0) (.string ⟨#[]⟩) (.slice none 0 0) (.slice none 0 0)
    obtain ⟨g0, g1, g2, g3, g4, g5, gf⟩ := six_cells h0
    have gf0 := gf 0
    have gf1 := gf 1
    have gf2 := gf 2
    have gf3 := gf 3
    have gf4 := gf 4
    have gf5 := gf 5
    have HW9 := Lib.hid hW9
    have hta : ∀ (v : Value) (w : World), (Instr.typeAssert (.iface 57 v) 20 57 true).run Tryz.prog w = .ok (.tuple #[v, .bool true]) w := fun v w => by kernel_rfl
    have k1 : W9.heap[b1]? = some (.cells #[x] 28) := (hot b1 (Ne.symm n01)).trans h1
    have k2 : W9.heap[b2]? = some (.cells #[y] 3) := (hot b2 (Ne.symm n02)).trans h2
    have l1 : w.cell? ⟨b1, 0, none⟩ = some x := by simp [World.cell?, h1]
    have l2 : w.frozen? ⟨b1, 0, none⟩ = false := by simp [World.frozen?, h1]
    go_upto_region 3 with fail
    rw [← HW9.out]
    have m1 : (W9.setCell ⟨b1, 0, none⟩ (.int .i64 4)).heap[b1]? = some (.cells #[.int .i64 4] 28) := by simp [World.setCell, Array.getElem?_modify, k1]
    have m0 : (W9.setCell ⟨b1, 0, none⟩ (.int .i64 4)).heap[b0]? = some (.cells #[.int .i64 0, .int .i64 0, .int .u64 0, .string ⟨#[]⟩, .slice none 0 0, .slice none 0 0] 26) := ((grown_cell W9 b1 0 _).block b0 (Array.getElem?_eq_some_iff.1 hr9).1 (fun e => n01 (Option.some.inj e))).trans hr9
    have m2 : (W9.setCell ⟨b1, 0, none⟩ (.int .i64 4)).heap[b2]? = some (.cells #[y] 3) := ((grown_cell W9 b1 0 _).block b2 (Array.getElem?_eq_some_iff.1 k2).1 (fun e => n12 (Option.some.inj e).symm)).trans k2
    have HB : Hid (∀ B w0, Below B w0 w → B ≤ b0 → B ≤ b1 → B ≤ b2 → Below B w0 (W9.setCell ⟨b1, 0, none⟩ (.int .i64 4))) := Lib.hid (fun B w0 hb h0' h1' h2' => (hbw9 B w0 hb h0').grown (grown_cell W9 b1 0 _) (by have := (Array.getElem?_eq_some_iff.1 k1).1; omega) (fun k e => by have := Option.some.inj e; omega))
    generalize W9.setCell ⟨b1, 0, none⟩ (.int .i64 4) = W10 at m0 m1 m2 HB ⊢
    have f0 := heap_alloc_new W10 (.cells #[.int .i64 a, .int .i64 c] 57)
    have o0 := (alloc_old_gx W10 (.cells #[.int .i64 a, .int .i64 c] 57) (Array.getElem?_eq_some_iff.1 m0).1).trans m0
    have o1 := (alloc_old_gx W10 (.cells #[.int .i64 a, .int .i64 c] 57) (Array.getElem?_eq_some_iff.1 m1).1).trans m1
    have o2 := (alloc_old_gx W10 (.cells #[.int .i64 a, .int .i64 c] 57) (Array.getElem?_eq_some_iff.1 m2).1).trans m2
    have HB2 : Hid (∀ B w0, Below B w0 w → B ≤ b0 → B ≤ b1 → B ≤ b2 → Below B w0 (W10.alloc (.cells #[.int .i64 a, .int .i64 c] 57))) := Lib.hid (fun B w0 hb h0' h1' h2' => (HB.out B w0 hb h0' h1' h2').alloc (by have := (Array.getElem?_eq_some_iff.1 m0).1; omega) _)
    have nf1 : W10.heap.size ≠ b1 := by have := (Array.getElem?_eq_some_iff.1 m1).1; omega
    have nf2 : W10.heap.size ≠ b2 := by have := (Array.getElem?_eq_some_iff.1 m2).1; omega
    clear HB hW9 hr9 hot hbw9 g0 g1 g2 g3 g4 g5 gf gf0 gf1 gf2 gf3 gf4 gf5 HW9 k1 k2 l1 l2 m0 m1 m2 h0 h1 h2
    go_upto_region 5 with fail
    generalize hwx : World.alloc W10 _ = W11 at f0 o0 o1 o2 HB2 ⊢
    generalize hfb : W10.heap.size = F at f0 nf1 nf2 ⊢
    clear hwx hfb
    have e0 : W11.cell? ⟨F, 0, none⟩ = some (.int .i64 a) := by simp [World.cell?, f0]
    have e1 : W11.cell? ⟨F, 1, none⟩ = some (.int .i64 c) := by simp [World.cell?, f0]
    have d1 : W11.cell? ⟨b1, 0, none⟩ = some (.int .i64 4) := by simp [World.cell?, o1]
    have d2 : W11.cell? ⟨b2, 0, none⟩ = some y := by simp [World.cell?, o2]
    have z1 : W11.frozen? ⟨b1, 0, none⟩ = false := by simp [World.frozen?, o1]
    have z2 : W11.frozen? ⟨b2, 0, none⟩ = false := by simp [World.frozen?, o2]
    have nf3 : ¬ b1 = F := fun e => nf1 e.symm
    have nf4 : ¬ b2 = F := fun e => nf2 e.symm
    go_region_held3 (fun w' => w'.cell? ⟨F, 0, none⟩ = some (.int .i64 a) ∧ w'.cell? ⟨F, 1, none⟩ = some (.int .i64 c)) (first | exact ⟨e0, e1⟩ | go_keep) (fail)
    refine HP.out _ _ ⟨?_, ?_, ?_, fun B w0 hb h0' h1' h2' => ?_⟩
    · show ((W11.setCell ⟨b2, 0, none⟩ (.int .i64 a)).setCell ⟨b1, 0, none⟩ (.int .i64 c)).heap[b0]? = _
      simp [World.setCell, Array.getElem?_modify, n01.symm, n02.symm, o0]
    · show ((W11.setCell ⟨b2, 0, none⟩ (.int .i64 a)).setCell ⟨b1, 0, none⟩ (.int .i64 c)).heap[b1]? = _
      simp [World.setCell, Array.getElem?_modify, n12.symm, o1]
    · show ((W11.setCell ⟨b2, 0, none⟩ (.int .i64 a)).setCell ⟨b1, 0, none⟩ (.int .i64 c)).heap[b2]? = _
      simp [World.setCell, Array.getElem?_modify, n12, o2]
    · have l1 := (Array.getElem?_eq_some_iff.1 o1).1
      refine Below.trans (Below.grown (Below.grown (HB2.out B w0 hb h0' h1' h2') (grown_cell W11 b2 0 _) (by omega) (fun k e => by have := Option.some.inj e; omega)) (grown_cell _ b1 0 _) ?_ (fun k e => by have := Option.some.inj e; omega)) (Gx.drewN_below _ 1 _)
      simp [World.setCell]; omega
end Go.Proofs.YtldhmfkojaekfaaGreatDoor
