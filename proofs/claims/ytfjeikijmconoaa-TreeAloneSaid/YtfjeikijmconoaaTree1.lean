/-
  The contracts of the tree reader's skip, fail, mark. Conditions: the reader lies where the argument says; at most 20000 tokens.
-/
import Derived.Test.YtfjeikijmconoaaTreeLaw
import Derived.Test.YtfjeikijmconoaaTokEqual
import Derived.Deep.LoopGhost
import Derived.Maps.AppendAt
import Derived.OwnWalk
import Derived.IntWalk
import Derived.StillTailTactics
import Derived.Deep.RegionHeld3
namespace Go.Proofs.Ytfjeikijmconoaa
open Go.RowKit Gx
set_option maxRecDepth 100000

/-- a reader in memory -/
structure RS (w : World) (R : Nat) (ta : Option Addr) (tc : Nat) (S : ByteArray) (X : TS) (s : PS) : Prop where
  obj : w.heap[R]? = some (.cells #[.string S, .slice ta X.T.length tc, .int .i64 s.i, .int .i64 s.bad, .int .i64 s.wh] 46)
  tok : TokAt w ta X.T
  str : S.data.toList = X.l
  far : ∀ a, ta = some a → a.block ≠ R
theorem RS.lt {w : World} {R : Nat} {ta : Option Addr} {tc : Nat} {S : ByteArray} {X : TS} {s : PS} (h : RS w R ta tc S X s) : R < w.heap.size := (Array.getElem?_eq_some_iff.1 h.obj).1
theorem RS.cells {w : World} {R : Nat} {ta : Option Addr} {tc : Nat} {S : ByteArray} {X : TS} {s : PS} (h : RS w R ta tc S X s) :
    w.cell? ⟨R, 0, none⟩ = some (.string S) ∧ w.cell? ⟨R, 1, none⟩ = some (.slice ta X.T.length tc) ∧ w.cell? ⟨R, 2, none⟩ = some (.int .i64 s.i) ∧ w.cell? ⟨R, 3, none⟩ = some (.int .i64 s.bad) ∧ w.cell? ⟨R, 4, none⟩ = some (.int .i64 s.wh) ∧ ∀ j, w.frozen? ⟨R, j, none⟩ = false := by
  have ho := h.obj
  exact ⟨by simp [World.cell?, ho], by simp [World.cell?, ho], by simp [World.cell?, ho], by simp [World.cell?, ho], by simp [World.cell?, ho], fun j => by simp [World.frozen?, ho]⟩
theorem TokAt.grow {w w' : World} {ad : Option Addr} {l : List Tok} {R : Nat} (h : TokAt w ad l) (hg : w.grownBy w' (some R)) (hf : ∀ a, ad = some a → a.block ≠ R) : TokAt w' ad l := by
  rcases h with h | ⟨b, h1, h2, h3⟩
  · exact .inl h
  · exact .inr ⟨b, h1, Nat.lt_of_lt_of_le h2 hg.size, fun k v hv => hg.cell (h3 k v hv) (fun e => hf _ h1 (Option.some.inj e))⟩
theorem grown_set (w : World) (R j : Nat) (v : Value) : w.grownBy (w.setCell ⟨R, j, none⟩ v) (some R) :=
  ⟨rfl, rfl, rfl, by simp [World.setCell], fun k _ hk => by
    have hk' : R ≠ k := fun e => hk (by rw [e])
    show (w.heap.modify R _)[k]? = _
    rw [Array.getElem?_modify, if_neg hk']⟩
theorem grown_drew (w : World) (n : Nat) (r : Option Nat) : w.grownBy (w.drewN n) r := ⟨rfl, rfl, rfl, Nat.le_refl _, fun _ _ _ => rfl⟩
theorem RS.drewN {w : World} {R : Nat} {ta : Option Addr} {tc : Nat} {S : ByteArray} {X : TS} {s : PS} (h : RS w R ta tc S X s) (n : Nat) : RS (w.drewN n) R ta tc S X s :=
  ⟨h.obj, h.tok.grow (grown_drew w n (some R)) h.far, h.str, h.far⟩
theorem RS.set2 {w : World} {R : Nat} {ta : Option Addr} {tc : Nat} {S : ByteArray} {X : TS} {s : PS} (h : RS w R ta tc S X s) (k : Nat) : RS (w.setCell ⟨R, 2, none⟩ (.int .i64 k)) R ta tc S X { s with i := k } :=
  ⟨by simp [World.setCell, Array.getElem?_modify, h.obj], h.tok.grow (grown_set w R 2 _) h.far, h.str, h.far⟩
theorem RS.set34 {w : World} {R : Nat} {ta : Option Addr} {tc : Nat} {S : ByteArray} {X : TS} {s : PS} (h : RS w R ta tc S X s) (e : Int) (k : Nat) : RS ((w.setCell ⟨R, 3, none⟩ (.int .i64 e)).setCell ⟨R, 4, none⟩ (.int .i64 k)) R ta tc S X { s with bad := e, wh := k } :=
  ⟨by
    have h1 : (w.setCell ⟨R, 3, none⟩ (.int .i64 e)).heap[R]? = some (.cells #[.string S, .slice ta X.T.length tc, .int .i64 s.i, .int .i64 e, .int .i64 s.wh] 46) := by simp [World.setCell, Array.getElem?_modify, h.obj]
    show ((w.setCell ⟨R, 3, none⟩ (.int .i64 e)).heap.modify R _)[R]? = _
    rw [Array.getElem?_modify, if_pos rfl, h1]
    simp, (h.tok.grow (grown_set w R 3 (.int .i64 e)) h.far).grow (grown_set _ R 4 _) h.far, h.str, h.far⟩
theorem RS.set4 {w : World} {R : Nat} {ta : Option Addr} {tc : Nat} {S : ByteArray} {X : TS} {s : PS} (h : RS w R ta tc S X s) (k : Nat) : RS (w.setCell ⟨R, 4, none⟩ (.int .i64 k)) R ta tc S X { s with wh := k } :=
  ⟨by simp [World.setCell, Array.getElem?_modify, h.obj], h.tok.grow (grown_set w R 4 _) h.far, h.str, h.far⟩
/-- token k's cells -/
theorem RS.tok3 {w : World} {R : Nat} {ta : Option Addr} {tc : Nat} {S : ByteArray} {X : TS} {s : PS} (h : RS w R ta tc S X s) (k : Nat) (hk : k < X.T.length) : ∃ b, ta = some ⟨b, 0, none⟩ ∧
    w.cell? ⟨b, k * 3, none⟩ = some (.int .i64 (X.kind k)) ∧ w.cell? ⟨b, k * 3 + 1, none⟩ = some (.int .i64 (X.pos k)) := by
  obtain ⟨b, h1, h2, h3⟩ := h.tok.resolve_left (by rintro e; rw [e] at hk; simp at hk)
  obtain ⟨g1, g2, -⟩ := tokCells_get X.T k hk
  have e1 : X.kind k = (X.T[k]).1 := by unfold TS.kind; rw [List.getElem?_eq_getElem hk]
  have e2 : X.pos k = (X.T[k]).2.1 := by unfold TS.pos; rw [List.getElem?_eq_getElem hk]
  exact ⟨b, h1, by rw [e1]; exact h3 _ _ g1, by rw [e2]; exact h3 _ _ g2⟩

theorem solid_any (k : Int) (w : World) : Calls Try.prog 31 #[.int .i64 k] w fun e w' => e = .returned (.bool (solidK k)) ∧ w' = w := by
  unfold solidK
  by_cases h : 4 ≤ k
  · have t1 : decide (4 ≤ k) = true := decide_eq_true h
    go_enter Try.func31, Try.ntmps31
    go_wp2_with fail
    try go_ret
    exact ⟨by simp [h], rfl⟩
  · have t1 : decide (4 ≤ k) = false := decide_eq_false h
    go_enter Try.func31, Try.ntmps31
    go_wp2_with fail
    try go_ret
    exact ⟨by simp [h], rfl⟩

theorem skipN_here {X : TS} {k : Nat} (h : k < X.T.length) : skipN (X.T.drop k) = if solidK (X.kind k) then 0 else skipN (X.T.drop (k + 1)) + 1 := by
  have e1 : X.kind k = (X.T[k]).1 := by unfold TS.kind; rw [List.getElem?_eq_getElem h]
  rw [List.drop_eq_getElem_cons h, e1]
  rfl
def RP (R : Nat) (ta : Option Addr) (tc : Nat) (S : ByteArray) (X : TS) (s : PS) (w : World) (e : Ending) (w' : World) : Prop := e = .returned (.tuple #[]) ∧ RS w' R ta tc S X s ∧ w.grownBy w' (some R)
set_option maxHeartbeats 8000000 in
theorem skip_any (R : Nat) (ta : Option Addr) (tc : Nat) (S : ByteArray) (X : TS) (s : PS) (w : World) (h : RS w R ta tc S X s) (hT : X.T.length ≤ 20000) (hi : s.i ≤ 100000) :
    Calls Try.prog 19 #[.pointer (some ⟨R, 0, none⟩)] w (RP R ta tc S X (s.skip X) w) := by
  have hH := Lib.hid h
  clear h
  go_enter Try.func19, Try.ntmps19
  go_wp2_with fail
  go_loopg [] (skipN (X.T.drop s.i)) (fun g wx => ∃ k : Nat, s.i ≤ k ∧ k ≤ 200000 ∧ k + g = (s.skip X).i ∧ g = skipN (X.T.drop k) ∧ RS wx R ta tc S X { s with i := k } ∧ w.grownBy wx (some R))
  case atStart => exact ⟨s.i, Nat.le_refl _, by omega, rfl, rfl, hH.out, World.grownBy.refl _ _⟩
  case round =>
    obtain ⟨k, hk, hk2, hkg, hg, hr, hw⟩ := hrel
    obtain ⟨c0, c1, c2, c3, c4, fz⟩ := hr.cells
    have HR := Lib.hid hr
    have HW := Lib.hid hw
    simp only at c2 c3 c4
    clear hw hr
    by_cases hlt : k < X.T.length
    · obtain ⟨b, rfl, d0, d1⟩ := HR.out.tok3 k hlt
      have hsn := skipN_here hlt
      rw [← hg] at hsn
      have hi1 : (0 : Int) ≤ (k : Int) := by omega
      have hi2 : (k : Int) < (X.T.length : Int) := by omega
      have t1 : decide ((k : Int) < (X.T.length : Int)) = true := decide_eq_true hi2
      have hkn : (k : Int).toNat = k := rfl
      have HS := Lib.hid (solid_any (X.kind k))
      obtain ⟨kd, hkd⟩ : ∃ kd, kd = X.kind k := ⟨_, rfl⟩
      rw [← hkd] at HS d0 hsn
      clear hkd
      cases hsol : solidK kd with
      | true =>
        rw [hsol] at HS hsn
        rw [if_pos rfl] at hsn
        have hfin : s.skip X = { s with i := k } := by unfold PS.skip at hkg ⊢; simp only at hkg; rw [← hkg, hsn]; rfl
        have HF := Lib.hid hfin
        clear hfin hg hsn hkg hsol
        go_wp2_with fail
        go_quiet ((refine (HS.out _).mono ?_; rintro e w' ⟨rfl, rfl⟩; exact ⟨rfl, _, rfl⟩))
        go_wp2_with fail
        exact bodyPost_ret (v := .tuple #[]) (by simp [results, Try.results19, go_sem]) rfl ⟨rfl, by rw [HF.out]; exact HR.out.drewN _, HW.out.trans (grown_drew _ _ _)⟩
      | false =>
        rw [hsol] at HS hsn
        rw [if_neg (by decide)] at hsn
        have g3 : skipN (X.T.drop (k + 1)) = gk - 1 := by omega
        have hk3 : k + 1 + (gk - 1) = (s.skip X).i := by omega
        have hgpos : gk - 1 < gk := by omega
        have HG3 := Lib.hid g3
        have HK3 := Lib.hid hk3
        have HP := Lib.hid hgpos
        clear hg hsn hkg hsol g3 hk3 hgpos
        go_wp2_with fail
        go_quiet ((refine (HS.out _).mono ?_; rintro e w' ⟨rfl, rfl⟩; exact ⟨rfl, _, rfl⟩))
        go_wp2_with fail
        go_roundg (gk - 1)
        case measure => exact HP.out
        case rel => exact ⟨k + 1, by omega, by omega, HK3.out, HG3.out.symm, (HR.out.drewN _).set2 (k + 1), (HW.out.trans (grown_drew _ _ _)).trans (grown_set _ R 2 _)⟩
    · have t1 : decide ((k : Int) < (X.T.length : Int)) = false := decide_eq_false (by omega)
      have hg0 : skipN (X.T.drop k) = 0 := by rw [List.drop_eq_nil_of_le (by omega)]; rfl
      have hfin : s.skip X = { s with i := k } := by unfold PS.skip at hkg ⊢; simp only at hkg; rw [← hkg, hg, hg0]; rfl
      have HF := Lib.hid hfin
      clear hfin hg hkg hg0
      go_wp2_with fail
      go_quiet (fail)
      go_wp2_with fail
      exact bodyPost_ret (v := .tuple #[]) (by simp [results, Try.results19, go_sem]) rfl ⟨rfl, by rw [HF.out]; exact HR.out.drewN _, HW.out.trans (grown_drew _ _ _)⟩

set_option maxHeartbeats 4000000 in
theorem fail_any (e : Int) (R : Nat) (ta : Option Addr) (tc : Nat) (S : ByteArray) (X : TS) (s : PS) (w : World) (h : RS w R ta tc S X s) (hT : X.T.length ≤ 20000) (hi : s.i ≤ 200000) :
    Calls Try.prog 20 #[.pointer (some ⟨R, 0, none⟩), .int .i64 e] w (RP R ta tc S X (s.fail X e) w) := by
  have HR := Lib.hid h
  obtain ⟨c0, c1, c2, c3, c4, fz⟩ := h.cells
  clear h
  by_cases h0 : s.bad = 0
  · have t0 : (s.bad != 0) = false := by simpa using h0
    have he : s.fail X e = { s with bad := e, wh := X.pos s.i } := by unfold PS.fail; rw [if_neg (fun h => h h0)]
    have HE := Lib.hid he
    have hl : S.size = X.l.length := by rw [Lib.size_eq, HR.out.str]
    clear he h0
    obtain ⟨w4, hw4⟩ : ∃ w4, w4 = (w.setCell ⟨R, 3, none⟩ (.int .i64 e)).setCell ⟨R, 4, none⟩ (.int .i64 X.l.length) := ⟨_, rfl⟩
    have hr4 := HR.out.set34 e X.l.length
    rw [← hw4] at hr4
    have hg4 : w.grownBy w4 (some R) := by rw [hw4]; exact (grown_set w R 3 _).trans (grown_set _ R 4 _)
    obtain ⟨a0, a1, a2, a3, a4, fz4⟩ := hr4.cells
    simp only at a2 a3 a4
    have HR4 := Lib.hid hr4
    have HG4 := Lib.hid hg4
    have HW4 := Lib.hid hw4
    have q3 : (w.setCell ⟨R, 3, none⟩ (.int .i64 e)).cell? ⟨R, 4, none⟩ = some (.int .i64 s.wh) := by rw [World.cell?_setCell_other _ _ _ _ (by simp)]; exact c4
    have q0 : (w.setCell ⟨R, 3, none⟩ (.int .i64 e)).cell? ⟨R, 0, none⟩ = some (.string S) := by rw [World.cell?_setCell_other _ _ _ _ (by simp)]; exact c0
    clear hr4 hg4 hw4
    by_cases hlt : s.i < X.T.length
    · obtain ⟨b, rfl, d0, d1⟩ := HR4.out.tok3 s.i hlt
      have t1 : decide ((s.i : Int) < (X.T.length : Int)) = true := decide_eq_true (by omega)
      have hi1 : (0 : Int) ≤ (s.i : Int) := by omega
      have hi2 : (s.i : Int) < (X.T.length : Int) := by omega
      have hkn : (s.i : Int).toNat = s.i := rfl
      go_enter Try.func20, Try.ntmps20
      go_wp2_with fail
      rw [← HW4.out]
      go_quiet (fail)
      go_wp2_with fail
      have hr5 := HR4.out.drewN nq
      have hg5 := HG4.out.trans (grown_drew w4 nq (some R))
      generalize w4.drewN nq = w5 at hr5 hg5 ⊢
      obtain ⟨b', hb', e0, e1⟩ := hr5.tok3 s.i hlt
      cases hb'
      obtain ⟨i0, i1, i2, i3, i4, fz5⟩ := hr5.cells
      simp only at i2 i3 i4
      have HR5 := Lib.hid hr5
      have HG5 := Lib.hid hg5
      clear a0 a1 a2 a3 a4 fz4 c0 c1 c2 c3 c4 fz d0 d1 q0 q3 hr5 hg5
      have hbR : b ≠ R := HR5.out.far _ rfl
      have HK : ∀ v, (w5.setCell ⟨R, 4, none⟩ v).drew.cell? ⟨R, 1, none⟩ = some (.slice (some ⟨b, 0, none⟩) X.T.length tc) ∧ (w5.setCell ⟨R, 4, none⟩ v).drew.cell? ⟨R, 2, none⟩ = some (.int .i64 s.i) ∧ (w5.setCell ⟨R, 4, none⟩ v).drew.cell? ⟨b, s.i * 3 + 1, none⟩ = some (.int .i64 (X.pos s.i)) := fun v =>
        ⟨(World.cell?_setCell_other w5 ⟨R, 4, none⟩ ⟨R, 1, none⟩ v (by simp)).trans i1, (World.cell?_setCell_other w5 ⟨R, 4, none⟩ ⟨R, 2, none⟩ v (by simp)).trans i2, (World.cell?_setCell_other w5 ⟨R, 4, none⟩ ⟨b, s.i * 3 + 1, none⟩ v (fun h => hbR (congrArg Addr.block h).symm)).trans e1⟩
      go_region_held3 (fun w' => w'.cell? ⟨R, 1, none⟩ = some (.slice (some ⟨b, 0, none⟩) X.T.length tc) ∧ w'.cell? ⟨R, 2, none⟩ = some (.int .i64 s.i) ∧ w'.cell? ⟨b, s.i * 3 + 1, none⟩ = some (.int .i64 (X.pos s.i))) (first | exact HK _ | go_keep) (fail)
      have HR6 : RS (w5.setCell ⟨R, 4, none⟩ (.int .i64 (X.pos s.i))).drew R (some ⟨b, 0, none⟩) tc S X (s.fail X e) := by
        rw [HE.out]
        exact (HR5.out.set4 (X.pos s.i)).drewN 1
      exact bodyPost_ret (v := .tuple #[]) (by simp [results, Try.results20, go_sem]) rfl ⟨rfl, HR6, (HG5.out.trans (grown_set w5 R 4 _)).trans (grown_drew _ 1 _)⟩
    · have t1 : decide ((s.i : Int) < (X.T.length : Int)) = false := decide_eq_false (by omega)
      have hp : X.pos s.i = X.l.length := by unfold TS.pos; rw [List.getElem?_eq_none (by omega)]
      go_enter Try.func20, Try.ntmps20
      go_wp2_with fail
      rw [← HW4.out]
      go_quiet (fail)
      go_wp2_with fail
      exact bodyPost_ret (v := .tuple #[]) (by simp [results, Try.results20, go_sem]) rfl ⟨rfl, by rw [HE.out, hp]; exact HR4.out.drewN _, HG4.out.trans (grown_drew _ _ _)⟩
  · have t0 : (s.bad != 0) = true := by simpa using h0
    have he : s.fail X e = s := by unfold PS.fail; rw [if_pos h0]
    have HE := Lib.hid he
    clear he h0
    go_enter Try.func20, Try.ntmps20
    go_wp2_with fail
    exact bodyPost_ret (v := .tuple #[]) (by simp [results, Try.results20, go_sem]) rfl ⟨rfl, by rw [HE.out]; exact HR.out, World.grownBy.refl _ _⟩
end Go.Proofs.Ytfjeikijmconoaa
