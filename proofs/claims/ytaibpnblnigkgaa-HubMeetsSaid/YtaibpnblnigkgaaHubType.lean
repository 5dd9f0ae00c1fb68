/-
  The contract of a hub's Type. Conditions: the hub and the parts lie in memory.
-/
import Derived.Test.YtaibpnblnigkgaaHubJoin
import Derived.Test.YtaibpnblnigkgaaHubSee
import Derived.Deep.RegionHeld3
namespace Go.Proofs.Ytaibpnblnigkgaa
open Go.RowKit Gx
set_option maxRecDepth 100000

theorem HM.fresh {B R C cap : Nat} {h : Hb} {w w2 : World} (m : HM B R C cap h w) {ad : Option Addr} {c : Nat} {l : List Part} (hp : PR w2 ad c l) (hf : Fresh w.heap.size ad) : Pt.At w2 R C h.lv ⟨l, ad, c⟩ := by
  have h1 := m.rlt
  have h2 := m.row.lt
  have h3 := m.own.lt
  refine ⟨hp, fun a ha _ => ?_⟩
  have h4 := hf a ha
  exact ⟨by omega, by omega, fun e => by have := (h3 _ e).2; omega⟩
theorem set_set {α : Type} (l : List α) (i : Nat) (a b : α) : (l.set i a).set i b = l.set i b := by simp
theorem get_set {α : Type} {l : List α} {i : Nat} {a b : α} (h : l[i]? = some a) : (l.set i b)[i]? = some b := by
  rw [List.getElem?_set_self (List.getElem?_eq_some_iff.1 h).1]
/-- a client's text and what it holds, laid in either order -/
theorem Row.typed {w : World} {C : Nat} {cls : List Cl} (r : Row w C cls) {k : Nat} {x : Cl} (hk : cls[k]? = some x) (t : ByteArray) (b : Mb) :
    Row (((w.setCell ⟨C, k * 6, none⟩ (.string t)).setCell ⟨C, k * 6 + 4, none⟩ (.bool b.is)).setCell ⟨C, k * 6 + 5, none⟩ (.slice b.ad b.l.length b.cap)) C (cls.set k { x with text := t, held := b }) ∧
    Row (((w.setCell ⟨C, k * 6 + 4, none⟩ (.bool b.is)).setCell ⟨C, k * 6 + 5, none⟩ (.slice b.ad b.l.length b.cap)).setCell ⟨C, k * 6, none⟩ (.string t)) C (cls.set k { x with text := t, held := b }) := by
  constructor
  · have r1 := r.store hk 0 (.string t) (by decide) { x with text := t } rfl
    have r2 := r1.store (get_set hk) 4 (.bool b.is) (by decide) { x with text := t, held := { x.held with is := b.is } } rfl
    have r3 := r2.store (get_set (get_set hk)) 5 (.slice b.ad b.l.length b.cap) (by decide) { x with text := t, held := b } rfl
    rw [set_set, set_set] at r3
    exact r3
  · have r1 := r.store hk 4 (.bool b.is) (by decide) { x with held := { x.held with is := b.is } } rfl
    have r2 := r1.store (get_set hk) 5 (.slice b.ad b.l.length b.cap) (by decide) { x with held := b } rfl
    have r3 := r2.store (get_set (get_set hk)) 0 (.string t) (by decide) { x with text := t, held := b } rfl
    rw [set_set, set_set] at r3
    exact r3
/-- what typing does -/
structure TypeStep (h : Hb) (n : Int) (l : List Part) (c : Int) (h' : Hb) : Prop where
  out : ¬ h.In n → c ≠ 0
  no : c ≠ 0 → h' = h
  ok : ∀ (k : Nat) x, n = k → h.cls[k]? = some x → (c = 0 ↔ apErr x.text.data.toList l = 0 ∧ JoinOk x.held.is x.held.l l)
  yes : ∀ (k : Nat) x, n = k → h.cls[k]? = some x → c = 0 → ∃ ad cap, h' = { h with cls := h.cls.set k { x with text := bs (apT x.text.data.toList l), held := ⟨true, joinT x.held.is x.held.l l, ad, cap⟩ } }
def TypeP (B R C cap : Nat) (h : Hb) (n : Int) (l : List Part) (w : World) (e : Ending) (w' : World) : Prop :=
  ∃ (c : Int) (h' : Hb), e = .returned (.int .i64 c) ∧ HM B R C cap h' w' ∧ TypeStep h n l c h' ∧ Kp R C h.lv w w'
theorem Type_no {B R C cap : Nat} {h : Hb} {w : World} (m : HM B R C cap h w) (n : Int) (hn : ¬ h.In n) (pd : Option Addr) (pn pc : Nat) (l : List Part) :
    Calls Try.prog 16 #[.pointer (some ⟨R, 0, none⟩), .int .i64 n, .slice pd pn pc] w (TypeP B R C cap h n l w) := by
  have H := Lib.hid (there_no m n hn)
  have HMM := Lib.hid m
  have HN := Lib.hid hn
  clear m hn
  go_enter Try.func16, Try.ntmps16
  go_wp2_with fail
  refine H.out.mono ?_
  rintro e w1 ⟨rfl, rfl⟩
  go_wp2
  go_ret
  exact ⟨1, h, rfl, HMM.out, ⟨fun _ => by decide, fun _ => rfl, fun k x hk hx => absurd ⟨by omega, by have := (List.getElem?_eq_some_iff.1 hx).1; omega⟩ HN.out, fun k x hk hx => absurd ⟨by omega, by have := (List.getElem?_eq_some_iff.1 hx).1; omega⟩ HN.out⟩, Kp.refl _ _ _ _⟩
set_option maxHeartbeats 8000000 in
theorem Type_yes {B R C cap : Nat} {h : Hb} {w : World} (m : HM B R C cap h w) (k : Nat) (x : Cl) (hk : h.cls[k]? = some x) (pd : Option Addr) (pc : Nat) (l : List Part) (hp : PR w pd pc l) :
    Calls Try.prog 16 #[.pointer (some ⟨R, 0, none⟩), .int .i64 k, .slice pd l.length pc] w (TypeP B R C cap h k l w) := by
  have hlt := (List.getElem?_eq_some_iff.1 hk).1
  have hcap := m.cl
  have H := Lib.hid (there_yes m k hlt)
  have HMM := Lib.hid m
  have HK := Lib.hid hk
  have HP := Lib.hid hp
  have HIN : Hid (h.In k) := ⟨by omega, by omega⟩
  have hBw : B ≤ w.heap.size := Nat.le_of_lt (Nat.lt_of_le_of_lt m.br m.rlt)
  have HSM : Hid (∀ y, h.cls[k]? = some y → y = x) := Lib.hid fun y hy => (Option.some.inj (hk.symm.trans hy)).symm
  have i1 : (0 : Int) ≤ (k : Int) := by omega
  have i2 : (k : Int) < (h.cls.length : Int) := by omega
  clear m hk hp
  obtain ⟨-, -, c2, -⟩ := HMM.out.cells
  obtain ⟨d0, d1, d2, d3, d4, d5, df⟩ := HMM.out.row.cell HK.out
  by_cases ha : apErr x.text.data.toList l = 0
  · have HA := Lib.hid ha
    have H1 := Lib.hid (Apply_ok x.text pd pc l w HP.out ha)
    clear ha
    go_enter Try.func16, Try.ntmps16
    go_wp2_with fail
    refine H.out.mono ?_
    rintro e w1 ⟨rfl, rfl⟩
    go_wp2_with fail
    refine H1.out.mono ?_
    rintro e w2 ⟨rfl, hb2⟩
    have HM2 := Lib.hid (HMM.out.below hb2)
    have HB2 := Lib.hid hb2
    clear hb2 H1 H c2 d0 d1 d2 d3 d4 d5 df
    obtain ⟨-, -, c2, -⟩ := HM2.out.cells
    obtain ⟨d0, d1, d2, d3, d4, d5, df⟩ := HM2.out.row.cell HK.out
    have HJ := Lib.hid (joined_any x.held.is x.held.ad pd x.held.cap pc x.held.l l w2 (HM2.out.parts x.held.pt (.inr ⟨x, List.mem_of_getElem? HK.out, .inr rfl⟩)).1 (HP.out.keep HB2.out))
    unfold JoinP at HJ
    obtain ⟨tx, htx⟩ : ∃ tx, bs (apT x.text.data.toList l) = tx := ⟨_, rfl⟩
    rw [htx]
    have HTX := Lib.hid htx
    clear htx
    go_wp2_with fail
    refine HJ.out.mono ?_
    rintro e w3 ⟨mo, jn, mc, c, rfl, hc1, hc2, hb3⟩
    have HM3 := Lib.hid (HM2.out.below hb3)
    have HB3 := Lib.hid ((Kp.refl R C h.lv w1).on (HB2.out.trans (hb3.mono HB2.out.size)))
    have HC1 := Lib.hid hc1
    have HC2 := Lib.hid hc2
    have HF := Lib.hid (fun ad (hf : Fresh w2.heap.size ad) => (fun a ha => Nat.le_trans HB2.out.size (hf a ha) : Fresh w1.heap.size ad))
    clear hc1 hc2 HJ c2 d0 d1 d2 d3 d4 d5 df HM2 hb3
    have hz3 := HB3.out.size
    have hB3 : B ≤ w3.heap.size := Nat.le_of_lt (Nat.lt_of_le_of_lt HM3.out.br HM3.out.rlt)
    have HM4 := Lib.hid (HM3.out.below ((Below.refl w3.heap.size w3).alloc (Nat.le_refl _) (.cells #[.bool true, .slice mo jn mc] 67)))
    have HB4 := Lib.hid (HB3.out.alloc (.cells #[.bool true, .slice mo jn mc] 67))
    by_cases hc : c = 0
    · subst hc
      obtain ⟨rfl, hpj, hfj⟩ := HC2.out rfl
      have HPJ := Lib.hid hpj
      have HFJ := Lib.hid hfj
      obtain ⟨d0, d1, d2, d3, d4, d5, df⟩ := HM4.out.row.cell HK.out
      obtain ⟨t0, t1, -⟩ := two_cells (heap_alloc_new w3 (.cells #[.bool true, .slice mo (joinT x.held.is x.held.l l).length mc] 67))
      have df0 := df (k * 6)
      have df4 := df (k * 6 + 4)
      have df5 := df (k * 6 + 5)
      clear HC2 hpj hfj d1 d2 d3 df
      have HPJ4 := Lib.hid (HPJ.out.keep ((Below.refl w3.heap.size w3).alloc (Nat.le_refl _) (.cells #[.bool true, .slice mo (joinT x.held.is x.held.l l).length mc] 67)))
      go_wp2_with fail
      generalize w3.alloc (.cells #[.bool true, .slice mo (joinT x.held.is x.held.l l).length mc] 67) = w4 at *
      obtain ⟨T, hT⟩ : ∃ T, w3.heap.size = T := ⟨_, rfl⟩
      have hne : ¬ T = C := by have := HM3.out.row.lt; omega
      have hne2 : ¬ C = T := fun h => hne h.symm
      rw [hT] at t0 t1 ⊢
      have hp4 : PR w4 mo mc (joinT x.held.is x.held.l l) := HPJ4.out
      have hfr : Pt.At w4 R C h.lv ⟨joinT x.held.is x.held.l l, mo, mc⟩ := HMM.out.fresh hp4 (HF.out mo HFJ.out)
      have HKEY : Hid (∀ W : World, Row W C (h.cls.set k { x with text := tx, held := ⟨true, joinT x.held.is x.held.l l, mo, mc⟩ }) → w4.grownBy W (some C) → TypeP B R C cap h k l w1 (.returned (.int .i64 0)) W) := Lib.hid fun W hW hg => by
        have hfW : Pt.At W R C h.lv ⟨joinT x.held.is x.held.l l, mo, mc⟩ := ⟨hfr.1.over hg.size (fun a ha hl hlt => hg.block _ hlt (fun e => (hfr.2 a ha hl).2.1 (Option.some.inj e))), hfr.2⟩
        refine ⟨0, _, rfl, HM4.out.client hW hg (.inr (.inr ⟨x, List.mem_of_getElem? HK.out, .inl rfl⟩)) (.inl hfW), ⟨fun hn => absurd HIN.out hn, fun h => absurd rfl h, fun k' y hk' hy => ?_, fun k' y hk' hy _ => ?_⟩, HB4.out.row hg (fun k e => .inl (.inr (.inl (Option.some.inj e).symm)))⟩
        · obtain rfl : k = k' := by omega
          obtain rfl := HSM.out y hy
          exact ⟨fun _ => ⟨HA.out, by simpa using HC1.out⟩, fun _ => rfl⟩
        · obtain rfl : k = k' := by omega
          obtain rfl := HSM.out y hy
          exact ⟨mo, mc, by rw [HTX.out]⟩
      have HTY := Lib.hid (HM4.out.row.typed HK.out tx ⟨true, joinT x.held.is x.held.l l, mo, mc⟩)
      clear HM3 HB3 HC1 HF hz3 hB3 hp4 hfr HPJ4
      go_region_held3 (fun w' => w'.cell? ⟨T, 0, none⟩ = some (.bool true) ∧ w'.cell? ⟨T, 1, none⟩ = some (.slice mo (joinT x.held.is x.held.l l).length mc)) (first | exact ⟨t0, t1⟩ | go_keep) (fail)
      all_goals
        go_wp2_with fail
        try go_ret
        first
          | exact HKEY.out _ (HTY.out.1.keep rfl) ((((grown_set2 _ C _ _).trans (grown_set2 _ C _ _)).trans (grown_set2 _ C _ _)).trans ⟨rfl, rfl, rfl, Nat.le_refl _, fun _ _ _ => rfl⟩)
          | exact HKEY.out _ (HTY.out.2.keep rfl) ((((grown_set2 _ C _ _).trans (grown_set2 _ C _ _)).trans (grown_set2 _ C _ _)).trans ⟨rfl, rfl, rfl, Nat.le_refl _, fun _ _ _ => rfl⟩)
    · have tc : (c != 0) = true := by simpa using hc
      go_wp2_with fail
      try go_ret
      exact ⟨c, h, rfl, HM4.out, ⟨fun hn => absurd HIN.out hn, fun _ => rfl, fun k' y hk' hy => by
        obtain rfl : k = k' := by omega
        obtain rfl := HSM.out y hy
        exact ⟨fun h => absurd h hc, fun h => absurd (HC1.out.2 h.2) hc⟩, fun k' y hk' hy h0 => absurd h0 hc⟩, HB4.out⟩
  · have HA := Lib.hid ha
    have H1 := Lib.hid (Apply_no x.text pd pc l w HP.out ha)
    obtain ⟨c, hc⟩ : ∃ c, apErr x.text.data.toList l = c := ⟨_, rfl⟩
    rw [hc] at ha H1
    have tc : (c != 0) = true := by simpa using ha
    have HCC := Lib.hid ha
    clear hc ha
    go_enter Try.func16, Try.ntmps16
    go_wp2_with fail
    refine H.out.mono ?_
    rintro e w1 ⟨rfl, rfl⟩
    go_wp2_with fail
    refine H1.out.mono ?_
    rintro e w2 ⟨rfl, hb2⟩
    have HM2 := Lib.hid (HMM.out.below hb2)
    have HB2 := Lib.hid ((Kp.refl R C h.lv w1).on hb2)
    clear hb2 H1 H c2 d0 d1 d2 d3 d4 d5 df
    go_wp2_with fail
    try go_ret
    exact ⟨c, h, rfl, HM2.out, ⟨fun hn => absurd HIN.out hn, fun _ => rfl, fun k' y hk' hy => by
        obtain rfl : k = k' := by omega
        obtain rfl := HSM.out y hy
        exact ⟨fun h => absurd h HCC.out, fun h => absurd h.1 HA.out⟩, fun k' y hk' hy h0 => absurd h0 HCC.out⟩, HB2.out⟩
end Go.Proofs.Ytaibpnblnigkgaa
