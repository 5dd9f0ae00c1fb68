/-
  The walk of typecasekeep.UtfCuts. Conditions: Go's two tables of utf8 lie in the world; the text has at most 1048576 bytes.
-/
import Derived.Test.YtiklmgjacdoeoaaDoorUtfRunes
namespace Go.Proofs.YtiklmgjacdoeoaaDoor
open Go.RowKit Gx

theorem rd_tail {k : IntKind} {w : World} {g cap : Nat} {xs : List Int} (h : Rd k w (some ⟨g, 0, none⟩) cap xs) (q : Nat) (hq : q ≤ xs.length) : Rd k w (some ⟨g, q, none⟩) (cap - q) (xs.drop q) := by
  rcases Nat.lt_or_ge q xs.length with hlt | hge
  · obtain ⟨h1, h2, h3⟩ := h.at_ _ rfl (by omega)
    refine ⟨by have := h.ncap; simp; omega, by have := h.cap63; omega, fun x hx => h.wf x (List.mem_of_mem_drop hx), fun e => by simp at e, fun a ha hp => ?_⟩
    obtain rfl := Option.some.inj ha
    refine ⟨rfl, h2, fun j hj => ?_⟩
    have := h3 (q + j) (by simp at hj; omega)
    simp only [Nat.zero_add] at this ⊢
    rw [this]
    congr 2
    simp [List.getD, List.getElem?_drop]
  · rw [List.drop_eq_nil_of_le hge]
    exact Gx.Rd.nil _ _ _ _ (by have := h.cap63; omega) (fun e => by simp at e)

set_option maxRecDepth 4000 in
set_option maxHeartbeats 2000000 in
theorem utfCuts_walk (s : ByteArray) (n : Int) (w : World) (hT : Tabs w) (hs : s.size ≤ 1048576) :
    Calls Tryd.prog 4 #[.string s, .int .i64 n] w (TruePost w) := by
  have HT := Lib.hid hT
  clear hT
  by_cases hok : okText s.data.toList
  · obtain ⟨rs, hg, hl⟩ := hok
    have hlen : s.size = (encs rs).length := by rw [Lib.size_eq, hl]
    have HG := Lib.hid hg
    have HL := Lib.hid hl
    have HLN := Lib.hid hlen
    clear hg hl hlen
    go_enter Tryd.func4, Tryd.ntmps4
    go_wp2_with fail
    refine (utfs_any w).mono ?_
    rintro e w1 ⟨rfl, hb1⟩
    go_wp2_with fail
    refine (runes_yes s rs w1 (HT.out.keep hb1) (by omega) HG.out HL.out).mono ?_
    rintro e w2 ⟨g, cap, rfl, hr, hb⟩
    have hb2 : Below w.heap.size w w2 := hb1.trans (hb.mono hb1.size)
    have HR := Lib.hid hr
    clear hb hb1 hr
    go_wp2_with fail
    refine (cut_yes s rs n w2 (HT.out.keep hb2) (by omega) HG.out HL.out).mono ?_
    rintro e w3 ⟨rfl, hb⟩
    have hb3 : Below w.heap.size w w3 := hb2.trans (hb.mono hb2.size)
    replace HR := Lib.hid (HR.out.keep hb)
    clear hb hb2
    by_cases hin : 0 ≤ n ∧ n ≤ rs.length
    · obtain ⟨m, rfl⟩ := Int.eq_ofNat_of_zero_le hin.1
      have hm : m ≤ rs.length := by omega
      have hca : cutAt rs (m : Int) = ((encs (rs.take m)).length : Int) := by unfold cutAt; rw [if_pos hin, Int.toNat_natCast]
      have hce : cutErr rs (m : Int) = 0 := by unfold cutErr; rw [if_pos hin]
      rw [hca, hce]
      clear hca hce hin
      have h8 : encs rs = encs (rs.take m) ++ encs (rs.drop m) := by rw [← encs_append, List.take_append_drop]
      obtain ⟨xs1, e1⟩ : ∃ x, x = rs.take m := ⟨_, rfl⟩
      obtain ⟨xs2, e2⟩ : ∃ x, x = rs.drop m := ⟨_, rfl⟩
      have hg1 : xs1.all good = true := by rw [e1]; exact List.all_eq_true.2 fun x hx => List.all_eq_true.1 HG.out x (List.mem_of_mem_take hx)
      have hg2 : xs2.all good = true := by rw [e2]; exact List.all_eq_true.2 fun x hx => List.all_eq_true.1 HG.out x (List.mem_of_mem_drop hx)
      have hl1 : xs1.length = m := by rw [e1, List.length_take, Nat.min_eq_left hm]
      have hl2 : xs2.length = rs.length - m := by rw [e2, List.length_drop]
      have hrd1 := HR.out.front m hm
      have hrd2 := rd_tail HR.out m hm
      have hcap := HR.out.ncap
      have hc63 := HR.out.cap63
      rw [← e1] at h8 hrd1 ⊢
      rw [← e2] at h8 hrd2
      obtain ⟨p, hp⟩ : ∃ p, p = (encs xs1).length := ⟨_, rfl⟩
      have hps : p ≤ s.size := by rw [HLN.out, hp, h8, List.length_append]; omega
      have hf1 : (s.extract 0 p).data.toList = encs xs1 := by
        rw [Lib.extract_data, List.drop_zero, Nat.sub_zero, HL.out, h8, hp, List.take_left]
      have hf2 : (s.extract p s.size).data.toList = encs xs2 := by
        rw [Lib.extract_to_end, HL.out, h8, hp, List.drop_left]
      rw [← hp]
      have HG1 := Lib.hid hg1
      have HG2 := Lib.hid hg2
      have HL1 := Lib.hid hl1
      have HL2 := Lib.hid hl2
      have HR1 := Lib.hid hrd1
      have HR2 := Lib.hid hrd2
      have HF1 := Lib.hid hf1
      have HF2 := Lib.hid hf2
      have E2 := Lib.hid e2
      clear h8 e1 e2 hg1 hg2 hl1 hl2 hrd1 hrd2 hp hf1 hf2 HR
      have t1 : decide ((p : Int) < 0) = false := decide_eq_false (by omega)
      have t2 : decide ((s.size : Int) < (p : Int)) = false := decide_eq_false (by omega)
      have t3 : decide ((m : Int) < 0) = false := decide_eq_false (by omega)
      have t4 : decide ((rs.length : Int) < (m : Int)) = false := decide_eq_false (by omega)
      go_wp2_with fail
      refine (runes_yes (s.extract 0 p) xs1 w3 (HT.out.keep hb3) (by simp; omega) HG1.out HF1.out).mono ?_
      rintro e w4 ⟨g1, cap1, rfl, hr, hb⟩
      have hb4 : Below w.heap.size w w4 := hb3.trans (hb.mono hb3.size)
      have HA := Lib.hid hr
      replace HR1 := Lib.hid (HR1.out.keep hb)
      replace HR2 := Lib.hid (HR2.out.keep hb)
      clear hb hb3 hr
      go_wp2_with fail
      refine (runes_yes (s.extract p s.size) xs2 w4 (HT.out.keep hb4) (by simp; omega) HG2.out HF2.out).mono ?_
      rintro e w5 ⟨g2, cap2, rfl, hr, hb⟩
      have hb5 : Below w.heap.size w w5 := hb4.trans (hb.mono hb4.size)
      have HB := Lib.hid hr
      replace HA := Lib.hid (HA.out.keep hb)
      replace HR1 := Lib.hid (HR1.out.keep hb)
      replace HR2 := Lib.hid (HR2.out.keep hb)
      clear hb hb4 hr
      have hq1 := runesEqual_any _ _ _ _ xs1 w5 HA.out HR1.out
      rw [HL1.out] at hq1 ⊢
      have HQ1 := Lib.hid hq1
      rw [HL2.out]
      clear hq1
      go_wp2_with fail
      refine HQ1.out.mono ?_
      rintro e w6 ⟨rfl, hb⟩
      have hb6 : Below w.heap.size w w6 := hb5.trans (hb.mono hb5.size)
      replace HB := Lib.hid (HB.out.keep hb)
      replace HR2 := Lib.hid (HR2.out.keep hb)
      clear hb hb5
      by_cases hcm : cap = m
      · have hx2 : xs2 = [] := by rw [E2.out]; exact List.drop_eq_nil_of_le (by omega)
        have hq2 := runesEqual_any (some ⟨g2, 0, none⟩) (some ⟨g, 0, none⟩) cap2 0 [] w6 (by rw [← hx2]; exact HB.out) (Gx.Rd.nil _ _ _ _ (by omega) (fun e => by simp at e))
        have hlm : rs.length - m = 0 := by omega
        have HQ2 := Lib.hid hq2
        clear hq2
        clear HG HL HLN HG1 HG2 HF1 HF2 HA HR1 HB HR2 HQ1 E2
        subst hcm
        go_wp2_with fail
        refine HQ2.out.mono ?_
        rintro e w7 ⟨rfl, hb⟩
        have hb7 : Below w.heap.size w w7 := hb6.trans (hb.mono hb6.size)
        go_wp2
        go_ret
        exact ⟨rfl, hb7⟩
      · have hq2 := runesEqual_any (some ⟨g2, 0, none⟩) (some ⟨g, m, none⟩) cap2 (cap - m) xs2 w6 HB.out HR2.out
        rw [HL2.out] at hq2
        have HQ2 := Lib.hid hq2
        clear hq2
        go_wp2_with fail
        refine HQ2.out.mono ?_
        rintro e w7 ⟨rfl, hb⟩
        have hb7 : Below w.heap.size w w7 := hb6.trans (hb.mono hb6.size)
        go_wp2
        go_ret
        exact ⟨rfl, hb7⟩
    · have hca : cutAt rs n = 0 := by unfold cutAt; rw [if_neg hin]
      have hce : cutErr rs n = 1 := by unfold cutErr; rw [if_neg hin]
      rw [hca, hce]
      clear hca hce hin
      go_wp2
      go_ret
      exact ⟨rfl, hb3⟩
  · have HOK := Lib.hid hok
    clear hok
    go_enter Tryd.func4, Tryd.ntmps4
    go_wp2_with fail
    refine (utfs_any w).mono ?_
    rintro e w1 ⟨rfl, hb1⟩
    go_wp2_with fail
    refine (runes_no s w1 (HT.out.keep hb1) (by omega) HOK.out).mono ?_
    rintro e w2 ⟨rfl, hb⟩
    have hb2 : Below w.heap.size w w2 := hb1.trans (hb.mono hb1.size)
    clear hb hb1
    go_wp2_with fail
    refine (cut_no s n w2 (HT.out.keep hb2) (by omega) HOK.out).mono ?_
    rintro e w3 ⟨rfl, hb⟩
    have hb3 : Below w.heap.size w w3 := hb2.trans (hb.mono hb2.size)
    clear hb hb2
    go_wp2
    go_ret
    exact ⟨rfl, hb3⟩
end Go.Proofs.YtiklmgjacdoeoaaDoor
