/-
  Plain law: changes back, over each other, joined, and nothing. No conditions.
-/
import Derived.Test.YtaibpnblnigkgaaSpliceW
namespace Go.Proofs.Ytaibpnblnigkgaa
open Go.RowKit Gx

theorem apErr_of {s : List UInt8} {l : List Part} (h1 : chk l = 0) (h2 : U.over (ex l) = s.length) : apErr s l = 0 := by
  unfold apErr; rw [if_pos h1, if_pos h2]
theorem back_law {s : List UInt8} {l : List Part} (h : apErr s l = 0) (hb : (nf (inv (ex l) s)).length ≤ 400) :
    apErr (apT s l) (nf (inv (ex l) s)) = 0 ∧ apT (apT s l) (nf (inv (ex l) s)) = s ∧ nf (inv (ex (nf (inv (ex l) s))) (apT s l)) = nf (ex l) := by
  obtain ⟨hc, ho, hm⟩ := apT_len h
  obtain ⟨-, -, h1, h2⟩ := chk_zero.1 hc
  obtain ⟨i1, i2, i3, i4⟩ := inv_law (ex l) s ho.symm
  have hs := same_nf (inv (ex l) s)
  refine ⟨apErr_of (chk_of (fun q hq => (nz_nf _ q hq).okP) hb ?_ ?_) ?_, ?_, ?_⟩
  · rw [hs.over, i1]; exact h2
  · rw [hs.makes, i2]; exact h1
  · rw [hs.over, i1]; exact hm
  · exact (hs.app id (apT s l)).trans i3
  · rw [same_inv hs]
    show nf (inv (inv (ex l) s) (U.app id (ex l) s)) = _
    rw [i4]

theorem meets_law {s : List UInt8} {a b : List Part} (h : TrOk a b) (ha : apErr s a = 0) (hb : apErr s b = 0) :
    apErr (apT s a) (trR a b) = 0 ∧ apErr (apT s b) (trL a b) = 0 ∧ apT (apT s a) (trR a b) = apT (apT s b) (trL a b) := by
  obtain ⟨-, oa, ma⟩ := apT_len ha
  obtain ⟨-, ob, mb⟩ := apT_len hb
  have s1 := same_nf (ex a)
  have s2 := same_nf (ex b)
  obtain ⟨o1, o2, o3⟩ := tr_law _ (ex (nf (ex a))) (ex (nf (ex b))) (Nat.le_refl _) (by rw [s1.over, s2.over, h.oo])
  have l1 := same_nf (tr (ex (nf (ex a))) (ex (nf (ex b)))).1
  have l2 := same_nf (tr (ex (nf (ex a))) (ex (nf (ex b)))).2
  refine ⟨apErr_of h.r2 ?_, apErr_of h.r1 ?_, ?_⟩
  · exact l2.over.trans (o2.trans (s1.makes.trans ma))
  · exact l1.over.trans (o1.trans (s2.makes.trans mb))
  · have := o3 id s (by rw [s1.over]; exact oa.symm)
    rw [s1.app, s2.app] at this
    exact (l2.app id _).trans (this.trans (l1.app id _).symm)

theorem cmp_same (a b : List Part) (h : CmpOk a b) : U.over (ex (cmpT a b)) = U.over (ex a) ∧ U.makes (ex (cmpT a b)) = U.makes (ex b) ∧ Same (ex (cmpT a b)) (comp (ex (nf (ex a))) (ex (nf (ex b)))) := by
  have s1 := same_nf (ex a)
  have s2 := same_nf (ex b)
  obtain ⟨o1, o2, -⟩ := comp_law _ (ex (nf (ex a))) (ex (nf (ex b))) (Nat.le_refl _) (by rw [s1.makes, s2.over, h.mo])
  have l1 := same_nf (comp (ex (nf (ex a))) (ex (nf (ex b))))
  exact ⟨l1.over.trans (o1.trans s1.over), l1.makes.trans (o2.trans s2.makes), l1⟩
theorem join_law {s : List UInt8} {a b : List Part} (h : CmpOk a b) (ha : apErr s a = 0) : apErr s (cmpT a b) = 0 ∧ apT s (cmpT a b) = apT (apT s a) b := by
  obtain ⟨-, oa, ma⟩ := apT_len ha
  obtain ⟨c1, c2, c3⟩ := cmp_same a b h
  have s1 := same_nf (ex a)
  have s2 := same_nf (ex b)
  obtain ⟨-, -, o3⟩ := comp_law _ (ex (nf (ex a))) (ex (nf (ex b))) (Nat.le_refl _) (by rw [s1.makes, s2.over, h.mo])
  refine ⟨apErr_of h.r0 (c1.trans oa), ?_⟩
  have := o3 id s (by rw [s1.over]; exact oa.symm)
  rw [s1.app, s2.app] at this
  exact (c3.app id s).trans this
theorem three_law {a b c : List Part} (h1 : CmpOk a b) (h2 : CmpOk b c) (h3 : CmpOk (cmpT a b) c) (h4 : CmpOk a (cmpT b c)) : cmpT (cmpT a b) c = cmpT a (cmpT b c) := by
  have s1 := same_nf (ex a)
  have s2 := same_nf (ex b)
  have s3 := same_nf (ex c)
  obtain ⟨-, -, c1⟩ := cmp_same a b h1
  obtain ⟨-, -, c2⟩ := cmp_same b c h2
  have t1 := (same_nf (ex (cmpT a b))).trans c1
  have t2 := (same_nf (ex (cmpT b c))).trans c2
  exact comp_three (by rw [s1.makes, s2.over, h1.mo]) (by rw [s2.makes, s3.over, h2.mo]) t1 t2

def keepAll (n : Nat) : List Part := [(1, (n : Int), [])]
theorem ex_keepAll (n : Nat) : ex (keepAll n) = List.replicate n .k := by simp [keepAll, ex, ex1]
theorem chk_keepAll (n : Nat) (h : n ≤ 20000) : chk (keepAll n) = 0 := by
  refine chk_of (fun q hq => ?_) (by simp [keepAll]) ?_ ?_
  · simp [keepAll] at hq; subst hq; exact keepOk n
  · rw [ex_keepAll, U.over_ks]; exact h
  · rw [ex_keepAll, U.makes_ks]; exact h
theorem nothing_law {l : List Part} (h : chk l = 0) :
    (CmpOk (keepAll (U.over (ex l))) l ∧ cmpT (keepAll (U.over (ex l))) l = nf (ex l)) ∧ (CmpOk l (keepAll (U.makes (ex l))) ∧ cmpT l (keepAll (U.makes (ex l))) = nf (ex l)) ∧
    (TrOk (keepAll (U.over (ex l))) l ∧ trL (keepAll (U.over (ex l))) l = nf (ex (keepAll (U.makes (ex l)))) ∧ trR (keepAll (U.over (ex l))) l = nf (ex l)) ∧ chk (keepAll (U.makes (ex l))) = 0 := by
  obtain ⟨-, -, h1, h2⟩ := chk_zero.1 h
  have s1 := same_nf (ex l)
  have k1 := chk_keepAll _ h1
  have k2 := chk_keepAll _ h2
  have e1 : cmpT (keepAll (U.over (ex l))) l = nf (ex l) := by
    unfold cmpT
    rw [ex_keepAll, nf_ks, ← s1.over, comp_keep_left, nf_nf]
  have e2 : cmpT l (keepAll (U.makes (ex l))) = nf (ex l) := by
    unfold cmpT
    rw [ex_keepAll, nf_ks, ← s1.makes, comp_keep_right, nf_nf]
  have e3 : trL (keepAll (U.over (ex l))) l = nf (ex (keepAll (U.makes (ex l)))) := by
    unfold trL
    rw [ex_keepAll, ex_keepAll, nf_ks, ← s1.over, tr_keep, s1.makes]
  have e4 : trR (keepAll (U.over (ex l))) l = nf (ex l) := by
    unfold trR
    rw [ex_keepAll, nf_ks, ← s1.over, tr_keep]
    exact nf_nf _
  refine ⟨⟨⟨k1, h, by rw [ex_keepAll, U.makes_ks], by rw [e1]; exact chk_nf h⟩, e1⟩, ⟨⟨h, k2, by rw [ex_keepAll, U.over_ks], by rw [e2]; exact chk_nf h⟩, e2⟩, ⟨⟨k1, h, by rw [ex_keepAll, U.over_ks], by rw [e3]; exact chk_nf k2, by rw [e4]; exact chk_nf h⟩, e3, e4⟩, k2⟩
end Go.Proofs.Ytaibpnblnigkgaa
