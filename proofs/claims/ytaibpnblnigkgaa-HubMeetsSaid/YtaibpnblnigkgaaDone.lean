/-
  The contract of the builder's done; how large builders grow. Conditions: the builder lies in memory of the call's own.
-/
import Derived.Test.YtaibpnblnigkgaaAddObj
namespace Go.Proofs.Ytaibpnblnigkgaa
open Go.RowKit Gx

/-- builders of changes of few bytes are small -/
theorem small_of (us : List U) (q : Part) (h : U.over us + U.makes us ≤ 90000) (hn : q.2.1 ≤ 90000) (hs : q.2.2.length ≤ 90000) : Small (stU us) q := by
  have hl := st_len us
  refine ⟨by omega, by omega, by omega, by omega, by omega, fun x hx => ?_⟩
  have hz := nz_st us x hx
  obtain ⟨hk, h0, h3, h4⟩ := hz.1
  refine ⟨h0, ?_⟩
  have hso := (same_st us).over
  unfold exS at hso
  rw [U.over_append] at hso
  have hom := over_mem hx
  have h1 := over_ex1 x hz.1
  by_cases h5 : x.1 = 3
  · have := h3 h5; omega
  · rw [if_neg h5] at h1; omega

theorem take_bound (l : List Part) (j : Nat) : U.over (ex (l.take j)) ≤ U.over (ex l) ∧ U.makes (ex (l.take j)) ≤ U.makes (ex l) := by
  have e : ex l = ex (l.take j) ++ ex (l.drop j) := by rw [← ex_append, List.take_append_drop]
  rw [e, U.over_append, U.makes_append]; omega

theorem own_weaken {w : World} {base base' : Nat} {e : TypeId} {size : Nat} {v : Value} {n : Nat} {xs : List Value} (h : w.ownsRow base e size v n xs) (hb : base' ≤ base) : w.ownsRow base' e size v n xs := by
  refine ⟨h.1, ?_⟩
  rcases h.2 with h2 | ⟨r, cap, cur, hv, hr, rest⟩
  · exact .inl h2
  · exact .inr ⟨r, cap, cur, hv, Nat.le_trans hb hr, rest⟩
theorem chg_box (w : World) (q : Part) : Chg (fun _ => False) w (w.alloc (.cells #[.int .i64 q.1, .int .i64 q.2.1, .string (bs q.2.2)] 54)) := (Chg.refl _ w).alloc _

/-- what a call makes: parts, in memory of its own -/
def MadePost (base : Nat) (l : List Part) (w : World) (e : Ending) (w' : World) : Prop :=
  ∃ vo vc, e = .returned (.slice vo l.length vc) ∧ w'.ownsRow base 54 3 (.slice vo l.length vc) l.length (partCells l)

set_option maxHeartbeats 1000000 in
theorem done_any (w : World) (base : Nat) (F : Nat → Prop) (g : Nat) (st : Bst) (v : Value) (h : Bd w base F g st v) (hb : base ≤ w.heap.size) (hs : st.1.length ≤ 100000) (hc : st.2.1 ≤ 100000) :
    Calls Try.prog 39 #[.pointer (some ⟨g, 0, none⟩)] w fun e w' => MadePost base (doneS st) w e w' ∧ Chg F w w' := by
  have HB := Lib.hid h
  clear h
  go_enter Try.func39, Try.ntmps39
  go_wp2_with fail
  refine (flush_any w base F g st v HB.out hb hs hc).mono ?_
  rintro e w2 ⟨rfl, F2, v2, hb2, hF2, hc2⟩
  have c0 := hb2.cell0
  have f0 := hb2.froz 0
  have hlt := hb2.lt
  obtain ⟨vo, vc, rfl⟩ := hb2.form
  have HB2 := Lib.hid hb2
  have HC2 := Lib.hid hc2
  clear hb2 hc2 hF2
  go_wp2
  go_ret
  exact ⟨⟨vo, vc, rfl, HB2.out.own⟩, HC2.out⟩
end Go.Proofs.Ytaibpnblnigkgaa
