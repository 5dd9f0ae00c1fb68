/-
  The contracts of Apply, Compose, Transform, whatever they answer. Conditions: the parts lie where the arguments say.
-/
import Derived.Test.YtaibpnblnigkgaaTransform
namespace Go.Proofs.Ytaibpnblnigkgaa
open Go.RowKit Gx

def ApplyW (s : List UInt8) (l : List Part) (w : World) (e : Ending) (w' : World) : Prop :=
  ∃ (t : ByteArray) (c : Int), e = .returned (.tuple #[.string t, .int .i64 c]) ∧ c = apErr s l ∧ (c = 0 → t = bs (apT s l)) ∧ Below w.heap.size w w'
theorem Apply_w (s : ByteArray) (ad : Option Addr) (cap : Nat) (l : List Part) (w : World) (h : PR w ad cap l) :
    Calls Try.prog 9 #[.string s, .slice ad l.length cap] w (ApplyW s.data.toList l w) := by
  by_cases hl : apErr s.data.toList l = 0
  · refine (Apply_ok s ad cap l w h hl).mono ?_
    rintro e w' ⟨rfl, hb⟩
    exact ⟨_, _, rfl, hl.symm, fun _ => rfl, hb⟩
  · refine (Apply_no s ad cap l w h hl).mono ?_
    rintro e w' ⟨rfl, hb⟩
    exact ⟨_, _, rfl, rfl, fun h => absurd h hl, hb⟩

/-- what two changes as one make -/
def cmpT (l m : List Part) : List Part := nf (comp (ex (nf (ex l))) (ex (nf (ex m))))
def trL (l m : List Part) : List Part := nf (tr (ex (nf (ex l))) (ex (nf (ex m)))).1
def trR (l m : List Part) : List Part := nf (tr (ex (nf (ex l))) (ex (nf (ex m)))).2
structure CmpOk (l m : List Part) : Prop where
  l0 : chk l = 0
  m0 : chk m = 0
  mo : U.makes (ex l) = U.over (ex m)
  r0 : chk (cmpT l m) = 0
structure TrOk (l m : List Part) : Prop where
  l0 : chk l = 0
  m0 : chk m = 0
  oo : U.over (ex l) = U.over (ex m)
  r1 : chk (trL l m) = 0
  r2 : chk (trR l m) = 0

def ComposeW (l m : List Part) (w : World) (e : Ending) (w' : World) : Prop :=
  ∃ (mo : Option Addr) (n mc : Nat) (c : Int), e = .returned (.tuple #[.slice mo n mc, .int .i64 c]) ∧ (c = 0 ↔ CmpOk l m) ∧ (c = 0 → n = (cmpT l m).length ∧ PR w' mo mc (cmpT l m) ∧ ∀ a, mo = some a → w.heap.size ≤ a.block) ∧ Below w.heap.size w w'
theorem composeW_no {l m : List Part} {w w' : World} {c : Int} (hc : c ≠ 0) (h : ¬ CmpOk l m) (hb : Below w.heap.size w w') : ComposeW l m w (.returned (.tuple #[.slice none 0 0, .int .i64 c])) w' :=
  ⟨_, _, _, _, rfl, ⟨fun h1 => absurd h1 hc, fun h1 => absurd h1 h⟩, fun h1 => absurd h1 hc, hb⟩

set_option maxHeartbeats 1000000 in
theorem Compose_w (ad bd : Option Addr) (ca cb : Nat) (l m : List Part) (w : World) (h : PR w ad ca l) (g : PR w bd cb m) :
    Calls Try.prog 25 #[.slice ad l.length ca, .slice bd m.length cb] w (ComposeW l m w) := by
  by_cases hl : chk l = 0
  · by_cases hm : chk m = 0
    · by_cases hmo : U.makes (ex l) = U.over (ex m)
      · refine (Compose_any ad bd ca cb l m w h g hl hm hmo).mono ?_
        rintro e w' ⟨h1, h2⟩
        by_cases hr : chk (cmpT l m) = 0
        · obtain ⟨mo, mc, rfl, hp, hb⟩ := h1 hr
          exact ⟨_, _, _, _, rfl, ⟨fun _ => ⟨hl, hm, hmo, hr⟩, fun _ => rfl⟩, fun _ => ⟨rfl, hp⟩, hb⟩
        · obtain ⟨rfl, hb⟩ := h2 hr
          exact composeW_no (by decide) (fun h => hr h.r0) hb
      · have H1 := Lib.hid (both_ok ad bd ca cb l m w h g hl hm)
        have H2 := Lib.hid (fun w0 (hb : Below w.heap.size w w0) => check_ok ad ca l w0 (h.keep hb) hl)
        have H3 := Lib.hid (fun w0 (hb : Below w.heap.size w w0) => check_ok bd cb m w0 (g.keep hb) hm)
        have HN : Hid (¬ CmpOk l m) := fun h => hmo h.mo
        obtain ⟨o1, ho1⟩ : ∃ A, A = U.over (ex l) := ⟨_, rfl⟩
        obtain ⟨m1, hm1⟩ : ∃ A, A = U.makes (ex l) := ⟨_, rfl⟩
        obtain ⟨o2, ho2⟩ : ∃ A, A = U.over (ex m) := ⟨_, rfl⟩
        obtain ⟨m2, hm2⟩ : ∃ A, A = U.makes (ex m) := ⟨_, rfl⟩
        obtain ⟨n, hn⟩ : ∃ A, A = l.length := ⟨_, rfl⟩
        obtain ⟨k, hk⟩ : ∃ A, A = m.length := ⟨_, rfl⟩
        rw [← hn, ← hk] at H1 ⊢
        rw [← ho1, ← hm1, ← hn] at H2
        rw [← ho2, ← hm2, ← hk] at H3
        rw [← hm1, ← ho2] at hmo
        clear h g hl hm ho1 hm1 ho2 hm2 hn hk
        have t1 : decide (o2 = m1) = false := decide_eq_false (fun e => hmo e.symm)
        have t2 : ((o2 : Int) == (m1 : Int)) = false := by simp; omega
        have t3 : ((o2 : Int) != (m1 : Int)) = true := by simp; omega
        clear hmo
        go_enter Try.func25, Try.ntmps25
        go_wp2_with fail
        refine H1.out.mono ?_
        rintro e w1 ⟨gx, gy, lx, hx, ly, hy, rfl, -, -, -, -, hb⟩
        have B1 := Lib.hid hb
        clear hb H1
        go_wp2_with fail
        refine (H2.out w1 B1.out).mono ?_
        rintro e w2 ⟨rfl, hb⟩
        have B2 := Lib.hid (B1.out.trans (hb.mono B1.out.size))
        clear hb B1 H2
        go_wp2_with fail
        refine (H3.out w2 B2.out).mono ?_
        rintro e w3 ⟨rfl, hb⟩
        have B3 := Lib.hid (B2.out.trans (hb.mono B2.out.size))
        clear hb B2 H3
        go_wp2
        go_ret2
        exact composeW_no (by decide) HN.out B3.out
    · have H1 := Lib.hid (both_no2 ad bd ca cb l m w h g hl hm)
      have HN : Hid (¬ CmpOk l m) := fun h => hm h.m0
      obtain ⟨c, hc⟩ : ∃ c, c = chk m := ⟨_, rfl⟩
      rw [← hc] at H1 hm
      have HM := Lib.hid hm
      obtain ⟨t1, t2, t3⟩ := kne hm
      clear h g hl hm hc
      go_enter Try.func25, Try.ntmps25
      go_wp2_with fail
      refine H1.out.mono ?_
      rintro e w1 ⟨rfl, hb⟩
      have B1 := Lib.hid hb
      clear hb H1
      go_wp2
      go_ret2
      exact composeW_no HM.out HN.out B1.out
  · have H1 := Lib.hid (both_no1 ad bd ca cb l m w h hl)
    have HN : Hid (¬ CmpOk l m) := fun h => hl h.l0
    obtain ⟨c, hc⟩ : ∃ c, c = chk l := ⟨_, rfl⟩
    rw [← hc] at H1 hl
    have HM := Lib.hid hl
    obtain ⟨t1, t2, t3⟩ := kne hl
    clear h g hl hc
    go_enter Try.func25, Try.ntmps25
    go_wp2_with fail
    refine H1.out.mono ?_
    rintro e w1 ⟨rfl, hb⟩
    have B1 := Lib.hid hb
    clear hb H1
    go_wp2
    go_ret2
    exact composeW_no HM.out HN.out B1.out

def TransformW (l m : List Part) (w : World) (e : Ending) (w' : World) : Prop :=
  ∃ (mo no : Option Addr) (n k mc nc : Nat) (c : Int), e = .returned (.tuple #[.slice mo n mc, .slice no k nc, .int .i64 c]) ∧ (c = 0 ↔ TrOk l m) ∧ (c = 0 → (n = (trL l m).length ∧ PR w' mo mc (trL l m) ∧ ∀ a, mo = some a → w.heap.size ≤ a.block) ∧ k = (trR l m).length ∧ PR w' no nc (trR l m) ∧ ∀ a, no = some a → w.heap.size ≤ a.block) ∧ ((c ≠ 0 → n = 0 ∧ k = 0) ∧ c ≠ 8) ∧ Below w.heap.size w w'
theorem badOf_ne8 : ∀ l : List Part, badOf l ≠ 8
  | [] => by unfold badOf; decide
  | q :: r => by
    unfold badOf
    split
    · exact badOf_ne8 r
    · unfold partErr
      split
      · decide
      · split
        · decide
        · split
          · decide
          · split <;> decide
theorem chk_ne8 (l : List Part) : chk l ≠ 8 := by
  unfold chk
  split
  · decide
  · split
    · split <;> decide
    · exact badOf_ne8 l
theorem apErr_ne8 (s : List UInt8) (l : List Part) : apErr s l ≠ 8 := by
  unfold apErr
  split
  · split <;> decide
  · exact chk_ne8 l
theorem transformW_no {l m : List Part} {w w' : World} {c : Int} (hc : c ≠ 0) (h8 : c ≠ 8) (h : ¬ TrOk l m) (hb : Below w.heap.size w w') : TransformW l m w (.returned (.tuple #[.slice none 0 0, .slice none 0 0, .int .i64 c])) w' :=
  ⟨_, _, _, _, _, _, _, rfl, ⟨fun h1 => absurd h1 hc, fun h1 => absurd h1 h⟩, fun h1 => absurd h1 hc, ⟨fun _ => ⟨rfl, rfl⟩, h8⟩, hb⟩

set_option maxHeartbeats 1000000 in
theorem Transform_w (ad bd : Option Addr) (ca cb : Nat) (l m : List Part) (w : World) (h : PR w ad ca l) (g : PR w bd cb m) :
    Calls Try.prog 30 #[.slice ad l.length ca, .slice bd m.length cb] w (TransformW l m w) := by
  by_cases hl : chk l = 0
  · by_cases hm : chk m = 0
    · by_cases hmo : U.over (ex l) = U.over (ex m)
      · refine (Transform_any ad bd ca cb l m w h g hl hm hmo).mono ?_
        rintro e w' ⟨h1, h2⟩
        by_cases hr : chk (trL l m) = 0 ∧ chk (trR l m) = 0
        · obtain ⟨mo, mc, no, nc, rfl, hp, hq, hb⟩ := h1 hr
          exact ⟨_, _, _, _, _, _, _, rfl, ⟨fun _ => ⟨hl, hm, hmo, hr.1, hr.2⟩, fun _ => rfl⟩, fun _ => ⟨⟨rfl, hp⟩, rfl, hq⟩, ⟨fun h => absurd rfl h, by decide⟩, hb⟩
        · obtain ⟨rfl, hb⟩ := h2 hr
          exact transformW_no (by decide) (by decide) (fun h => hr ⟨h.r1, h.r2⟩) hb
      · have H1 := Lib.hid (both_ok ad bd ca cb l m w h g hl hm)
        have H2 := Lib.hid (fun w0 (hb : Below w.heap.size w w0) => check_ok ad ca l w0 (h.keep hb) hl)
        have H3 := Lib.hid (fun w0 (hb : Below w.heap.size w w0) => check_ok bd cb m w0 (g.keep hb) hm)
        have HN : Hid (¬ TrOk l m) := fun h => hmo h.oo
        obtain ⟨o1, ho1⟩ : ∃ A, A = U.over (ex l) := ⟨_, rfl⟩
        obtain ⟨m1, hm1⟩ : ∃ A, A = U.makes (ex l) := ⟨_, rfl⟩
        obtain ⟨o2, ho2⟩ : ∃ A, A = U.over (ex m) := ⟨_, rfl⟩
        obtain ⟨m2, hm2⟩ : ∃ A, A = U.makes (ex m) := ⟨_, rfl⟩
        obtain ⟨n, hn⟩ : ∃ A, A = l.length := ⟨_, rfl⟩
        obtain ⟨k, hk⟩ : ∃ A, A = m.length := ⟨_, rfl⟩
        rw [← hn, ← hk] at H1 ⊢
        rw [← ho1, ← hm1, ← hn] at H2
        rw [← ho2, ← hm2, ← hk] at H3
        rw [← ho1, ← ho2] at hmo
        clear h g hl hm ho1 hm1 ho2 hm2 hn hk
        have t1 : decide (o2 = o1) = false := decide_eq_false (fun e => hmo e.symm)
        have t2 : ((o2 : Int) == (o1 : Int)) = false := by simp; omega
        have t3 : ((o2 : Int) != (o1 : Int)) = true := by simp; omega
        clear hmo
        go_enter Try.func30, Try.ntmps30
        go_wp2_with fail
        refine H1.out.mono ?_
        rintro e w1 ⟨gx, gy, lx, hx, ly, hy, rfl, -, -, -, -, hb⟩
        have B1 := Lib.hid hb
        clear hb H1
        go_wp2_with fail
        refine (H2.out w1 B1.out).mono ?_
        rintro e w2 ⟨rfl, hb⟩
        have B2 := Lib.hid (B1.out.trans (hb.mono B1.out.size))
        clear hb B1 H2
        go_wp2_with fail
        refine (H3.out w2 B2.out).mono ?_
        rintro e w3 ⟨rfl, hb⟩
        have B3 := Lib.hid (B2.out.trans (hb.mono B2.out.size))
        clear hb B2 H3
        go_wp2
        go_ret3
        exact transformW_no (by decide) (by decide) HN.out B3.out
    · have H1 := Lib.hid (both_no2 ad bd ca cb l m w h g hl hm)
      have HN : Hid (¬ TrOk l m) := fun h => hm h.m0
      obtain ⟨c, hc⟩ : ∃ c, c = chk m := ⟨_, rfl⟩
      have H8 : Hid (c ≠ 8) := Lib.hid (by rw [hc]; exact chk_ne8 m)
      rw [← hc] at H1 hm
      have HM := Lib.hid hm
      obtain ⟨t1, t2, t3⟩ := kne hm
      clear h g hl hm hc
      go_enter Try.func30, Try.ntmps30
      go_wp2_with fail
      refine H1.out.mono ?_
      rintro e w1 ⟨rfl, hb⟩
      have B1 := Lib.hid hb
      clear hb H1
      go_wp2
      go_ret3
      exact transformW_no HM.out H8.out HN.out B1.out
  · have H1 := Lib.hid (both_no1 ad bd ca cb l m w h hl)
    have HN : Hid (¬ TrOk l m) := fun h => hl h.l0
    obtain ⟨c, hc⟩ : ∃ c, c = chk l := ⟨_, rfl⟩
    have H8 : Hid (c ≠ 8) := Lib.hid (by rw [hc]; exact chk_ne8 l)
    rw [← hc] at H1 hl
    have HM := Lib.hid hl
    obtain ⟨t1, t2, t3⟩ := kne hl
    clear h g hl hc
    go_enter Try.func30, Try.ntmps30
    go_wp2_with fail
    refine H1.out.mono ?_
    rintro e w1 ⟨rfl, hb⟩
    have B1 := Lib.hid hb
    clear hb H1
    go_wp2
    go_ret3
    exact transformW_no HM.out H8.out HN.out B1.out
end Go.Proofs.Ytaibpnblnigkgaa
