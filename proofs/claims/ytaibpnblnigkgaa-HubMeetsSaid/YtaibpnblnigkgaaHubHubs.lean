/-
  The contracts of hubs, of acted where there is nothing to do; a hub's three acts, in one. Conditions: what they take lies in memory.
-/
import Derived.Test.YtaibpnblnigkgaaHubLog
namespace Go.Proofs.Ytaibpnblnigkgaa
open Go.RowKit Gx
set_option maxRecDepth 100000

theorem hubs_any (w : World) : Calls Try.prog 6 #[] w (TruePost w) := by
  have HN : Hid (Calls Try.prog 19 #[.string ⟨#[97]⟩, .int .i64 1] w (NewP ⟨#[97]⟩ 1 w)) := Lib.hid (New_ok ⟨#[97]⟩ 1 w (by decide) (by decide) (by decide))
  unfold NewP at HN
  go_enter Try.func6, Try.ntmps6
  go_wp2_with fail
  refine HN.out.mono ?_
  rintro e w1 ⟨R, C, cap, rfl, hm, hb⟩
  have HB := Lib.hid hb
  have HMA : Hid (Calls Try.prog 10 #[.pointer (some ⟨R, 0, none⟩)] w1 fun e w' => e = .returned (.string ⟨#[97]⟩) ∧ w' = w1) := Lib.hid (Main_any hm)
  clear hm hb HN
  go_wp2_with fail
  refine HMA.out.mono ?_
  rintro e w2 ⟨rfl, rfl⟩
  clear HMA
  go_wp2_with fail
  try go_ret
  exact ⟨rfl, HB.out⟩
/-- nothing to do: a new hub, or none -/
theorem acted_no (text : ByteArray) (n : Int) (w : World) (hn : n < 1 ∨ 8 < n ∨ 20000 < text.size) : Calls Try.prog 7 #[.string text, .int .i64 n, .slice none 0 0] w fun e w' => e = .returned (.pointer none) ∧ w' = w := by
  by_cases h1 : n < 1 ∨ 8 < n
  · have HN := Lib.hid (New_no text n w h1)
    clear hn h1
    go_enter Try.func7, Try.ntmps7
    go_wp2_with fail
    refine HN.out.mono ?_
    rintro e w1 ⟨rfl, rfl⟩
    go_wp2_with fail
    try go_ret
    exact ⟨rfl, rfl⟩
  · obtain ⟨k, rfl⟩ : ∃ k : Nat, n = (k : Int) := ⟨n.toNat, by omega⟩
    have HN := Lib.hid (New_large text k w (by omega) (by omega) (by omega))
    clear hn h1
    go_enter Try.func7, Try.ntmps7
    go_wp2_with fail
    refine HN.out.mono ?_
    rintro e w1 ⟨rfl, rfl⟩
    go_wp2_with fail
    try go_ret
    exact ⟨rfl, rfl⟩
theorem acted_new (text : ByteArray) (n : Nat) (w : World) (h1 : 1 ≤ n) (h8 : n ≤ 8) (hl : text.size ≤ 20000) : Calls Try.prog 7 #[.string text, .int .i64 n, .slice none 0 0] w fun e w' =>
    ∃ R C cap, e = .returned (.pointer (some ⟨R, 0, none⟩)) ∧ HM w.heap.size R C cap (Hb.new text n) w' ∧ Below w.heap.size w w' := by
  have HN := Lib.hid (New_ok text n w h1 h8 hl)
  unfold NewP at HN
  clear h1 h8 hl
  go_enter Try.func7, Try.ntmps7
  go_wp2_with fail
  refine HN.out.mono ?_
  rintro e w1 ⟨R, C, cap, rfl, hm, hb⟩
  have HB := Lib.hid hb
  have HMM := Lib.hid hm
  clear hm hb HN
  go_wp2_with fail
  refine wp_loop_rounds 1 ?_
  rw [rounds_succ]
  go_wp2_with fail
  try go_ret
  exact ⟨R, C, cap, rfl, HMM.out, HB.out⟩
/-! the three acts -/
theorem Type_any {B R C cap : Nat} {h : Hb} {w : World} (m : HM B R C cap h w) (n : Int) (pd : Option Addr) (pc : Nat) (l : List Part) (hp : PR w pd pc l) :
    Calls Try.prog 16 #[.pointer (some ⟨R, 0, none⟩), .int .i64 n, .slice pd l.length pc] w (TypeP B R C cap h n l w) := by
  by_cases hn : h.In n
  · obtain ⟨k, x, rfl, hx⟩ := hn.get
    exact Type_yes m k x hx pd pc l hp
  · exact Type_no m n hn pd l.length pc l
theorem Send_any {B R C cap : Nat} {h : Hb} {w : World} (m : HM B R C cap h w) (g : Good h) (hl : h.log.length ≤ 100000) (n : Int) :
    Calls Try.prog 17 #[.pointer (some ⟨R, 0, none⟩), .int .i64 n] w (SendP B R C cap h n w) := by
  by_cases hn : h.In n
  · obtain ⟨k, x, rfl, hx⟩ := hn.get
    cases hs : x.sent.is with
    | true => exact Send_sent m k x hx hs
    | false =>
      cases hh : x.held.is with
      | true => exact Send_go m k x hx hs hh (g.cl x (List.mem_of_getElem? hx)).1 hl
      | false => exact Send_none m k x hx hs hh
  · exact Send_no m n hn
theorem Recv_any {B R C cap : Nat} {h : Hb} {w : World} (m : HM B R C cap h w) (g : Good h) (hl : h.log.length ≤ 100000) (n : Int) :
    Calls Try.prog 18 #[.pointer (some ⟨R, 0, none⟩), .int .i64 n] w (RecvP B R C cap h n w) := by
  by_cases hn : h.In n
  · obtain ⟨k, x, rfl, hx⟩ := hn.get
    have hsn := (g.cl x (List.mem_of_getElem? hx)).1
    by_cases hs : x.seen = h.log.length
    · exact Recv_none m k x hx hs hl
    · obtain ⟨e, he⟩ : ∃ e, h.log[x.seen]? = some e := ⟨_, List.getElem?_eq_getElem (by omega)⟩
      by_cases hw : e.who = (k : Int)
      · exact Recv_own m k x hx e he hw hl
      · exact Recv_other m k x hx e he hw hl
  · exact Recv_no m n hn
/-- what Text says, what Seen says -/
def Hb.textOf (h : Hb) (n : Int) : ByteArray := if 0 ≤ n then (match h.cls[n.toNat]? with | some c => c.text | none => ⟨#[]⟩) else ⟨#[]⟩
def Hb.seenOf (h : Hb) (n : Int) : Int := if 0 ≤ n then (match h.cls[n.toNat]? with | some c => (c.seen : Int) | none => -1) else -1
theorem textOf_no {h : Hb} {n : Int} (hn : ¬ h.In n) : h.textOf n = ⟨#[]⟩ ∧ h.seenOf n = -1 := by
  unfold Hb.textOf Hb.seenOf
  by_cases h0 : 0 ≤ n
  · rw [if_pos h0, if_pos h0, List.getElem?_eq_none (by unfold Hb.In at hn; omega)]
    exact ⟨rfl, rfl⟩
  · rw [if_neg h0, if_neg h0]
    exact ⟨rfl, rfl⟩
theorem Text_any {B R C cap : Nat} {h : Hb} {w : World} (m : HM B R C cap h w) (n : Int) : Calls Try.prog 13 #[.pointer (some ⟨R, 0, none⟩), .int .i64 n] w fun e w' => (∃ c : Int, e = .returned (.tuple #[.string (h.textOf n), .int .i64 c])) ∧ w' = w := by
  by_cases hn : h.In n
  · obtain ⟨k, x, rfl, hx⟩ := hn.get
    refine (Text_yes m k x hx).mono ?_
    rintro e w' ⟨rfl, rfl⟩
    refine ⟨⟨0, ?_⟩, rfl⟩
    unfold Hb.textOf
    rw [if_pos (by omega), show (k : Int).toNat = k from rfl, hx]
  · refine (Text_no m n hn).mono ?_
    rintro e w' ⟨rfl, rfl⟩
    exact ⟨⟨1, by rw [(textOf_no hn).1]⟩, rfl⟩
theorem Seen_any {B R C cap : Nat} {h : Hb} {w : World} (m : HM B R C cap h w) (n : Int) : Calls Try.prog 11 #[.pointer (some ⟨R, 0, none⟩), .int .i64 n] w fun e w' => e = .returned (.int .i64 (h.seenOf n)) ∧ w' = w := by
  by_cases hn : h.In n
  · obtain ⟨k, x, rfl, hx⟩ := hn.get
    refine (Seen_yes m k x hx).mono ?_
    rintro e w' ⟨rfl, rfl⟩
    refine ⟨?_, rfl⟩
    unfold Hb.seenOf
    rw [if_pos (by omega), show (k : Int).toNat = k from rfl, hx]
  · refine (Seen_no m n hn).mono ?_
    rintro e w' ⟨rfl, rfl⟩
    exact ⟨by rw [(textOf_no hn).2], rfl⟩
/-- what was typed is on its way -/
theorem type_busy {h h' : Hb} {n : Int} {l : List Part} (s : TypeStep h n l 0 h') : h'.quiet = false := by
  by_cases hn : h.In n
  · obtain ⟨k, x, hk, hx⟩ := hn.get
    obtain ⟨ad, cap, rfl⟩ := s.yes k x hk hx rfl
    unfold Hb.quiet
    rw [List.all_eq_false]
    refine ⟨_, List.mem_of_getElem? (get_set hx), ?_⟩
    simp [Cl.busy]
  · exact absurd rfl (s.out hn)
end Go.Proofs.Ytaibpnblnigkgaa
