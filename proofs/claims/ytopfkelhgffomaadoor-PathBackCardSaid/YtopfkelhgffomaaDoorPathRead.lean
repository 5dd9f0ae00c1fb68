/-
  The contract of path.Read. Conditions: the library's tables and errors; the text has at most 2^47 - 4096 bytes.
-/
import Derived.Test.YtopfkelhgffomaaDoorPathStep2
namespace Go.Proofs.YtopfkelhgffomaaDoor
open Go.RowKit Gx
set_option maxRecDepth 100000

theorem unqF_len : ∀ (f : Nat) (l : List UInt8) (rs : List Int) (k : Nat), unqF f l = some (rs, k) → (encs rs).length ≤ k
  | 0, l, rs, k, h => by cases h
  | f + 1, [], rs, k, h => by rw [unqF_end] at h; cases h
  | f + 1, b :: t, rs, k, h => by
    rw [unqF_cons] at h
    split at h
    · obtain ⟨rfl, rfl⟩ := Prod.mk.inj (Option.some.inj h)
      show 0 ≤ _
      omega
    split at h
    · cases h
    split at h
    · split at h
      · cases h
      · rename_i r n he
        obtain ⟨ts, j, h1, rfl, rfl⟩ := more_some h
        have h2 := escOf_len he
        have h3 := unqF_len f _ ts j h1
        rw [encs_cons, List.length_append]
        omega
    split at h
    · cases h
    · rename_i hd
      obtain ⟨ts, j, h1, rfl, rfl⟩ := more_some h
      have h2 := decode_enc_len (l := b :: t) (by simp) hd
      have h3 := unqF_len f _ ts j h1
      rw [encs_cons, List.length_append]
      omega
theorem unquote_len {q : List UInt8} {rs : List Int} {n : Nat} (h : unquote q = some (rs, n)) : (encs rs).length ≤ n := by
  unfold unquote at h
  split at h
  · cases hu : unqF q.length (q.drop 1) with
    | none => rw [hu] at h; cases h
    | some p =>
      rw [hu] at h
      obtain ⟨rfl, rfl⟩ := Prod.mk.inj (Option.some.inj h)
      have := unqF_len _ _ p.1 p.2 hu
      omega
  · cases h
theorem readStep_facts {s : List UInt8} {x : Step} {r : List UInt8} (h : readStep s = some (x, r)) : r.length ≤ s.length ∧ -1 ≤ x.2 ∧ x.2 ≤ 4611686018427387904 ∧ x.1.length ≤ s.length := by
  unfold readStep at h
  split at h
  · unfold stepIndex at h
    split at h
    · split at h
      · rename_i hn
        obtain ⟨rfl, rfl⟩ := Prod.mk.inj (Option.some.inj h)
        refine ⟨?_, by simp only; omega, by simp only; omega, Nat.zero_le _⟩
        rw [List.length_drop, List.length_tail]
        omega
      · cases h
    · cases h
  · split at h
    · unfold stepKey at h
      split at h
      · split at h
        · rename_i rs n hu
          obtain ⟨rfl, rfl⟩ := Prod.mk.inj (Option.some.inj h)
          have h1 := (unquote_facts hu).2.2.1
          have h2 := unquote_len hu
          rw [List.length_tail] at h1
          refine ⟨?_, by simp only; omega, by simp only; omega, by simp only; omega⟩
          rw [List.length_drop, List.length_tail]
          omega
        · cases h
      · split at h
        · obtain ⟨rfl, rfl⟩ := Prod.mk.inj (Option.some.inj h)
          refine ⟨?_, by simp only; omega, by simp only; omega, ?_⟩
          · rw [List.length_drop, List.length_tail]
            omega
          · simp only
            rw [List.length_take, List.length_tail]
            omega
        · cases h
    · cases h

def ReadOk (l : List UInt8) (out : List Step) : Prop := l.head? = some 36 ∧ readSteps 22 [] l.tail = some out ∧ PathOk out ∧ pathText out = l
def ReadP (l : List UInt8) (w : World) (e : Ending) (w' : World) : Prop :=
  ((∃ out ad cap, ReadOk l out ∧ e = .returned (.tuple #[.slice ad out.length cap, .int .i64 0]) ∧ SR w' ad cap out) ∨
   ((∀ out, ¬ ReadOk l out) ∧ e = .returned (.tuple #[.slice none 0 0, .int .i64 4]))) ∧ Below w.heap.size w w'

/-- what the loop keeps -/
def RI (l : List UInt8) (out : List Step) (rest : List UInt8) (b : Bool) : Prop :=
  (b = true → l.head? = some 36 ∧ readSteps 22 [] l.tail = readSteps (22 - out.length) out rest ∧ (∀ q ∈ out, (Lit.int .i64 q.2).wf = true ∧ q.1.length ≤ 9223372036854775807) ∧ rest.length ≤ 140737488351232) ∧
  (b = false → ∀ o, ¬ ReadOk l o)
theorem RI.yes {l rest : List UInt8} {out : List Step} {x : Step} {r : List UInt8} (h : RI l out rest true) (hn : out.length ≤ 20) (hr : rest ≠ []) (hs : readStep rest = some (x, r)) : RI l (out ++ [x]) r true := by
  obtain ⟨h1, h2, h3, h4⟩ := h.1 rfl
  obtain ⟨f1, f2, f3, f4⟩ := readStep_facts hs
  refine ⟨fun _ => ⟨h1, ?_, ?_, by omega⟩, fun h => by cases h⟩
  · rw [h2, List.length_append, List.length_singleton, show 22 - out.length = (22 - (out.length + 1)) + 1 by omega]
    conv => lhs; unfold readSteps
    rw [if_neg (by rintro (h | h); exact hr h; omega), hs]
  · intro q hq
    rcases List.mem_append.1 hq with hq | hq
    · exact h3 q hq
    · rw [List.mem_singleton.1 hq]
      refine ⟨?_, by omega⟩
      simp [Lit.wf, IntKind.min, IntKind.max, IntKind.signed, IntKind.bits]
      omega
theorem RI.no {l rest : List UInt8} {out : List Step} (h : RI l out rest true) (hn : out.length ≤ 20) (hr : rest ≠ []) (hs : readStep rest = none) (x : Step) (r : List UInt8) : RI l (out ++ [x]) r false := by
  obtain ⟨h1, h2, h3, h4⟩ := h.1 rfl
  refine ⟨fun h => (by cases h), fun _ o ho => ?_⟩
  have h5 := ho.2.1
  rw [h2, show 22 - out.length = (22 - (out.length + 1)) + 1 by omega] at h5
  unfold readSteps at h5
  rw [if_neg (by rintro (h | h); exact hr h; omega), hs] at h5
  cases h5
theorem RI.done {l rest : List UInt8} {out : List Step} (h : RI l out rest true) (hn : out.length ≤ 21) (hr : rest = [] ∨ 20 < out.length) : l.head? = some 36 ∧ readSteps 22 [] l.tail = some out ∧ ∀ q ∈ out, (Lit.int .i64 q.2).wf = true ∧ q.1.length ≤ 9223372036854775807 := by
  obtain ⟨h1, h2, h3, h4⟩ := h.1 rfl
  refine ⟨h1, ?_, h3⟩
  rw [h2, show 22 - out.length = (21 - out.length) + 1 by omega]
  unfold readSteps
  rw [if_pos hr]

def boolOf : Value → Bool
  | .bool b => b
  | _ => false
set_option maxHeartbeats 8000000 in
theorem read_any (s : ByteArray) (w : World) (hT : PTabs w) (hs : s.size ≤ 140737488351232) : Calls Tryd.prog 6 #[.string s] w (ReadP s.data.toList w) := by
  have hsl := Lib.size_eq s
  obtain ⟨rest0, b0, hC, hR0⟩ : ∃ rest0 b0, (∀ w0, Calls Tryd.prog 10 #[.string s, .string ⟨#[36]⟩] w0 fun e w' => e = .returned (.tuple #[.string (bs rest0), .bool b0]) ∧ w' = w0) ∧ RI s.data.toList [] rest0 b0 := by
    by_cases h : s.data.toList.head? = some 36
    · obtain ⟨t, ht⟩ : ∃ t, s.data.toList = 36 :: t := by
        cases h2 : s.data.toList with
        | nil => rw [h2] at h; cases h
        | cons a t => rw [h2] at h; cases h; exact ⟨t, rfl⟩
      refine ⟨t, true, fun w0 => cutPre_yes s 36 t w0 ht, fun _ => ⟨h, ?_, (fun q hq => by simp at hq), ?_⟩, fun h => by cases h⟩
      · rw [ht]; rfl
      · rw [ht] at hsl; simp at hsl; omega
    · refine ⟨s.data.toList, false, fun w0 => by rw [← bs_of]; exact cutPre_no s 36 w0 h, fun h => (by cases h), fun _ o ho => h ho.1⟩
  have HC := Lib.hid hC
  have HT := Lib.hid hT
  have hHN : ∀ w', (∀ o, ¬ ReadOk s.data.toList o) → Below w.heap.size w w' → ReadP s.data.toList w (.returned (.tuple #[.slice none 0 0, .int .i64 4])) w' := fun w' h hb => ⟨.inr ⟨h, rfl⟩, hb⟩
  have hHY : ∀ w' out ad cap, ReadOk s.data.toList out → SR w' ad cap out → Below w.heap.size w w' → ReadP s.data.toList w (.returned (.tuple #[.slice ad out.length cap, .int .i64 0])) w' := fun w' out ad cap h hp hb => ⟨.inl ⟨out, ad, cap, h, rfl, hp⟩, hb⟩
  have HN := Lib.hid hHN
  have HY := Lib.hid hHY
  generalize ReadP s.data.toList w = POST at *
  clear hC hT hHN hHY
  go_enter Tryd.func6, Tryd.ntmps6
  go_wp2_with fail
  refine (HC.out _).mono ?_
  rintro e0 w1 ⟨rfl, rfl⟩
  go_wp2_with fail
  clear HC
  go_loopw [4, 5, 6] (fun a b o wr => ∃ (rest : List UInt8) (k : Bool) (out : List Step) (vo : Option Addr) (vc : Nat), a = .string (bs rest) ∧ b = .bool k ∧ o = .slice vo out.length vc ∧ out.length ≤ 21 ∧
      wr.ownsRow w1.heap.size 28 2 (.slice vo out.length vc) out.length (stepCells out) ∧ Hid (RI s.data.toList out rest k) ∧ Below w1.heap.size w1 wr) (fun _ b o _ => if boolOf b then 22 - lenOf o else 0)
  case atStart => exact ⟨rest0, b0, [], none, 0, rfl, rfl, rfl, by decide, World.ownsRow_nil _ _ _ _, hR0, Below.refl _ _⟩
  case round =>
    obtain ⟨rest, k, out, vo, vc, rfl, rfl, rfl, hol, hown, hri, hb⟩ := hrel
    have hsz := hb.size
    cases k with
    | true =>
      by_cases hend : rest = [] ∨ 20 < out.length
      · have HD := Lib.hid (hri.out.done hol hend)
        have hsr : SR wr vo vc out := by
          obtain ⟨ad, cap, e, h, -⟩ := SR.own hown rfl HD.out.2.2
          cases e
          exact h
        have HCk := Lib.hid (chkPath_any vo vc out wr hsr (HT.out.keep hb).e.u)
        unfold ChkP at HCk
        have HSR := Lib.hid hsr
        have HBW := Lib.hid hb
        clear hri hown hb hsz hsr
        rcases hend with hend | hend
        · subst hend
          rw [show bs [] = ⟨#[]⟩ from rfl]
          go_wp2_with fail
          refine HCk.out.mono ?_
          rintro e w2 ⟨c, rfl, hc, hb2⟩
          by_cases h0 : c = 0
          · subst h0
            have hpo := hc.1 rfl
            have HTx := Lib.hid (text_any vo vc out w2 (HSR.out.keep hb2) ((HT.out.keep HBW.out).e.keep hb2) hpo.1 hpo.2)
            unfold StrP at HTx
            have HB2 := Lib.hid hb2
            by_cases heq : pathText out = s.data.toList
            · have HOK := Lib.hid (show ReadOk s.data.toList out from ⟨HD.out.1, HD.out.2.1, hpo, heq⟩)
              rw [show bs (pathText out) = s by rw [heq, ← bs_of]] at HTx
              clear hc hb2 hpo heq
              go_wp2_with fail
              refine HTx.out.mono ?_
              rintro e w3 ⟨rfl, hb3⟩
              have F := Lib.hid (HY.out w3 out vo vc HOK.out ((HSR.out.keep HB2.out).keep hb3) ((HBW.out.trans (HB2.out.mono HBW.out.size)).trans (hb3.mono (Nat.le_trans HBW.out.size HB2.out.size))))
              clear hb3
              go_wp2_with fail
              try go_ret2
              exact F.out
            · have HNO := Lib.hid (show ∀ o, ¬ ReadOk s.data.toList o from fun o ho => heq (by
                have e := ho.2.1
                rw [HD.out.2.1] at e
                rw [Option.some.inj e]; exact ho.2.2.2))
              have hne2 : bs (pathText out) ≠ s := fun e => heq (by rw [← e, list_bs])
              have hne3 : ((bs (pathText out)).toList == s.toList) = false := by
                rw [beq_eq_false_iff_ne, Lib.toList_data, Lib.toList_data, list_bs]; exact heq
              have hne4 : ¬ (bs (pathText out)).toList = s.toList := by simpa using hne3
              clear hc hb2 hpo heq
              go_wp2_with fail
              refine HTx.out.mono ?_
              rintro e w3 ⟨rfl, hb3⟩
              have F := Lib.hid (HN.out w3 HNO.out ((HBW.out.trans (HB2.out.mono HBW.out.size)).trans (hb3.mono (Nat.le_trans HBW.out.size HB2.out.size))))
              clear hb3
              go_wp2_with fail
              try go_ret2
              exact F.out
          · have HNO := Lib.hid (show ∀ o, ¬ ReadOk s.data.toList o from fun o ho => h0 (hc.2 (by
              have e := ho.2.1
              rw [HD.out.2.1] at e
              rw [Option.some.inj e]; exact ho.2.2.1)))
            have t0 : (c != 0) = true := by simpa using h0
            have F := Lib.hid (HN.out w2 HNO.out (HBW.out.trans (hb2.mono HBW.out.size)))
            clear hc hb2
            go_wp2_with fail
            try go_ret2
            exact F.out
        · have t2 : decide ((out.length : Int) ≤ 20) = false := decide_eq_false (by omega)
          rcases Nat.eq_zero_or_pos rest.length with zr | pr
          · obtain rfl : rest = [] := List.eq_nil_of_length_eq_zero zr
            rw [show bs [] = ⟨#[]⟩ from rfl]
            clear zr
            go_wp2_with fail
            refine HCk.out.mono ?_
            rintro e w2 ⟨c, rfl, hc, hb2⟩
            by_cases h0 : c = 0
            · subst h0
              have hpo := hc.1 rfl
              have HTx := Lib.hid (text_any vo vc out w2 (HSR.out.keep hb2) ((HT.out.keep HBW.out).e.keep hb2) hpo.1 hpo.2)
              unfold StrP at HTx
              have HB2 := Lib.hid hb2
              by_cases heq : pathText out = s.data.toList
              · have HOK := Lib.hid (show ReadOk s.data.toList out from ⟨HD.out.1, HD.out.2.1, hpo, heq⟩)
                rw [show bs (pathText out) = s by rw [heq, ← bs_of]] at HTx
                clear hc hb2 hpo heq
                go_wp2_with fail
                refine HTx.out.mono ?_
                rintro e w3 ⟨rfl, hb3⟩
                have F := Lib.hid (HY.out w3 out vo vc HOK.out ((HSR.out.keep HB2.out).keep hb3) ((HBW.out.trans (HB2.out.mono HBW.out.size)).trans (hb3.mono (Nat.le_trans HBW.out.size HB2.out.size))))
                clear hb3
                go_wp2_with fail
                try go_ret2
                exact F.out
              · have HNO := Lib.hid (show ∀ o, ¬ ReadOk s.data.toList o from fun o ho => heq (by
                  have e := ho.2.1
                  rw [HD.out.2.1] at e
                  rw [Option.some.inj e]; exact ho.2.2.2))
                have hne2 : bs (pathText out) ≠ s := fun e => heq (by rw [← e, list_bs])
                have hne3 : ((bs (pathText out)).toList == s.toList) = false := by
                  rw [beq_eq_false_iff_ne, Lib.toList_data, Lib.toList_data, list_bs]; exact heq
                have hne4 : ¬ (bs (pathText out)).toList = s.toList := by simpa using hne3
                clear hc hb2 hpo heq
                go_wp2_with fail
                refine HTx.out.mono ?_
                rintro e w3 ⟨rfl, hb3⟩
                have F := Lib.hid (HN.out w3 HNO.out ((HBW.out.trans (HB2.out.mono HBW.out.size)).trans (hb3.mono (Nat.le_trans HBW.out.size HB2.out.size))))
                clear hb3
                go_wp2_with fail
                try go_ret2
                exact F.out
            · have HNO := Lib.hid (show ∀ o, ¬ ReadOk s.data.toList o from fun o ho => h0 (hc.2 (by
                have e := ho.2.1
                rw [HD.out.2.1] at e
                rw [Option.some.inj e]; exact ho.2.2.1)))
              have t0 : (c != 0) = true := by simpa using h0
              have F := Lib.hid (HN.out w2 HNO.out (HBW.out.trans (hb2.mono HBW.out.size)))
              clear hc hb2
              go_wp2_with fail
              try go_ret2
              exact F.out
          · obtain ⟨em1, em2⟩ := bytes_em (s := bs rest) (by rw [bs_size]; exact pr)
            clear pr
            go_wp2_with fail
            refine HCk.out.mono ?_
            rintro e w2 ⟨c, rfl, hc, hb2⟩
            by_cases h0 : c = 0
            · subst h0
              have hpo := hc.1 rfl
              have HTx := Lib.hid (text_any vo vc out w2 (HSR.out.keep hb2) ((HT.out.keep HBW.out).e.keep hb2) hpo.1 hpo.2)
              unfold StrP at HTx
              have HB2 := Lib.hid hb2
              by_cases heq : pathText out = s.data.toList
              · have HOK := Lib.hid (show ReadOk s.data.toList out from ⟨HD.out.1, HD.out.2.1, hpo, heq⟩)
                rw [show bs (pathText out) = s by rw [heq, ← bs_of]] at HTx
                clear hc hb2 hpo heq
                go_wp2_with fail
                refine HTx.out.mono ?_
                rintro e w3 ⟨rfl, hb3⟩
                have F := Lib.hid (HY.out w3 out vo vc HOK.out ((HSR.out.keep HB2.out).keep hb3) ((HBW.out.trans (HB2.out.mono HBW.out.size)).trans (hb3.mono (Nat.le_trans HBW.out.size HB2.out.size))))
                clear hb3
                go_wp2_with fail
                try go_ret2
                exact F.out
              · have HNO := Lib.hid (show ∀ o, ¬ ReadOk s.data.toList o from fun o ho => heq (by
                  have e := ho.2.1
                  rw [HD.out.2.1] at e
                  rw [Option.some.inj e]; exact ho.2.2.2))
                have hne2 : bs (pathText out) ≠ s := fun e => heq (by rw [← e, list_bs])
                have hne3 : ((bs (pathText out)).toList == s.toList) = false := by
                  rw [beq_eq_false_iff_ne, Lib.toList_data, Lib.toList_data, list_bs]; exact heq
                have hne4 : ¬ (bs (pathText out)).toList = s.toList := by simpa using hne3
                clear hc hb2 hpo heq
                go_wp2_with fail
                refine HTx.out.mono ?_
                rintro e w3 ⟨rfl, hb3⟩
                have F := Lib.hid (HN.out w3 HNO.out ((HBW.out.trans (HB2.out.mono HBW.out.size)).trans (hb3.mono (Nat.le_trans HBW.out.size HB2.out.size))))
                clear hb3
                go_wp2_with fail
                try go_ret2
                exact F.out
            · have HNO := Lib.hid (show ∀ o, ¬ ReadOk s.data.toList o from fun o ho => h0 (hc.2 (by
                have e := ho.2.1
                rw [HD.out.2.1] at e
                rw [Option.some.inj e]; exact ho.2.2.1)))
              have t0 : (c != 0) = true := by simpa using h0
              have F := Lib.hid (HN.out w2 HNO.out (HBW.out.trans (hb2.mono HBW.out.size)))
              clear hc hb2
              go_wp2_with fail
              try go_ret2
              exact F.out
      · have hne : rest ≠ [] := fun h => hend (.inl h)
        have hlen : out.length ≤ 20 := by omega
        have hrl := (hri.out.1 rfl).2.2.2
        have zr := bs_size rest
        obtain ⟨em1, em2⟩ := bytes_em (s := bs rest) (by rw [zr]; exact List.length_pos_iff.2 hne)
        have t2 : decide ((out.length : Int) ≤ 20) = true := decide_eq_true (by omega)
        have HS := Lib.hid (step_any (bs rest) (wr.alloc (.cells #[.string ⟨#[]⟩, .int .i64 0] 28)) (HT.out.keep (hb.alloc hsz _)) (by omega))
        unfold StepP at HS
        rw [list_bs] at HS
        have HNE := Lib.hid hne
        clear hend hrl zr hne
        go_wp2_with fail
        refine HS.out.mono ?_
        rintro e w2 ⟨⟨x, r, hx, rfl⟩ | ⟨hx, K, N, R, rfl⟩, hb2⟩
        · have hbr : Below wr.heap.size wr w2 := ((Below.refl _ _).alloc (Nat.le_refl _) _).trans (hb2.mono (by simp))
          have hh2 : w2.heap[wr.heap.size]? = some (.cells #[.string ⟨#[]⟩, .int .i64 0] 28) := by
            rw [hb2.block _ (by simp)]; exact heap_alloc_last wr _
          obtain ⟨q0, q1, q2, q3, q4, q5, q6⟩ := res_store hh2 (.string (bs x.1)) (.int .i64 x.2)
          have hbr3 := res_below hbr (.string (bs x.1)) (.int .i64 x.2)
          have hX : ((w2.setCell ⟨wr.heap.size, 0, none⟩ (.string (bs x.1))).setCell ⟨wr.heap.size, 1, none⟩ (.int .i64 x.2)).heap.size = w2.heap.size := by simp [World.setCell]
          have hown1 := Gx.own_keep hown hbr3
          have hb3 := hb.trans (hbr3.mono hsz)
          have hsz3 := hb3.size
          have HX := Lib.hid hX
          clear hX
          have HRI := Lib.hid (hri.out.yes hlen HNE.out hx)
          clear hown hb hbr hh2 hb2 hsz hx
          go_wp2_with (first
            | (at_builtin; refine Gx.wpList_push ((w2.setCell ⟨wr.heap.size, 0, none⟩ (.string (bs x.1))).setCell ⟨wr.heap.size, 1, none⟩ (.int .i64 x.2)) rfl _ _ 22 rfl w1.heap.size 28 (.agg #[.string ⟨#[]⟩, .int .i64 0]) 2 24 Tryd.underlying22 Tryd.info_step rfl (by decide) _ _ _ [.string (bs x.1), .int .i64 x.2] _ rfl rfl (by exact hown1) (by rw [HX.out]; rfl) rfl ?c2 ?c3 ?c4 ?c5 ?_))
          case c2 => intro u hu; simp at hu; rcases hu with rfl | rfl <;> rfl
          case c3 => omega
          case c4 => omega
          case c5 => omega
          intro v' w' hown5 hg5 _ _
          have hb5 : Below w1.heap.size w1 w' := hb3.grown hg5 hsz3 (fun k e => (hown1.lt k e).1)
          obtain ⟨vo5, vc5, rfl⟩ := Gx.own_form hown5
          have hl5 : (out ++ [x]).length = out.length + 1 := by simp
          have hown6 : w'.ownsRow w1.heap.size 28 2 (.slice vo5 (out ++ [x]).length vc5) (out ++ [x]).length (stepCells (out ++ [x])) := by
            rw [hl5, stepCells_snoc]
            exact hown5
          have HL5 := Lib.hid hl5
          clear hl5 hown5 hown1 hg5 hb3
          go_wp2_with fail
          go_roundw
          case rel => exact ⟨r, true, out ++ [x], vo5, vc5, rfl, rfl, by rw [HL5.out], by rw [HL5.out]; omega, hown6, HRI.out, hb5⟩
          case measure => simp [boolOf, lenOf]; omega
        · have hbr : Below wr.heap.size wr w2 := ((Below.refl _ _).alloc (Nat.le_refl _) _).trans (hb2.mono (by simp))
          have hh2 : w2.heap[wr.heap.size]? = some (.cells #[.string ⟨#[]⟩, .int .i64 0] 28) := by
            rw [hb2.block _ (by simp)]; exact heap_alloc_last wr _
          obtain ⟨q0, q1, q2, q3, q4, q5, q6⟩ := res_store hh2 (.string K) (.int .i64 N)
          have hbr3 := res_below hbr (.string K) (.int .i64 N)
          have hX : ((w2.setCell ⟨wr.heap.size, 0, none⟩ (.string K)).setCell ⟨wr.heap.size, 1, none⟩ (.int .i64 N)).heap.size = w2.heap.size := by simp [World.setCell]
          have hown1 := Gx.own_keep hown hbr3
          have hb3 := hb.trans (hbr3.mono hsz)
          have hsz3 := hb3.size
          have HX := Lib.hid hX
          clear hX
          have HRI := Lib.hid (hri.out.no hlen HNE.out hx (K.data.toList, N) R.data.toList)
          clear hown hb hbr hh2 hb2 hsz hx
          go_wp2_with (first
            | (at_builtin; refine Gx.wpList_push ((w2.setCell ⟨wr.heap.size, 0, none⟩ (.string K)).setCell ⟨wr.heap.size, 1, none⟩ (.int .i64 N)) rfl _ _ 22 rfl w1.heap.size 28 (.agg #[.string ⟨#[]⟩, .int .i64 0]) 2 24 Tryd.underlying22 Tryd.info_step rfl (by decide) _ _ _ [.string K, .int .i64 N] _ rfl rfl (by exact hown1) (by rw [HX.out]; rfl) rfl ?d2 ?d3 ?d4 ?d5 ?_))
          case d2 => intro u hu; simp at hu; rcases hu with rfl | rfl <;> rfl
          case d3 => omega
          case d4 => omega
          case d5 => omega
          intro v' w' hown5 hg5 _ _
          have hb5 : Below w1.heap.size w1 w' := hb3.grown hg5 hsz3 (fun k e => (hown1.lt k e).1)
          obtain ⟨vo5, vc5, rfl⟩ := Gx.own_form hown5
          have hl5 : (out ++ [(K.data.toList, N)]).length = out.length + 1 := by simp
          have hown6 : w'.ownsRow w1.heap.size 28 2 (.slice vo5 (out ++ [(K.data.toList, N)]).length vc5) (out ++ [(K.data.toList, N)]).length (stepCells (out ++ [(K.data.toList, N)])) := by
            rw [hl5, stepCells_snoc]
            exact hown5
          have HL5 := Lib.hid hl5
          clear hl5 hown5 hown1 hg5 hb3
          go_wp2_with fail
          go_roundw
          case rel => exact ⟨R.data.toList, false, out ++ [(K.data.toList, N)], vo5, vc5, by rw [← bs_of], rfl, by rw [HL5.out], by rw [HL5.out]; omega, hown6, HRI.out, hb5⟩
          case measure => simp [boolOf, lenOf]; omega
    | false =>
      have HNO := Lib.hid (hri.out.2 rfl)
      have F := Lib.hid (HN.out wr HNO.out hb)
      go_wp2_with fail
      exact F.out
end Go.Proofs.YtopfkelhgffomaaDoor
