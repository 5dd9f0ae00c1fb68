/-
  The walk of HubPending. Conditions: the acts lie in memory.
-/
import Derived.Test.YtaibpnblnigkgaaHubPend
namespace Go.Proofs.Ytaibpnblnigkgaa
open Go.RowKit Gx
set_option maxRecDepth 100000

theorem HM.besides {B R C cap : Nat} {h : Hb} {w2 w4 wr : World} {b0 : Nat} (m2 : HM B R C cap h w2) (m4 : HM B R C cap h w4) (hg : w4.grownBy wr (some b0)) (hb0 : w2.heap.size ≤ b0) : HM B R C cap h wr := by
  have h1 := m2.rlt
  have h2 := m2.row.lt
  have hne : ∀ k, k < w2.heap.size → some k ≠ some b0 := fun k hk e => by have := Option.some.inj e; omega
  refine ⟨(hg.block _ m4.rlt (hne _ h1)).trans m4.obj, m4.row.keep (hg.block _ m4.row.lt (hne _ h2)), m4.own.kept hg (.inr fun e => by have := (m2.own.lt b0 e).2; omega), fun p hp => ⟨(m4.parts p hp).1.over hg.size (fun a ha hl hlt => hg.block _ hlt (hne _ ((m2.parts p hp).1.at_ a ha hl).2.1)), (m4.parts p hp).2⟩, m4.rc, m4.lr, m4.lc, m4.br, m4.bc, m4.cl⟩
def seenCells (d : List UInt8) (log : List Lg) (m : Nat) : List Value := (List.range m).map fun i => .string (bs (Dj d log i))
theorem seenCells_get (d : List UInt8) (log : List Lg) (m i : Nat) (hi : i < m) : (seenCells d log m)[i]? = some (.string (bs (Dj d log i))) := by
  unfold seenCells
  rw [List.getElem?_map, List.getElem?_range hi]
  rfl
theorem seenCells_succ (d : List UInt8) (log : List Lg) (m : Nat) : seenCells d log (m + 1) = seenCells d log m ++ [.string (bs (Dj d log m))] := by
  unfold seenCells
  rw [List.range_succ, List.map_append]
  rfl
/-- the texts that were seen so far, in a row of their own -/
structure SR (w4 : World) (b0 : Nat) (d : List UInt8) (log : List Lg) (j : Nat) (so : Option Addr) (sc : Nat) (wr : World) : Prop where
  own : wr.ownsRow b0 9 1 (.slice so (j + 1) sc) (j + 1) (seenCells d log (j + 1))
  gr : w4.grownBy wr (some b0)
  ob : (Value.slice so (j + 1) sc).ownBlock = some b0 ∨ ∃ g, (Value.slice so (j + 1) sc).ownBlock = some g ∧ w4.heap.size ≤ g
theorem SR.below {w4 wr w5 : World} {b0 : Nat} {d : List UInt8} {log : List Lg} {j : Nat} {so : Option Addr} {sc : Nat} (m : SR w4 b0 d log j so sc wr) (hb : Below wr.heap.size wr w5) : SR w4 b0 d log j so sc w5 :=
  ⟨own_keep m.own hb, m.gr.trans ⟨hb.os, hb.tape, hb.output, hb.size, fun k hk _ => hb.block k hk⟩, m.ob⟩
theorem SR.push {w4 wr w5 : World} {b0 : Nat} {d : List UInt8} {log : List Lg} {j : Nat} {so so' : Option Addr} {sc sc' : Nat} (m : SR w4 b0 d log j so sc wr) (hb0 : b0 < w4.heap.size)
    (hown : w5.ownsRow b0 9 1 (.slice so' (j + 1 + 1) sc') (j + 1 + 1) (seenCells d log (j + 1) ++ [.string (bs (Dj d log (j + 1)))])) (hg : wr.grownBy w5 (Value.slice so (j + 1) sc).ownBlock) (hm : Moved (.slice so (j + 1) sc) (.slice so' (j + 1 + 1) sc') wr.heap.size) :
    SR w4 b0 d log (j + 1) so' sc' w5 := by
  refine ⟨by rw [seenCells_succ]; exact hown, ⟨hg.os.trans m.gr.os, hg.tape.trans m.gr.tape, hg.output.trans m.gr.output, Nat.le_trans m.gr.size hg.size, fun k hk hne => ?_⟩, ?_⟩
  · refine (hg.block k (Nat.lt_of_lt_of_le hk m.gr.size) (fun e => ?_)).trans (m.gr.block k hk hne)
    rcases m.ob with h1 | ⟨g, h1, h2⟩
    · exact hne (e.trans h1)
    · have := Option.some.inj (e.trans h1)
      omega
  · rcases hm with h1 | ⟨g, h1, h2⟩
    · rw [h1]; exact m.ob
    · exact .inr ⟨g, h1, Nat.le_trans m.gr.size h2⟩
theorem Try.info_string : (Try.prog.info? 9).map (fun i => (i.zero, i.size, i.bytes)) = some (some (.string ⟨#[]⟩), 1, 16) := by kernel_rfl
set_option maxHeartbeats 16000000 in
theorem hubPending_walk (text : ByteArray) (n : Int) (wn : (Lit.int .i64 n).wf = true) (ad : Option Addr) (cap : Nat) (L : List Ac) (w : World) (hL : AW w ad cap L) : Calls Try.prog 3 #[.string text, .int .i64 n, .slice ad L.length cap] w (TruePost w) := by
  have HH := Lib.hid (hubs_any w)
  by_cases hbad : n < 1 ∨ 8 < n ∨ 20000 < text.size
  · have HAN := Lib.hid (fun wz => acted_no2 text n ad L.length cap wz hbad)
    have hb3 : n < 1 ∨ (¬ n < 1 ∧ 8 < n) ∨ (¬ n < 1 ∧ ¬ 8 < n ∧ 20000 < text.size) := by omega
    clear hbad hL
    rcases hb3 with h1 | ⟨h1, h2⟩ | ⟨h1, h2, h3⟩
    · have t1 : decide (n < 1) = true := decide_eq_true h1
      clear h1
      go_enter Try.func3, Try.ntmps3
      go_wp2_with fail
      refine HH.out.mono ?_
      rintro e w1 ⟨rfl, hb1⟩
      have HB1 := Lib.hid hb1
      clear hb1
      go_wp2_with fail
      refine (HAN.out w1).mono ?_
      rintro e w2 ⟨rfl, rfl⟩
      go_wp2_with fail
      try go_ret
      exact ⟨rfl, HB1.out⟩
    · have t1 : decide (n < 1) = false := decide_eq_false h1
      have t2 : decide (8 < n) = true := decide_eq_true h2
      clear h1 h2
      go_enter Try.func3, Try.ntmps3
      go_wp2_with fail
      refine HH.out.mono ?_
      rintro e w1 ⟨rfl, hb1⟩
      have HB1 := Lib.hid hb1
      clear hb1
      go_wp2_with fail
      refine (HAN.out w1).mono ?_
      rintro e w2 ⟨rfl, rfl⟩
      go_wp2_with fail
      try go_ret
      exact ⟨rfl, HB1.out⟩
    · have t1 : decide (n < 1) = false := decide_eq_false h1
      have t2 : decide (8 < n) = false := decide_eq_false h2
      have t3 : decide ((20000 : Int) < (text.size : Int)) = true := decide_eq_true (by omega)
      have t4 : decide (20000 < text.size) = true := decide_eq_true h3
      clear h1 h2 h3
      go_enter Try.func3, Try.ntmps3
      go_wp2_with fail
      refine HH.out.mono ?_
      rintro e w1 ⟨rfl, hb1⟩
      have HB1 := Lib.hid hb1
      clear hb1
      go_wp2_with fail
      refine (HAN.out w1).mono ?_
      rintro e w2 ⟨rfl, rfl⟩
      go_wp2_with fail
      try go_ret
      exact ⟨rfl, HB1.out⟩
  · obtain ⟨k, rfl⟩ : ∃ k : Nat, n = (k : Int) := ⟨n.toNat, by omega⟩
    have g1 : 1 ≤ k := by omega
    have g8 : k ≤ 8 := by omega
    have gl : text.size ≤ 20000 := by omega
    clear hbad wn
    by_cases h80 : 80 < L.length
    · have HAN := Lib.hid (fun wz => acted_many text k ad L.length cap wz g1 g8 gl h80)
      obtain ⟨M, hM⟩ : ∃ M, L.length = M := ⟨_, rfl⟩
      rw [hM] at HAN h80 ⊢
      have t1 : decide ((k : Int) < 1) = false := decide_eq_false (by omega)
      have t2 : decide (8 < (k : Int)) = false := decide_eq_false (by omega)
      have t3 : decide ((20000 : Int) < (text.size : Int)) = false := decide_eq_false (by omega)
      have t4 : decide (20000 < text.size) = false := decide_eq_false (by omega)
      have t5 : decide ((80 : Int) < (M : Int)) = true := decide_eq_true (by omega)
      have t6 : decide (80 < M) = true := decide_eq_true h80
      clear hL hM
      go_enter Try.func3, Try.ntmps3
      go_wp2_with fail
      refine HH.out.mono ?_
      rintro e w1 ⟨rfl, hb1⟩
      have HB1 := Lib.hid hb1
      clear hb1
      go_wp2_with fail
      refine (HAN.out w1).mono ?_
      rintro e w2 ⟨rfl, hb⟩
      have HB2 := Lib.hid (HB1.out.trans (hb.mono HB1.out.size))
      clear hb
      go_wp2_with fail
      try go_ret
      exact ⟨rfl, HB2.out⟩
    · have HAN := Lib.hid (fun wz (hz : Below w.heap.size w wz) => acted_any text k ad cap L wz g1 g8 gl (hL.keep hz) (by omega))
      have hd : text.data.toList.length ≤ 20000 := by have : text.data.toList.length = text.size := Array.length_toList; omega
      obtain ⟨d, hdd⟩ : ∃ d, text.data.toList = d := ⟨_, rfl⟩
      have HDD : Hid (text = bs d) := Lib.hid (by rw [← hdd]; rfl)
      rw [hdd] at HAN hd
      clear hL hdd g1 gl h80
      go_enter Try.func3, Try.ntmps3
      go_wp2_with fail
      refine HH.out.mono ?_
      rintro e w1 ⟨rfl, hb1⟩
      have HB1 := Lib.hid hb1
      clear hb1
      go_wp2_with fail
      refine (HAN.out w1 HB1.out).mono ?_
      rintro e w2 ⟨R, C, cc, h, rfl, hm, ⟨hgd, hhi, hcn⟩, hl80, hb⟩
      have HM2 := Lib.hid hm
      have HGD := Lib.hid hgd
      have HHI := Lib.hid hhi
      have HCN := Lib.hid hcn
      have HB2 := Lib.hid (HB1.out.trans (hb.mono HB1.out.size))
      clear hm hgd hhi hcn hb HAN HH
      have ha := (Below.refl w2.heap.size w2).alloc (Nat.le_refl _) (.cells #[.string text] 9)
      have HM3 := Lib.hid (HM2.out.below ha)
      have HB3 := Lib.hid (HB2.out.trans (ha.mono HB2.out.size))
      have HOB := Lib.hid (heap_alloc_new w2 (.cells #[.string text] 9))
      have HZ3 : Hid ((w2.alloc (.cells #[.string text] 9)).heap.size = w2.heap.size + 1) := Lib.hid (World.size_alloc _ _)
      obtain ⟨b0, hb0⟩ : ∃ b0, w2.heap.size = b0 := ⟨_, rfl⟩
      clear ha
      go_upto_region 7 with fail
      try rw [hb0]
      rw [hb0] at HOB HZ3
      generalize w2.alloc (.cells #[.string text] 9) = w3 at HM3 HB3 HOB HZ3 ⊢
      obtain ⟨N, hN⟩ : ∃ N, h.log.length = N := ⟨_, rfl⟩
      have HLG := Lib.hid (Log_any HM3.out (by omega) HGD.out.parts)
      unfold LogP at HLG
      rw [hN] at HLG hl80
      have HN := Lib.hid hN
      clear hN
      go_wp2_with fail
      refine HLG.out.mono ?_
      rintro e w4 ⟨vo, vc, rfl, hvc, hb4, hlog⟩
      have HM4 := Lib.hid (HM3.out.below hb4)
      have HB4 := Lib.hid (HB3.out.trans (hb4.mono HB3.out.size))
      have hz4 : b0 < w4.heap.size := by have := hb4.size; have := HZ3.out; omega
      have HS0 : Hid (SR w4 b0 d h.log 0 (some ⟨b0, 0, none⟩) 1 w4) := Lib.hid ⟨⟨rfl, .inr ⟨b0, 1, #[.string text], rfl, Nat.le_refl _, (hb4.block _ (by rw [HZ3.out]; exact Nat.lt_succ_self _)).trans HOB.out, Nat.le_refl _, by decide, rfl, by rw [HDD.out]; rfl⟩⟩, World.grownBy.refl _ _, .inl rfl⟩
      have HLOG := Lib.hid hlog
      clear hb4 hlog HLG
      go_wp2_with fail
      go_loopw [8, 50] (fun v8 v50 wr => ∃ (j : Nat) (so : Option Addr) (sc : Nat), j ≤ N ∧ v50 = .int .i64 j ∧ v8 = .slice so (j + 1) sc ∧ Hid (SR w4 b0 d h.log j so sc wr)) (fun _ v50 _ => N - (intOf v50).toNat)
      case atStart => exact ⟨0, _, _, Nat.zero_le _, rfl, rfl, HS0⟩
      case round =>
        obtain ⟨j, so, sc, hj, rfl, rfl, HS⟩ := hrel
        obtain ⟨g, cap5, hso, hgb, hncap, hgl, hcell⟩ := own_cell HS.out.own (by omega)
        obtain ⟨rfl, -, rfl⟩ : so = some ⟨g, 0, none⟩ ∧ j + 1 = j + 1 ∧ sc = cap5 := by simpa using hso
        have HCE := Lib.hid hcell
        clear hcell hso
        by_cases hlt : j < N
        · obtain ⟨e, he⟩ : ∃ e, h.log[j]? = some e := ⟨_, List.getElem?_eq_getElem (by rw [HN.out]; exact hlt)⟩
          obtain ⟨bl, no, nc, hvo, hbl, hbl4, q0, q1, q2⟩ := HLOG.out j e he
          subst hvo
          have c0 : wr.cell? ⟨bl, j, none⟩ = some (.slice no e.l.length nc) := HS.out.gr.cell q0 (fun e => by have h1 : bl = b0 := Option.some.inj e; have := HZ3.out; omega)
          have hpr : PR wr no nc e.l := q1.over HS.out.gr.size (fun a ha _ hlt => HS.out.gr.block _ hlt (fun e => by have := Option.some.inj e; have := q2 a ha; have := HZ3.out; omega))
          have hap := HHI.out.log j e he
          have HAP := Lib.hid (Apply_ok (bs (Dj d h.log j)) no nc e.l wr hpr (by rw [bs_data]; exact hap))
          rw [bs_data, ← Dj_succ d h.log j e he] at HAP
          obtain ⟨tj, htj⟩ : ∃ tj, bs (Dj d h.log (j + 1)) = tj := ⟨_, rfl⟩
          obtain ⟨sj, hsj⟩ : ∃ sj, bs (Dj d h.log j) = sj := ⟨_, rfl⟩
          have c1 : wr.cell? ⟨g, j, none⟩ = some (.string sj) := by rw [← hsj]; exact HCE.out j _ (seenCells_get d h.log (j + 1) j (by omega))
          rw [htj, hsj] at HAP
          have HTJ := Lib.hid htj
          obtain ⟨el, hel⟩ : ∃ el, e.l.length = el := ⟨_, rfl⟩
          rw [hel] at c0 HAP
          have i1 : (0 : Int) ≤ (j : Int) := by omega
          have i2 : (j : Int) < (N : Int) := by omega
          have i3 : IntKind.i64.wrap (((j + 1 : Nat) : Int) - 1) = (j : Int) := by rw [IntKind.wrap_i64]; omega
          have i3b : IntKind.i64.wrap ((j : Int) + 1 - 1) = (j : Int) := by rw [IntKind.wrap_i64]; omega
          have i4 : (j : Int) < (j : Int) + 1 := by omega
          clear q0 q1 q2 hpr hap he htj hsj hel
          go_wp2_with fail
          refine HAP.out.mono ?_
          rintro ee w5 ⟨rfl, hb5⟩
          have HS5 := Lib.hid (HS.out.below hb5)
          have HOW5 := Lib.hid HS5.out.own
          have hsz5 : b0 ≤ w5.heap.size := Nat.le_trans (Nat.le_of_lt hz4) HS5.out.gr.size
          clear hb5 c0 c1 HAP
          go_wp2_with (at_builtin; refine Gx.wpList_push w5 rfl _ _ 26 rfl b0 9 (.string ⟨#[]⟩) 1 16 Try.underlying26 Try.info_string rfl (by decide) (.slice (some ⟨g, 0, none⟩) (j + 1) sc) (j + 1) (seenCells d h.log (j + 1)) [.string tj] _ rfl rfl (by exact HOW5.out) rfl rfl (by intro u hu; simp only [List.mem_cons, List.not_mem_nil, or_false] at hu; rcases hu with rfl; rfl) (by omega) (by omega) (by exact hsz5) ?_; intro v' w6 hown6 hg6 hm6 _; obtain ⟨vo6, vc6, rfl⟩ := own_form hown6)
          have HS6 := Lib.hid (HS5.out.push hz4 (by rw [HTJ.out]; exact hown6) hg6 hm6)
          exact ⟨⟨j + 1, vo6, vc6, by omega, by go_num, rfl, HS6⟩, by simp [intOf]; omega⟩
        · obtain rfl : j = N := by omega
          have HMr := Lib.hid (HM2.out.besides HM4.out HS.out.gr (Nat.le_of_eq hb0))
          have hBr : Below w.heap.size w wr := HB4.out.grown HS.out.gr HB4.out.size (fun k e => by have h1 : b0 = k := Option.some.inj e; have := HB2.out.size; omega)
          have hmain : h.main = bs (Dj d h.log j) := by
            have h1 := HHI.out.main
            rw [HN.out] at h1
            rw [← h1]
            rfl
          have c1 : wr.cell? ⟨g, j, none⟩ = some (.string h.main) := by rw [hmain]; exact HCE.out j _ (seenCells_get d h.log (j + 1) j (by omega))
          have HMb : Hid (HM w1.heap.size R C cc h wr.drew) := Lib.hid (HMr.out.below (Gx.drewN_below wr 1 _))
          have HMA : Hid (Calls Try.prog 10 #[.pointer (some ⟨R, 0, none⟩)] wr.drew fun e w' => e = .returned (.string h.main) ∧ w' = wr.drew) := Lib.hid (Main_any HMb.out)
          have HBb : Hid (Below w.heap.size w wr.drew) := Lib.hid (hBr.trans (Gx.drewN_below wr 1 _))
          have HCb : Hid (∀ i u, (seenCells d h.log (j + 1))[i]? = some u → wr.drew.cell? ⟨g, i, none⟩ = some u) := Lib.hid fun i u hi => HCE.out i u hi
          have hgl2 : g < wr.drew.heap.size := hgl
          have m1 : (h.main.toList != h.main.toList) = false := by simp
          have i1 : (0 : Int) ≤ (j : Int) := by omega
          have i3 : IntKind.i64.wrap (((j + 1 : Nat) : Int) - 1) = (j : Int) := by rw [IntKind.wrap_i64]; omega
          have i3b : IntKind.i64.wrap ((j : Int) + 1 - 1) = (j : Int) := by rw [IntKind.wrap_i64]; omega
          have i4 : (j : Int) < (j : Int) + 1 := by omega
          have i7 : IntKind.i64.wrap (j : Int) = (j : Int) := IntWalk.i64_in _ (by omega)
          have i8 : (j : Int) < ((j + 1 : Nat) : Int) := by omega
          have i9 : (j : Int).toNat = j := rfl
          clear HMr hBr hmain HLOG
          go_wp2_with fail
          go_region_law (first | (go_simp; refine HMA.out.mono ?_; rintro e w9 ⟨rfl, rfl⟩))
          all_goals
            obtain ⟨wb, hwb⟩ : ∃ wb : World, wr.drew = wb := ⟨_, rfl⟩
            rw [hwb] at HMb HBb HCb hgl2 ⊢
            clear c1 hwb HMA m1 i1 i3 i3b i4 i7 i8 i9
            go_wp2_with fail
            go_loopw [82] (fun v82 wr => ∃ i : Nat, i ≤ k ∧ v82 = .int .i64 i ∧ Below wb.heap.size wb wr) (fun v82 _ => k - (intOf v82).toNat)
            case atStart => exact ⟨0, Nat.zero_le _, rfl, Below.refl _ _⟩
            case round =>
              obtain ⟨i, hi, rfl, hb⟩ := hrel
              by_cases hlt2 : i < k
              · obtain ⟨x, hx⟩ : ∃ x, h.cls[i]? = some x := ⟨_, List.getElem?_eq_getElem (by rw [HCN.out]; exact hlt2)⟩
                have hmx := HMb.out.below hb
                have hsn := (HGD.out.cl x (List.mem_of_getElem? hx)).1
                rw [HN.out] at hsn
                have HSE := Lib.hid (Seen_yes hmx i x hx)
                have HPE := Lib.hid (Pending_any hmx d hd HGD.out HHI.out i x hx)
                unfold PendP at HPE
                have HMX := Lib.hid hmx
                have HX := Lib.hid hx
                have HBX := Lib.hid hb
                have HCX : Hid (∀ i u, (seenCells d h.log (j + 1))[i]? = some u → wr.cell? ⟨g, i, none⟩ = some u) := Lib.hid fun i u hi => (hb.cell (p := ⟨g, i, none⟩) hgl2).trans (HCb.out i u hi)
                have hglx : g < wr.heap.size := Nat.lt_of_lt_of_le hgl2 hb.size
                obtain ⟨S, hS⟩ : ∃ S, x.seen = S := ⟨_, rfl⟩
                rw [hS] at hsn HSE HPE
                have u1 : decide ((S : Int) < 0) = false := decide_eq_false (by omega)
                have u2 : decide (((j + 1 : Nat) : Int) ≤ (S : Int)) = false := decide_eq_false (by omega)
                have u2b : decide ((j : Int) + 1 ≤ (S : Int)) = false := decide_eq_false (by omega)
                have u2n : decide (j + 1 ≤ S) = false := decide_eq_false (by omega)
                clear hmx hx hb hS
                go_wp2_with fail
                refine HSE.out.mono ?_
                rintro e w10 ⟨rfl, rfl⟩
                go_wp2_with fail
                refine HPE.out.mono ?_
                rintro e w11 ⟨po, pc, c, pl, rfl, hb11, hcs⟩
                have HCS := Lib.hid hcs
                have HM11 := Lib.hid (HMX.out.below hb11)
                have HB11 := Lib.hid (HBX.out.trans (hb11.mono HBX.out.size))
                have HTE := Lib.hid (Text_yes HM11.out i x HX.out)
                have hcell2 : w11.cell? ⟨g, S, none⟩ = some (.string (bs (Dj d h.log S))) := (hb11.cell (p := ⟨g, S, none⟩) hglx).trans (HCX.out S _ (seenCells_get d h.log (j + 1) S (by omega)))
                clear hb11 hcs HSE HPE HCX
                go_wp2_with fail
                refine HTE.out.mono ?_
                rintro e w12 ⟨rfl, rfl⟩
                by_cases h2 : c = 2
                · subst h2
                  go_wp2_with fail
                  exact ⟨⟨i + 1, by omega, by go_num, HB11.out⟩, by simp [intOf]; omega⟩
                · obtain ⟨h0, hpr, hap, htx⟩ := HCS.out.resolve_left h2
                  subst h0
                  have HAP := Lib.hid (Apply_ok (bs (Dj d h.log S)) po pc pl _ hpr (by rw [bs_data]; exact hap))
                  rw [bs_data, htx] at HAP
                  have HAP2 : Hid (Calls Try.prog 9 #[.string (bs (Dj d h.log S)), .slice po pl.length pc] w12 fun e w' => e = .returned (.tuple #[.string x.text, .int .i64 0]) ∧ Below w12.heap.size w12 w') := HAP
                  obtain ⟨sj, hsj⟩ : ∃ sj, bs (Dj d h.log S) = sj := ⟨_, rfl⟩
                  rw [hsj] at hcell2 HAP2
                  have m2 : (x.text.toList != x.text.toList) = false := by simp
                  have i5 : (0 : Int) ≤ (S : Int) := by omega
                  have i6 : (S : Int) < ((j + 1 : Nat) : Int) := by omega
                  have i6b : (S : Int) < (j : Int) + 1 := by omega
                  clear h2 hpr hap htx hsj HAP
                  go_wp2_with fail
                  refine HAP2.out.mono ?_
                  rintro e w13 ⟨rfl, hb13⟩
                  have HB13 := Lib.hid (HB11.out.trans (hb13.mono HB11.out.size))
                  clear hb13
                  go_wp2_with fail
                  exact ⟨⟨i + 1, by omega, by go_num, HB13.out⟩, by simp [intOf]; omega⟩
              · obtain rfl : i = k := by omega
                go_wp2_with fail
                try go_ret
                exact ⟨rfl, HBb.out.trans (hb.mono HBb.out.size)⟩
end Go.Proofs.Ytaibpnblnigkgaa
