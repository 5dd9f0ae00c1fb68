/-
  The contract of a hub's Log; what stays so at a hub. Conditions: the hub lies in memory; no change of the log has more than 400 parts.
-/
import Derived.Test.YtaibpnblnigkgaaHubNew
namespace Go.Proofs.Ytaibpnblnigkgaa
open Go.RowKit Gx
set_option maxRecDepth 100000

/-- a hub that came so far -/
structure Good (h : Hb) : Prop where
  n8 : h.cls.length ≤ 8
  cl : ∀ c ∈ h.cls, c.seen ≤ h.log.length ∧ (c.sent.is = true → chk c.sent.l = 0) ∧ (c.held.is = true → chk c.held.l = 0)
  lg : ∀ e ∈ h.log, chk e.l = 0
theorem Good.new (text : ByteArray) (n : Nat) (h8 : n ≤ 8) : Good (Hb.new text n) := by
  refine ⟨by simp [Hb.new]; exact h8, fun c hc => ?_, fun e he => by simp [Hb.new] at he⟩
  obtain rfl : c = Cl.new text := List.eq_of_mem_replicate hc
  exact ⟨Nat.zero_le _, fun h => by simp [Cl.new, Mb.none] at h, fun h => by simp [Cl.new, Mb.none] at h⟩
theorem Good.set {h : Hb} (g : Good h) (k : Nat) (c : Cl) (hc : c.seen ≤ h.log.length ∧ (c.sent.is = true → chk c.sent.l = 0) ∧ (c.held.is = true → chk c.held.l = 0)) : Good { h with cls := h.cls.set k c } := by
  refine ⟨by simpa using g.n8, fun d hd => ?_, g.lg⟩
  rcases List.mem_or_eq_of_mem_set hd with hd | rfl
  · exact g.cl d hd
  · exact hc
theorem chk_join {is : Bool} {l k : List Part} (h : JoinOk is l k) : chk (joinT is l k) = 0 := by
  unfold JoinOk at h
  unfold joinT
  cases is with
  | true => rw [if_pos rfl] at h ⊢; exact h.r0
  | false => rw [if_neg (by decide)] at h ⊢; exact chk_nf h
theorem chk_over {m : Mb} {l : List Part} (h : OverOk m l) (hm : m.is = true) : chk (overM m l) = 0 := by
  unfold overM
  rw [if_pos hm]
  exact (h hm).r2
theorem chk_send : ∀ (Ls : List (List Part)) (c : List Part), chk c = 0 → sendOk Ls c → chk (sendT Ls c) = 0
  | [], c, h, _ => h
  | l :: r, c, h, hs => chk_send r (trR l c) hs.1.r2 hs.2
theorem Hb.In.get {h : Hb} {n : Int} (hn : h.In n) : ∃ (k : Nat) (x : Cl), n = k ∧ h.cls[k]? = some x := by
  obtain ⟨h0, h1⟩ := hn
  exact ⟨n.toNat, _, by omega, List.getElem?_eq_getElem (by omega)⟩
theorem Good.type {h h' : Hb} {n c : Int} {l : List Part} (g : Good h) (s : TypeStep h n l c h') : Good h' := by
  by_cases hc : c = 0
  · by_cases hn : h.In n
    · obtain ⟨k, x, hk, hx⟩ := hn.get
      obtain ⟨ad, cap, rfl⟩ := s.yes k x hk hx hc
      have hx2 := g.cl x (List.mem_of_getElem? hx)
      exact g.set k _ ⟨hx2.1, hx2.2.1, fun _ => chk_join ((s.ok k x hk hx).1 hc).2⟩
    · exact absurd hc (s.out hn)
  · rw [s.no hc]; exact g
theorem Good.recv {h h' : Hb} {n c : Int} (g : Good h) (s : RecvStep h n c h') : Good h' := by
  by_cases hc : c = 0
  · by_cases hn : h.In n
    · obtain ⟨k, x, hk, hx⟩ := hn.get
      have hx2 := g.cl x (List.mem_of_getElem? hx)
      by_cases hs : x.seen = h.log.length
      · have := s.nil k x hk hx hs
        omega
      · obtain ⟨e, he⟩ : ∃ e, h.log[x.seen]? = some e := ⟨_, List.getElem?_eq_getElem (by omega)⟩
        by_cases hw : e.who = n
        · obtain ⟨-, rfl⟩ := s.own k x e hk hx he hw
          exact g.set k _ ⟨by show x.seen + 1 ≤ _; omega, fun h => by simp [Mb.none] at h, hx2.2.2⟩
        · obtain ⟨hiff, hyes⟩ := s.other k x e hk hx he hw
          obtain ⟨sent, held, h1, h2, h3, h4, rfl⟩ := hyes hc
          have hok := hiff.1 hc
          exact g.set k _ ⟨by show x.seen + 1 ≤ _; omega, fun h => by show chk sent.l = 0; rw [h3]; exact chk_over hok.1 (by rw [← h1]; exact h), fun h => by show chk held.l = 0; rw [h4]; exact chk_over hok.2.1 (by rw [← h2]; exact h)⟩
    · exact absurd hc (s.out hn)
  · rw [s.no hc]; exact g
theorem Good.send {h h' : Hb} {n c : Int} (g : Good h) (s : SendStep h n c h') : Good h' ∧ h'.log.length ≤ h.log.length + 1 := by
  by_cases hc : c = 0
  · by_cases hn : h.In n
    · obtain ⟨k, x, hk, hx⟩ := hn.get
      have hx2 := g.cl x (List.mem_of_getElem? hx)
      cases hs : x.sent.is with
      | true => have := s.sent k x hk hx hs; omega
      | false =>
        cases hh : x.held.is with
        | false => have := s.nil k x hk hx hs hh; omega
        | true =>
          obtain ⟨hiff, hyes⟩ := s.go k x hk hx hs hh
          obtain ⟨e, lv, h1, h2, rfl⟩ := hyes hc
          refine ⟨⟨by simpa using g.n8, fun d hd => ?_, fun d hd => ?_⟩, by simp⟩
          · rcases List.mem_or_eq_of_mem_set hd with hd | rfl
            · have := g.cl d hd
              exact ⟨by simp; omega, this.2⟩
            · exact ⟨by simp; omega, fun _ => hx2.2.2 hh, fun h => by simp [Mb.none] at h⟩
          · rcases List.mem_append.1 hd with hd | hd
            · exact g.lg d hd
            · obtain rfl : d = e := by simpa using hd
              rw [h2]
              exact chk_send _ _ (hx2.2.2 hh) (hiff.1 hc).1
    · exact absurd hc (s.out hn)
  · rw [s.no hc]; exact ⟨g, Nat.le_succ _⟩
theorem recv_log {h h' : Hb} {n c : Int} (g : Good h) (s : RecvStep h n c h') : h'.log = h.log := by
  by_cases hc : c = 0
  · by_cases hn : h.In n
    · obtain ⟨k, x, hk, hx⟩ := hn.get
      have hx2 := g.cl x (List.mem_of_getElem? hx)
      by_cases hs : x.seen = h.log.length
      · have := s.nil k x hk hx hs
        omega
      · obtain ⟨e, he⟩ : ∃ e, h.log[x.seen]? = some e := ⟨_, List.getElem?_eq_getElem (by omega)⟩
        by_cases hw : e.who = n
        · obtain ⟨-, rfl⟩ := s.own k x e hk hx he hw
          rfl
        · obtain ⟨hiff, hyes⟩ := s.other k x e hk hx he hw
          obtain ⟨sent, held, h1, h2, h3, h4, rfl⟩ := hyes hc
          rfl
    · exact absurd hc (s.out hn)
  · rw [s.no hc]
theorem type_log {h h' : Hb} {n c : Int} {l : List Part} (s : TypeStep h n l c h') : h'.log = h.log ∧ h'.main = h.main := by
  by_cases hc : c = 0
  · by_cases hn : h.In n
    · obtain ⟨k, x, hk, hx⟩ := hn.get
      obtain ⟨ad, cap, rfl⟩ := s.yes k x hk hx hc
      exact ⟨rfl, rfl⟩
    · exact absurd hc (s.out hn)
  · rw [s.no hc]; exact ⟨rfl, rfl⟩

/-! the log, told -/
def ptCells (L : List Pt) : List Value := L.map fun p => .slice p.ad p.l.length p.cap
def LogP (h : Hb) (w : World) (e : Ending) (w' : World) : Prop :=
  ∃ vo vc, e = .returned (.slice vo h.log.length vc) ∧ h.log.length ≤ vc ∧ Below w.heap.size w w' ∧ ∀ i (e : Lg), h.log[i]? = some e → ∃ b no nc, vo = some ⟨b, 0, none⟩ ∧ w.heap.size ≤ b ∧ b < w'.heap.size ∧ w'.cell? ⟨b, i, none⟩ = some (.slice no e.l.length nc) ∧ PR w' no nc e.l ∧ Fresh w.heap.size no
theorem Try.info_parts1 : (Try.prog.info? 29).map (fun i => (i.zero, i.size, i.bytes)) = some (some (.slice none 0 0), 1, 24) := by kernel_rfl
/-- Log's state in memory: what is told so far -/
structure LM (w : World) (h : Hb) (j : Nat) (vo : Option Addr) (vc : Nat) (L : List Pt) (wr : World) : Prop where
  bel : Below w.heap.size w wr
  own : wr.ownsRow w.heap.size 29 1 (.slice vo j vc) j (ptCells L)
  ls : L.map Pt.l = (h.log.take j).map Lg.l
  pr : ∀ p ∈ L, (PR wr p.ad p.cap p.l ∧ Fresh w.heap.size p.ad) ∧ ∀ a, p.ad = some a → 0 < p.l.length → (Value.slice vo j vc).ownBlock ≠ some a.block
theorem LM.below {w wr w2 : World} {h : Hb} {j : Nat} {vo : Option Addr} {vc : Nat} {L : List Pt} (m : LM w h j vo vc L wr) (hb : Below wr.heap.size wr w2) : LM w h j vo vc L w2 :=
  ⟨m.bel.trans (hb.mono m.bel.size), own_keep m.own hb, m.ls, fun p hp => ⟨⟨(m.pr p hp).1.1.keep hb, (m.pr p hp).1.2⟩, (m.pr p hp).2⟩⟩
theorem LM.push {w wr w4 : World} {h : Hb} {j : Nat} {vo : Option Addr} {vc : Nat} {L : List Pt} (m : LM w h j vo vc L wr) (e : Lg) (he : h.log[j]? = some e) (no : Option Addr) (nc : Nat) (hp : PR wr no nc e.l) (hf : Fresh w.heap.size no) (hpn : ∀ a, no = some a → 0 < e.l.length → (Value.slice vo j vc).ownBlock ≠ some a.block) (vo' : Option Addr) (vc' : Nat)
    (hown : w4.ownsRow w.heap.size 29 1 (.slice vo' (j + 1) vc') (j + 1) (ptCells L ++ [.slice no e.l.length nc])) (hg : wr.grownBy w4 (Value.slice vo j vc).ownBlock) (hm : Moved (.slice vo j vc) (.slice vo' (j + 1) vc') wr.heap.size) :
    LM w h (j + 1) vo' vc' (L ++ [⟨e.l, no, nc⟩]) w4 := by
  have hk : ∀ p : Pt, PR wr p.ad p.cap p.l ∧ Fresh w.heap.size p.ad → (∀ a, p.ad = some a → 0 < p.l.length → (Value.slice vo j vc).ownBlock ≠ some a.block) → (PR w4 p.ad p.cap p.l ∧ Fresh w.heap.size p.ad) ∧ ∀ a, p.ad = some a → 0 < p.l.length → (Value.slice vo' (j + 1) vc').ownBlock ≠ some a.block := fun p h1 h2 =>
    ⟨⟨h1.1.over hg.size (fun a ha hl hlt => hg.block _ hlt (fun e => h2 a ha hl e.symm)), h1.2⟩, fun a ha hl => hm.ne (h1.1.at_ a ha hl).2.1 (h2 a ha hl)⟩
  have hlow := m.own.lt
  refine ⟨m.bel.grown hg m.bel.size (fun k e => (hlow k e).1), ?_, ?_, fun p hp' => ?_⟩
  · unfold ptCells at hown ⊢
    rw [List.map_append]
    exact hown
  · rw [List.map_append, m.ls, List.take_add_one, he]
    simp
  · rcases List.mem_append.1 hp' with hp' | hp'
    · exact hk p (m.pr p hp').1 (m.pr p hp').2
    · obtain rfl : p = ⟨e.l, no, nc⟩ := by simpa using hp'
      exact hk _ ⟨hp, hf⟩ hpn
set_option maxHeartbeats 4000000 in
theorem Log_any {B R C cap : Nat} {h : Hb} {w : World} (m : HM B R C cap h w) (hl : h.log.length ≤ 100000) (h4 : ∀ e ∈ h.log, e.l.length ≤ 100000) :
    Calls Try.prog 8 #[.pointer (some ⟨R, 0, none⟩)] w (LogP h w) := by
  obtain ⟨-, r1, -, -⟩ := m.cells
  obtain ⟨lo, lc, hlv⟩ := m.lg
  rw [hlv] at r1
  have HMM := Lib.hid m
  have H4 := Lib.hid h4
  obtain ⟨N, hN⟩ : ∃ N, h.log.length = N := ⟨_, rfl⟩
  rw [hN] at r1 hl
  have HN := Lib.hid hN
  have HLV := Lib.hid hlv
  clear m h4 hN hlv
  go_enter Try.func8, Try.ntmps8
  go_wp2_with fail
  go_loopw [3, 11] (fun v3 v11 wr => ∃ (j : Nat) (vo : Option Addr) (vc : Nat) (L : List Pt), j ≤ N ∧ v11 = .int .i64 j ∧ v3 = .slice vo j vc ∧ Hid (LM w h j vo vc L wr)) (fun _ v11 _ => N - (intOf v11).toNat)
  case atStart => exact ⟨0, none, 0, [], Nat.zero_le _, rfl, rfl, Lib.hid ⟨Below.refl _ _, World.ownsRow_nil _ _ _ _, by simp, fun p hp => absurd hp (by simp)⟩⟩
  case round =>
    obtain ⟨j, vo, vc, L, hj, rfl, rfl, HL⟩ := hrel
    by_cases hlt : j < N
    · obtain ⟨e, he⟩ : ∃ e, h.log[j]? = some e := ⟨_, List.getElem?_eq_getElem (by rw [HN.out]; exact hlt)⟩
      have hmr := HMM.out.below HL.out.bel
      obtain ⟨g, lc2, hlv2, hnc, hgl, g0, g1⟩ := hmr.logCell he
      rw [HLV.out] at hlv2
      obtain ⟨rfl, -, rfl⟩ : lo = some ⟨g, 0, none⟩ ∧ h.log.length = h.log.length ∧ lc = lc2 := by simpa using hlv2
      have hpe : PR wr e.ad e.cap e.l := (hmr.parts e.pt (.inl ⟨e, List.mem_of_getElem? he, rfl⟩)).1
      have ha := (Below.refl wr.heap.size wr).alloc (Nat.le_refl _) (.cells #[.int .i64 e.who, .slice e.ad e.l.length e.cap] 51)
      have HCL := Lib.hid (clonep_any _ e.ad e.cap e.l (hpe.keep ha) (H4.out e (List.mem_of_getElem? he)))
      unfold ClonePP at HCL
      have HLA := Lib.hid (HL.out.below ha)
      obtain ⟨-, b1, -⟩ := two_cells (heap_alloc_new wr (.cells #[.int .i64 e.who, .slice e.ad e.l.length e.cap] 51))
      have HE := Lib.hid he
      obtain ⟨el, hel⟩ : ∃ el, e.l.length = el := ⟨_, rfl⟩
      rw [hel] at g1 b1 HCL HLA
      have HEL := Lib.hid hel
      have i1 : (0 : Int) ≤ (j : Int) := by omega
      have i2 : (j : Int) < (N : Int) := by omega
      clear he hmr hlv2 hpe ha hel HL
      go_wp2_with fail
      try rw [HEL.out]
      generalize wr.alloc (.cells #[.int .i64 e.who, .slice e.ad el e.cap] 51) = wa at HCL HLA b1 ⊢
      refine HCL.out.mono ?_
      rintro ee w2 ⟨no, nc, rfl, hp, hf, hb⟩
      have hL2 := HLA.out.below hb
      have hpn : ∀ a, no = some a → 0 < e.l.length → (Value.slice vo j vc).ownBlock ≠ some a.block := fun a ha _ e => by
        have h1 := (HLA.out.own.lt _ e).2
        have h2 := hf a ha
        omega
      have HL2 := Lib.hid hL2
      have HPN := Lib.hid hpn
      have HPP := Lib.hid hp
      have HFF : Hid (Fresh w.heap.size no) := Lib.hid fun a ha => Nat.le_trans HLA.out.bel.size (hf a ha)
      have HOWN := Lib.hid hL2.own
      have hsz : w.heap.size ≤ w2.heap.size := hL2.bel.size
      clear hp hf hb hL2 hpn b1
      try rw [HEL.out]
      go_wp2_with (at_builtin; refine Gx.wpList_push w2 rfl _ _ 27 rfl w.heap.size 29 (.slice none 0 0) 1 24 Try.underlying27 Try.info_parts1 rfl (by decide) (.slice vo j vc) j (ptCells L) [.slice no el nc] _ rfl rfl (by exact HOWN.out) rfl rfl (by intro u hu; simp only [List.mem_cons, List.not_mem_nil, or_false] at hu; rcases hu with rfl; rfl) (by omega) (by omega) (by exact hsz) ?_; intro v' w4 hown4 hg4 hm4 _; obtain ⟨vo4, vc4, rfl⟩ := own_form hown4)
      have HREL := Lib.hid (HL2.out.push e HE.out no nc HPP.out HFF.out HPN.out vo4 vc4 (by rw [HEL.out]; exact hown4) hg4 hm4)
      exact ⟨⟨j + 1, vo4, vc4, _, by omega, by go_num, rfl, HREL⟩, by simp [intOf]; omega⟩
    · obtain rfl : j = N := by omega
      go_wp2_with fail
      try go_ret
      refine ⟨vo, vc, by rw [HN.out]; rfl, ?_, HL.out.bel, fun i e he => ?_⟩
      · rcases HL.out.own.2 with ⟨h1, h0⟩ | ⟨g, cap', cur, h1, hb, hg, hnc, -⟩
        · rw [HN.out]; omega
        · obtain ⟨-, -, rfl⟩ : vo = some ⟨g, 0, none⟩ ∧ j = j ∧ vc = cap' := by simpa using h1
          rw [HN.out]
          exact hnc
      · have hil : i < j := by rw [← HN.out]; exact (List.getElem?_eq_some_iff.1 he).1
        have hll : L.length = j := by
          have := congrArg List.length HL.out.ls
          simpa [HN.out] using this
        obtain ⟨p, hp⟩ : ∃ p, L[i]? = some p := ⟨_, List.getElem?_eq_getElem (by omega)⟩
        have hpl : p.l = e.l := by
          have h1 := congrArg (fun x => x[i]?) HL.out.ls
          simp only [List.getElem?_map, hp] at h1
          rw [List.getElem?_take, if_pos hil, he] at h1
          simpa using h1
        have hc := fun g => HL.out.own.cells (g := g)
        have hlt2 := HL.out.own.lt
        rcases HL.out.own.2 with ⟨h1, h0⟩ | ⟨g, cap', cur, h1, hb, hg, hnc, -⟩
        · omega
        · obtain ⟨rfl, -, rfl⟩ : vo = some ⟨g, 0, none⟩ ∧ j = j ∧ vc = cap' := by simpa using h1
          have h2 := hc g rfl i (.slice p.ad p.l.length p.cap) (by unfold ptCells; rw [List.getElem?_map, hp]; rfl)
          rw [Addr.add_lit, Nat.zero_add] at h2
          refine ⟨g, p.ad, p.cap, rfl, (hlt2 g rfl).1, (hlt2 g rfl).2, by rw [← hpl]; exact h2, by rw [← hpl]; exact (HL.out.pr p (List.mem_of_getElem? hp)).1.1, (HL.out.pr p (List.mem_of_getElem? hp)).1.2⟩
end Go.Proofs.Ytaibpnblnigkgaa
