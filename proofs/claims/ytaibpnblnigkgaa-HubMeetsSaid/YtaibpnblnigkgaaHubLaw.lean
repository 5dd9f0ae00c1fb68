/-
  Plain law of a hub: what each client's text is, in terms of what it has seen and of what is on its way. No conditions.
-/
import Derived.Test.YtaibpnblnigkgaaHubLog
import Derived.Test.YtaibpnblnigkgaaSpliceFin
namespace Go.Proofs.Ytaibpnblnigkgaa
open Go.RowKit Gx

def Mb.app (m : Mb) (d : List UInt8) : List UInt8 := if m.is = true then apT d m.l else d
def Mb.Fits (m : Mb) (d : List UInt8) : Prop := m.is = true → apErr d m.l = 0
/-- the text behind so many changes of the log -/
def Dj (d : List UInt8) (log : List Lg) (j : Nat) : List UInt8 := (log.take j).foldl (fun s e => apT s e.l) d
theorem Dj_succ (d : List UInt8) (log : List Lg) (j : Nat) (e : Lg) (he : log[j]? = some e) : Dj d log (j + 1) = apT (Dj d log j) e.l := by
  unfold Dj
  rw [List.take_add_one, he]
  simp
theorem Dj_push (d : List UInt8) (log : List Lg) (e : Lg) (j : Nat) (hj : j ≤ log.length) : Dj d (log ++ [e]) j = Dj d log j := by
  unfold Dj
  rw [List.take_append_of_le_length hj]
theorem over_law {d : List UInt8} {m : Mb} {l : List Part} (h : OverOk m l) (hm : m.Fits d) (hl : apErr d l = 0) (m' : Mb) (h1 : m'.is = m.is) (h2 : m'.l = overM m l) :
    apErr (m.app d) (overL m l) = 0 ∧ m'.Fits (apT d l) ∧ apT (m.app d) (overL m l) = m'.app (apT d l) := by
  unfold Mb.app Mb.Fits overL
  rw [h1, h2]
  unfold overM
  cases hm2 : m.is with
  | true =>
    obtain ⟨q1, q2, q3⟩ := meets_law (h hm2) hl (hm hm2)
    simp only [if_true]
    exact ⟨q2, fun _ => q1, q3.symm⟩
  | false =>
    simp only [Bool.false_eq_true, if_false]
    exact ⟨hl, fun h => absurd h (by decide), trivial⟩
theorem join_app {d : List UInt8} {m : Mb} {c : List Part} (h : JoinOk m.is m.l c) (hm : m.Fits d) (hc : apErr (m.app d) c = 0) : apErr d (joinT m.is m.l c) = 0 ∧ apT d (joinT m.is m.l c) = apT (m.app d) c := by
  unfold JoinOk at h
  unfold Mb.app at hc ⊢
  unfold joinT
  cases hm2 : m.is with
  | true =>
    rw [hm2, if_pos rfl] at h
    simp only [if_true]
    exact join_law h (hm hm2)
  | false =>
    rw [hm2] at h hc
    simp only [Bool.false_eq_true, if_false] at h hc ⊢
    exact ⟨by rw [apErr_nf h]; exact hc, apT_same (same_nf (ex c))⟩
/-- a client's text -/
structure Pend (d : List UInt8) (x : Cl) : Prop where
  sent : x.sent.Fits d
  held : x.held.Fits (x.sent.app d)
  text : x.text.data.toList = x.held.app (x.sent.app d)
/-- what is on its way to the hub and back -/
structure Way (log : List Lg) (k : Nat) (x : Cl) : Prop where
  is : x.sent.is = true → ∃ j e, x.seen ≤ j ∧ log[j]? = some e ∧ e.who = k ∧ e.l = sendT (((log.drop x.seen).take (j - x.seen)).map Lg.l) x.sent.l ∧ ∀ i e', x.seen ≤ i → log[i]? = some e' → e'.who = k → i = j
  isnt : x.sent.is = false → ∀ i e', x.seen ≤ i → log[i]? = some e' → e'.who ≠ k
structure HI (d : List UInt8) (h : Hb) : Prop where
  main : h.main.data.toList = Dj d h.log h.log.length
  log : ∀ j e, h.log[j]? = some e → apErr (Dj d h.log j) e.l = 0
  cls : ∀ k x, h.cls[k]? = some x → Pend (Dj d h.log x.seen) x ∧ Way h.log k x
theorem HI.new (text : ByteArray) (n : Nat) : HI text.data.toList (Hb.new text n) := by
  refine ⟨rfl, fun j e he => by simp [Hb.new] at he, fun k x hx => ?_⟩
  obtain rfl : x = Cl.new text := List.eq_of_mem_replicate (List.mem_of_getElem? hx)
  exact ⟨⟨fun h => by simp [Cl.new, Mb.none] at h, fun h => by simp [Cl.new, Mb.none] at h, by simp [Cl.new, Mb.none, Mb.app, Dj, Hb.new]⟩, ⟨fun h => by simp [Cl.new, Mb.none] at h, fun _ i e' _ he => by simp [Hb.new] at he⟩⟩
theorem HI.set {d : List UInt8} {h : Hb} (g : HI d h) (k : Nat) (x x' : Cl) (hx : h.cls[k]? = some x) (hp : Pend (Dj d h.log x'.seen) x') (hw : Way h.log k x') : HI d { h with cls := h.cls.set k x' } := by
  refine ⟨g.main, g.log, fun i y hy => ?_⟩
  by_cases hi : i = k
  · subst hi
    rw [show ({ h with cls := h.cls.set i x' } : Hb).cls = h.cls.set i x' from rfl, get_set hx] at hy
    obtain rfl : x' = y := Option.some.inj hy
    exact ⟨hp, hw⟩
  · rw [show ({ h with cls := h.cls.set k x' } : Hb).cls = h.cls.set k x' from rfl, List.getElem?_set_ne (by omega)] at hy
    exact g.cls i y hy
theorem bs_data (l : List UInt8) : (bs l).data.toList = l := by simp [bs]
theorem HI.type {d : List UInt8} {h h' : Hb} {n c : Int} {l : List Part} (g : HI d h) (s : TypeStep h n l c h') : HI d h' := by
  by_cases hc : c = 0
  · by_cases hn : h.In n
    · obtain ⟨k, x, hk, hx⟩ := hn.get
      obtain ⟨ad, cap, rfl⟩ := s.yes k x hk hx hc
      obtain ⟨ha, hj⟩ := (s.ok k x hk hx).1 hc
      obtain ⟨hp, hw⟩ := g.cls k x hx
      rw [hp.text] at ha
      obtain ⟨j1, j2⟩ := join_app (d := x.sent.app (Dj d h.log x.seen)) hj hp.held ha
      refine g.set k x _ hx ⟨hp.sent, fun _ => j1, ?_⟩ ⟨hw.is, hw.isnt⟩
      rw [bs_data, hp.text]
      unfold Mb.app at j2 ⊢
      simp only [if_true]
      exact j2.symm
    · exact absurd hc (s.out hn)
  · rw [s.no hc]; exact g
theorem HI.send {d : List UInt8} {h h' : Hb} {n c : Int} (g : HI d h) (gd : Good h) (s : SendStep h n c h') : HI d h' := by
  by_cases hc : c = 0
  · by_cases hn : h.In n
    · obtain ⟨k, x, hk, hx⟩ := hn.get
      have hsn := (gd.cl x (List.mem_of_getElem? hx)).1
      cases hs : x.sent.is with
      | true => have := s.sent k x hk hx hs; omega
      | false =>
        cases hh : x.held.is with
        | false => have := s.nil k x hk hx hs hh; omega
        | true =>
          obtain ⟨hiff, hyes⟩ := s.go k x hk hx hs hh
          obtain ⟨e, lv, h1, h2, rfl⟩ := hyes hc
          obtain ⟨hok, hap⟩ := hiff.1 hc
          obtain ⟨hp, hw⟩ := g.cls k x hx
          have hsa : x.sent.app (Dj d h.log x.seen) = Dj d h.log x.seen := by unfold Mb.app; rw [hs]; rfl
          refine ⟨?_, fun j e' he' => ?_, fun i y hy => ?_⟩
          · show (bs _).data.toList = Dj d (h.log ++ [e]) (h.log ++ [e]).length
            rw [bs_data, List.length_append, List.length_singleton, Dj_succ d (h.log ++ [e]) h.log.length e (by simp), Dj_push _ _ _ _ (Nat.le_refl _), ← g.main, h2]
          · show apErr (Dj d (h.log ++ [e]) j) e'.l = 0
            change (h.log ++ [e])[j]? = some e' at he'
            by_cases hj : j < h.log.length
            · rw [List.getElem?_append_left hj] at he'
              rw [Dj_push _ _ _ _ (Nat.le_of_lt hj)]
              exact g.log j e' he'
            · rw [List.getElem?_append_right (by omega)] at he'
              have hj0 : j - h.log.length = 0 := by
                have := (List.getElem?_eq_some_iff.1 he').1
                simp at this
                omega
              rw [hj0] at he'
              obtain rfl : e = e' := by simpa using he'
              obtain rfl : j = h.log.length := by omega
              rw [Dj_push _ _ _ _ (Nat.le_refl _), ← g.main, h2]
              exact hap
          · change (h.cls.set k { x with sent := x.held, held := Mb.none })[i]? = some y at hy
            show Pend (Dj d (h.log ++ [e]) y.seen) y ∧ Way (h.log ++ [e]) i y
            by_cases hi : i = k
            · subst hi
              rw [get_set hx] at hy
              obtain rfl := Option.some.inj hy
              have hD : Dj d (h.log ++ [e]) x.seen = Dj d h.log x.seen := Dj_push _ _ _ _ hsn
              refine ⟨⟨?_, fun h => by simp [Mb.none] at h, ?_⟩, ⟨fun _ => ⟨h.log.length, e, hsn, by simp, h1, ?_, fun i' e' hi' he' hw' => ?_⟩, fun h => by rw [show ({ x with sent := x.held, held := Mb.none } : Cl).sent.is = x.held.is from rfl, hh] at h; exact absurd h (by decide)⟩⟩
              · show x.held.Fits (Dj d (h.log ++ [e]) x.seen)
                rw [hD, ← hsa]
                exact hp.held
              · show x.text.data.toList = Mb.none.app (x.held.app (Dj d (h.log ++ [e]) x.seen))
                rw [hD, hp.text, hsa]
                rfl
              · show e.l = sendT ((((h.log ++ [e]).drop x.seen).take (h.log.length - x.seen)).map Lg.l) x.held.l
                rw [h2, List.drop_append_of_le_length hsn, List.take_append_of_le_length (by rw [List.length_drop]; exact Nat.le_refl _), List.take_of_length_le (by rw [List.length_drop]; exact Nat.le_refl _)]
                rfl
              · by_cases hlt : i' < h.log.length
                · rw [List.getElem?_append_left hlt] at he'
                  exact absurd hw' (hw.isnt hs i' e' hi' he')
                · have := (List.getElem?_eq_some_iff.1 he').1
                  simp at this
                  omega
            · rw [List.getElem?_set_ne (by omega)] at hy
              obtain ⟨hp2, hw2⟩ := g.cls i y hy
              have hsn2 := (gd.cl y (List.mem_of_getElem? hy)).1
              have hD : Dj d (h.log ++ [e]) y.seen = Dj d h.log y.seen := Dj_push _ _ _ _ hsn2
              rw [hD]
              have hnew : ∀ i' e', y.seen ≤ i' → (h.log ++ [e])[i']? = some e' → e'.who = i → h.log[i']? = some e' := fun i' e' _ he' hw' => by
                by_cases hlt : i' < h.log.length
                · rwa [List.getElem?_append_left hlt] at he'
                · rw [List.getElem?_append_right (by omega)] at he'
                  have hj0 : i' - h.log.length = 0 := by
                    have := (List.getElem?_eq_some_iff.1 he').1
                    simp at this
                    omega
                  rw [hj0] at he'
                  obtain rfl : e = e' := by simpa using he'
                  omega
              refine ⟨hp2, ⟨fun h => ?_, fun h i' e' hi' he' hw' => hw2.isnt h i' e' hi' (hnew i' e' hi' he' hw') hw'⟩⟩
              obtain ⟨j, ej, q1, q2, q3, q4, q5⟩ := hw2.is h
              have hjl := (List.getElem?_eq_some_iff.1 q2).1
              refine ⟨j, ej, q1, by rw [List.getElem?_append_left hjl]; exact q2, q3, ?_, fun i' e' hi' he' hw' => q5 i' e' hi' (hnew i' e' hi' he' hw') hw'⟩
              rw [q4, List.drop_append_of_le_length hsn2, List.take_append_of_le_length (by rw [List.length_drop]; omega)]
    · exact absurd hc (s.out hn)
  · rw [s.no hc]; exact g
theorem HI.recv {d : List UInt8} {h h' : Hb} {n c : Int} (g : HI d h) (gd : Good h) (s : RecvStep h n c h') : HI d h' := by
  by_cases hc : c = 0
  · by_cases hn : h.In n
    · obtain ⟨k, x, hk, hx⟩ := hn.get
      have hsn := (gd.cl x (List.mem_of_getElem? hx)).1
      obtain ⟨hp, hw⟩ := g.cls k x hx
      by_cases hs : x.seen = h.log.length
      · have := s.nil k x hk hx hs
        omega
      · obtain ⟨e, he⟩ : ∃ e, h.log[x.seen]? = some e := ⟨_, List.getElem?_eq_getElem (by omega)⟩
        have hD := Dj_succ d h.log x.seen e he
        by_cases hwho : e.who = n
        · obtain ⟨-, rfl⟩ := s.own k x e hk hx he hwho
          have hsi : x.sent.is = true := by
            cases hs2 : x.sent.is with
            | true => rfl
            | false => exact absurd (by omega) (hw.isnt hs2 x.seen e (Nat.le_refl _) he)
          obtain ⟨j, ej, q1, q2, q3, q4, q5⟩ := hw.is hsi
          obtain rfl : x.seen = j := q5 x.seen e (Nat.le_refl _) he (by omega)
          obtain rfl : e = ej := Option.some.inj (he.symm.trans q2)
          have hel : e.l = x.sent.l := by
            rw [q4, Nat.sub_self]
            rfl
          have hmid : x.sent.app (Dj d h.log x.seen) = Dj d h.log (x.seen + 1) := by
            rw [hD, hel]
            unfold Mb.app
            rw [hsi]
            rfl
          refine g.set k x _ hx ⟨fun h => by simp [Mb.none] at h, ?_, ?_⟩ ⟨fun h => by simp [Mb.none] at h, fun _ i e' hi he' hw' => ?_⟩
          · show x.held.Fits (Mb.none.app (Dj d h.log (x.seen + 1)))
            rw [← hmid]
            exact hp.held
          · show x.text.data.toList = x.held.app (Mb.none.app (Dj d h.log (x.seen + 1)))
            rw [← hmid]
            exact hp.text
          · change x.seen + 1 ≤ i at hi
            have := q5 i e' (by omega) he' hw'
            omega
        · obtain ⟨hiff, hyes⟩ := s.other k x e hk hx he hwho
          obtain ⟨sent, held, h1, h2, h3, h4, rfl⟩ := hyes hc
          obtain ⟨ok1, ok2, ok3⟩ := hiff.1 hc
          have hle := g.log x.seen e he
          obtain ⟨a1, a2, a3⟩ := over_law ok1 hp.sent hle sent h1 h3
          obtain ⟨b1, b2, b3⟩ := over_law ok2 hp.held a1 held h2 h4
          refine g.set k x _ hx ⟨?_, ?_, ?_⟩ ⟨fun hsi => ?_, fun hsi i e' hi he' hw' => ?_⟩
          · show sent.Fits (Dj d h.log (x.seen + 1))
            rw [hD]; exact a2
          · show held.Fits (sent.app (Dj d h.log (x.seen + 1)))
            rw [hD, ← a3]; exact b2
          · show (bs _).data.toList = held.app (sent.app (Dj d h.log (x.seen + 1)))
            rw [bs_data, hD, ← a3, ← b3, hp.text]
          · change sent.is = true at hsi
            rw [h1] at hsi
            obtain ⟨j, ej, q1, q2, q3, q4, q5⟩ := hw.is hsi
            have hne : x.seen ≠ j := fun hh => by
              subst hh
              obtain rfl : e = ej := Option.some.inj (he.symm.trans q2)
              omega
            refine ⟨j, ej, by show x.seen + 1 ≤ j; omega, q2, q3, ?_, fun i e' hi he' hw' => q5 i e' (by change x.seen + 1 ≤ i at hi; omega) he' hw'⟩
            show ej.l = sendT (((h.log.drop (x.seen + 1)).take (j - (x.seen + 1))).map Lg.l) sent.l
            rw [q4, h3]
            have hdr : h.log.drop x.seen = e :: h.log.drop (x.seen + 1) := by
              have hlt := (List.getElem?_eq_some_iff.1 he).1
              rw [List.drop_eq_getElem_cons hlt]
              congr 1
              exact (List.getElem?_eq_some_iff.1 he).2
            rw [hdr, show j - x.seen = (j - (x.seen + 1)) + 1 by omega, List.take_succ_cons, List.map_cons]
            unfold overM
            rw [if_pos hsi]
            rfl
          · change sent.is = false at hsi
            rw [h1] at hsi
            exact hw.isnt hsi i e' (by change x.seen + 1 ≤ i at hi; omega) he' hw'
    · exact absurd hc (s.out hn)
  · rw [s.no hc]; exact g
end Go.Proofs.Ytaibpnblnigkgaa
