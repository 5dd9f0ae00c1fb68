/-
  The contract of samePath, of two paths that are not the same. Conditions: the steps lie where the arguments say.
-/
import Derived.Test.YtpjigecmnefnhaaDoorPathChk
namespace Go.Proofs.YtpjigecmnefnhaaDoor
open Go.RowKit Gx
set_option maxRecDepth 100000

def FalseP (w : World) (e : Ending) (w' : World) : Prop := e = .returned (.bool false) ∧ Below w.heap.size w w'
theorem bs_inj {a b : List UInt8} (h : bs a = bs b) : a = b := by
  have := congrArg (fun x : ByteArray => x.data.toList) h
  simpa [list_bs] using this
set_option maxHeartbeats 4000000 in
theorem stepEqual_no (ad bd : Option Addr) (ca cb : Nat) (l l' : List Step) (w : World) (h : SR w ad ca l) (g : SR w bd cb l') (hl : l.length ≤ 100000) (hl' : l'.length ≤ 100000) (hne : l ≠ l') :
    Calls Tryd.prog 21 #[.slice ad l.length ca, .slice bd l'.length cb] w (FalseP w) := by
  by_cases hlen : l.length = l'.length
  rotate_left
  · have t1 : ((l.length : Int) != (l'.length : Int)) = true := by simp; omega
    have t2 : (l.length != l'.length) = true := by simp [hlen]
    generalize l.length = n at *
    generalize l'.length = n' at *
    clear h g hne
    go_enter Tryd.func21, Tryd.ntmps21
    go_wp2_with fail
    try go_ret
    exact ⟨rfl, Below.refl _ _⟩
  obtain ⟨n, hn⟩ : ∃ n, n = l.length := ⟨_, rfl⟩
  rw [← hlen, ← hn]
  have HNE : Hid (∀ k, k = n → ¬ ∀ j, j < k → l[j]? = l'[j]?) := Lib.hid (fun k hk h => hne (by
    apply List.ext_getElem?
    intro i
    by_cases hi : i < k
    · exact h i hi
    · rw [List.getElem?_eq_none (by omega), List.getElem?_eq_none (by omega)]))
  have H := Lib.hid h
  have G := Lib.hid g
  have HN := Lib.hid hn
  have HLE : Hid (l'.length = n) := Lib.hid (by omega)
  rw [← hn] at hl
  have t1 : ((n : Int) != (n : Int)) = false := by simp
  clear h g hl' hne hlen hn
  go_enter Tryd.func21, Tryd.ntmps21
  go_wp2_with fail
  go_loopw [13] (fun i wr => ∃ k : Nat, k ≤ n ∧ i = .int .i64 k ∧ Hid (∃ n, wr = w.drewN n) ∧ Hid (∀ j, j < k → l[j]? = l'[j]?)) (fun i _ => n - (intOf i).toNat)
  case atStart => exact ⟨0, Nat.zero_le _, rfl, Lib.hid ⟨0, rfl⟩, Lib.hid (fun j hj => by omega)⟩
  case round =>
    obtain ⟨k, hk, rfl, hw, HP⟩ := hrel
    by_cases hlt : k < n
    · obtain ⟨q, hq⟩ : ∃ q, l[k]? = some q := ⟨_, List.getElem?_eq_getElem (by have := HN.out; omega)⟩
      obtain ⟨q', hq'⟩ : ∃ q', l'[k]? = some q' := ⟨_, List.getElem?_eq_getElem (by have := HLE.out; omega)⟩
      obtain ⟨b1, o1, rfl, -, hc1⟩ := H.out.addr (by have := HN.out; omega)
      obtain ⟨b2, o2, rfl, -, hc2⟩ := G.out.addr (by have := HLE.out; omega)
      have hr : ∀ b j v, w.cell? ⟨b, j, none⟩ = some v → wr.cell? ⟨b, j, none⟩ = some v := by
        intro b j v h; obtain ⟨n, e⟩ := hw.out; rw [e, World.cell?_drewN]; exact h
      obtain ⟨c0, c1⟩ := hc1 k q hq
      obtain ⟨d0, d1⟩ := hc2 k q' hq'
      replace c0 := hr _ _ _ c0
      replace c1 := hr _ _ _ c1
      replace d0 := hr _ _ _ d0
      replace d1 := hr _ _ _ d1
      have HQ := Lib.hid hq
      have HQ' := Lib.hid hq'
      obtain ⟨p, N⟩ := q
      obtain ⟨p', N'⟩ := q'
      simp only at c0 c1 d0 d1
      clear hr hq hq' hc1 hc2
      have hi1 : (0 : Int) ≤ (k : Int) := by omega
      have hi2 : (k : Int) < (n : Int) := by omega
      by_cases he : (p, N) = (p', N')
      · cases he
        have HP2 : Hid (∀ j, j < k + 1 → l[j]? = l'[j]?) := Lib.hid (fun j hj => by
          by_cases e : j = k
          · subst e; rw [HQ.out, HQ'.out]
          · exact HP.out j (by omega))
        go_wp2_with fail
        go_quiet (fail)
        go_wp2_with fail
        go_roundw
        case rel => exact ⟨k + 1, by omega, by go_num, Lib.hid (by obtain ⟨n, e⟩ := hw.out; exact ⟨n + nq, by rw [e, World.drewN_drewN]⟩), HP2⟩
        case measure => simp [intOf]; omega
      · by_cases hp : p = p'
        · subst hp
          have t3 : (N == N') = false := by
            rw [beq_eq_false_iff_ne]
            exact fun e => he (by rw [e])
          have t4 : ((bs p).toList == (bs p).toList) = true := by simp
          go_wp2_with fail
          go_quiet (fail)
          go_wp2_with fail
          try go_ret
          obtain ⟨n, e⟩ := hw.out
          exact ⟨rfl, by rw [e, World.drewN_drewN]; exact Gx.drewN_below _ _ _⟩
        · have t3 : ((bs p).toList == (bs p').toList) = false := by
            rw [beq_eq_false_iff_ne]
            intro e
            rw [ByteArray.toList_eq, ByteArray.toList_eq, list_bs, list_bs] at e
            exact hp e
          go_wp2_with fail
          go_quiet (fail)
          go_wp2_with fail
          try go_ret
          obtain ⟨n, e⟩ := hw.out
          exact ⟨rfl, by rw [e, World.drewN_drewN]; exact Gx.drewN_below _ _ _⟩
    · exact absurd HP.out (HNE.out k (by omega))
set_option maxHeartbeats 1000000 in
theorem samePath_no (ad bd : Option Addr) (ca cb : Nat) (l l' : List Step) (w : World) (h : SR w ad ca l) (g : SR w bd cb l') (hl : l.length ≤ 100000) (hl' : l'.length ≤ 100000) (hne : l ≠ l') :
    Calls Tryd.prog 13 #[.slice ad l.length ca, .slice bd l'.length cb] w (FalseP w) := by
  have H := Lib.hid (stepEqual_no ad bd ca cb l l' w h g hl hl' hne)
  unfold FalseP at H
  clear h g hne
  generalize l.length = n at *
  generalize l'.length = n' at *
  go_enter Tryd.func13, Tryd.ntmps13
  go_wp2_with fail
  refine H.out.mono ?_
  rintro e0 w1 ⟨rfl, hb⟩
  go_wp2_with fail
  try go_ret
  exact ⟨rfl, hb⟩
end Go.Proofs.YtpjigecmnefnhaaDoor
