/-
  The contract of the iterator over a value's parts, these being told by whatever type. Conditions: what a round writes is one block besides new ones.
-/
import Derived.Test.YtpjigecmnefnhaaDoorPartsIt
namespace Go.Proofs.YtpjigecmnefnhaaDoor
open Go.RowKit Go.Shelf Gx
attribute [local go_sem] Oper.semAt_some
set_option maxRecDepth 100000

set_option maxHeartbeats 4000000 in
theorem partsG_in {α : Type} (n : Nat) (hn : 1 ≤ n) (l Bn n₀ M : Nat) (w0 : World) (q : Loc) (g : α → LocAt w0 n₀ M) (ls es : List α) (hBn : Bw n₀ M Bn)
    (hls : LsAt w0 n₀ M q (ls.map g)) (hes : EsAt w0 n₀ M q (es.map g)) (hlb : ls.length ≤ 1000000000000000) (heb : es.length ≤ 1000000000000000)
    (J Jx : List α → World → Prop) (W : World) (hW : KeM n₀ M w0 W) (hJ : AbidesFrom W.heap.size J)
    (hY : ∀ pre x W, J pre W → pre.length < ls.length + es.length → YieldAt Fence.wide (n - 1) Tryd.prog l #[(g x).1.val] W fun e W' =>
      (e = .returned (.bool true) ∧ J (pre ++ [x]) W' ∧ KeM n₀ M W W') ∨ (e = .returned (.bool false) ∧ Jx (pre ++ [x]) W'))
    (hb : W.heap[Bn]? = some (.cells #[.int .i64 q.v.k, .int .i64 q.v.n, .int .u64 q.v.f, .string q.v.s, .slice q.ad q.v.l.length q.cap, .slice q.bd q.v.e.length q.dap] 26)) (h0 : J [] W) :
    CallsIn Fence.wide n Tryd.prog 26 #[.func (.yield l) #[] #[], .pointer (some ⟨Bn, 0, none⟩)] W (ItPost (ls ++ es) J Jx) := by
  unfold Loc.val at hY
  have hBl : Bn < W.heap.size := (Array.getElem?_eq_some_iff.1 hb).1
  have c4 : W.cell? ⟨Bn, 4, none⟩ = some (.slice q.ad ls.length q.cap) := by have hl := hls.len; rw [List.length_map] at hl; rw [hl]; simp [World.cell?, hb]
  have c5 : ∀ w, KeM n₀ M W w → w.cell? ⟨Bn, 5, none⟩ = some (.slice q.bd es.length q.dap) := fun w hk => (hk.cell hBn hBl).trans (by have hl := hes.len; rw [List.length_map] at hl; rw [hl]; simp [World.cell?, hb])
  have hls := hls.2
  have hes := hes.2
  obtain ⟨v, ad, cap, bd, dap⟩ := q
  simp only at c4 c5 hls hes
  have C5 := Lib.hid c5
  have HJ := Lib.hid hJ
  have HY := Lib.hid hY
  have HLS := Lib.hid hls
  have HES := Lib.hid hes
  have HW := Lib.hid hW
  have H0 := Lib.hid h0
  obtain ⟨nl, hnl⟩ : ∃ nl, ls.length = nl := ⟨_, rfl⟩
  obtain ⟨ne, hne⟩ : ∃ ne, es.length = ne := ⟨_, rfl⟩
  rw [hnl] at c4 hlb
  rw [hne] at C5 heb
  have HNL := Lib.hid hnl
  have HNE := Lib.hid hne
  clear hb c5 hJ hY hls hes hW h0 hnl hne
  refine callsIn_of_wp Tryd.func26 rfl trivial ?_ rfl
  simp only [Tryd.ntmps26, List.size_toArray, List.length_cons, List.length_nil, Nat.reduceAdd, Nat.reduceSub, Array.replicate_succ, Array.replicate_zero, List.push_toArray, List.append_toArray, List.nil_append, List.cons_append]
  gi_wp2
  gi_loopw [10] (fun i wr => ∃ k : Nat, k ≤ nl ∧ i = .int .i64 k ∧ Hid (J (ls.take k) wr) ∧ Hid (KeM n₀ M W wr))
    (fun i _ => nl - (intOf i).toNat)
  case atStart => exact ⟨0, Nat.zero_le _, rfl, H0, Lib.hid (KeM.refl _ _ _)⟩
  case round =>
    obtain ⟨k, hk, rfl, hJs, hke⟩ := hrel
    by_cases hlt : k < nl
    · obtain ⟨x, hx⟩ : ∃ x, ls[k]? = some x := ⟨_, List.getElem?_eq_getElem (by rw [HNL.out]; exact hlt)⟩
      obtain ⟨b, off, rfl, hbb, hbl, g0, g1, g2, g3, g4, g5⟩ := HLS.out k (g x) (by rw [List.getElem?_map, hx]; rfl)
      have hkk := HW.out.trans hke.out
      have q0 := (hkk.cell hbb hbl).trans g0
      have q1 := (hkk.cell hbb hbl).trans g1
      have q2 := (hkk.cell hbb hbl).trans g2
      have q3 := (hkk.cell hbb hbl).trans g3
      have q4 := (hkk.cell hbb hbl).trans g4
      have q5 := (hkk.cell hbb hbl).trans g5
      clear g0 g1 g2 g3 g4 g5 hkk
      have hJ2 : J (ls.take k) (wr.alloc (.cells #[.int .i64 (g x).1.v.k, .int .i64 (g x).1.v.n, .int .u64 (g x).1.v.f, .string (g x).1.v.s, .slice (g x).1.ad (g x).1.v.l.length (g x).1.cap, .slice (g x).1.bd (g x).1.v.e.length (g x).1.dap] 26)) := HJ.out _ _ _ none hJs.out (World.grownBy_alloc _ _ none) (fun r e => by cases e)
      have HX := Lib.hid hx
      obtain ⟨fn, tmps, assign, body, hy, hR⟩ := HY.out _ x _ hJ2 (by rw [List.length_take, HNL.out]; omega)
      have HR := Lib.hid hR
      clear hx hJ2 hR
      gi_wp2
      refine HR.out.mono ?_
      rintro e W3 (⟨rfl, hJ3, hk3⟩ | ⟨rfl, hJx3⟩)
      · have hke3 := (hke.out.trans (KeM.alloc n₀ M wr _)).trans hk3
        have HJ3 := Lib.hid hJ3
        have HKE3 := Lib.hid hke3
        clear hJ3 hke3 hk3
        gi_wp2
        go_roundw
        case rel => exact ⟨k + 1, by omega, by go_num, by rw [take_succ' HX.out]; exact HJ3, HKE3⟩
        case measure => simp [intOf]; omega
      · have HJX := Lib.hid hJx3
        clear hJx3
        gi_wp2
        refine bodyPost_ret (results_none rfl _ _ _) rfl ?_
        exact ⟨⟨_, rfl⟩, .inr ⟨_, (by rw [← take_succ' HX.out]; exact (List.take_prefix _ _).trans (List.prefix_append _ _)), HJX.out⟩⟩
    · obtain rfl : k = nl := by omega
      have hJ1 : J ls wr := by have := hJs.out; rwa [List.take_of_length_le (by rw [HNL.out]; exact Nat.le_refl _)] at this
      have HJ1 := Lib.hid hJ1
      have c5 := C5.out wr hke.out
      clear hJ1 hJs hk hlt
      obtain ⟨wo, hwo⟩ : ∃ wo : World, wo = wr := ⟨_, rfl⟩
      rw [← hwo] at hke HJ1 c5 ⊢
      clear hwo wr
      gi_wp2
      gi_loopw [22] (fun i wr => ∃ j : Nat, j ≤ ne ∧ i = .int .i64 j ∧ Hid (J (ls ++ es.take j) wr) ∧ Hid (KeM n₀ M wo wr))
        (fun i _ => ne - (intOf i).toNat)
      case atStart => exact ⟨0, Nat.zero_le _, rfl, (by rw [List.take_zero, List.append_nil]; exact HJ1), Lib.hid (KeM.refl _ _ _)⟩
      case round =>
        obtain ⟨j, hj, rfl, hJs, hke2⟩ := hrel
        by_cases hlt : j < ne
        · obtain ⟨x, hx⟩ : ∃ x, es[j]? = some x := ⟨_, List.getElem?_eq_getElem (by rw [HNE.out]; exact hlt)⟩
          obtain ⟨b, off, key, rfl, hbb, hbl, gk, gs⟩ := HES.out j (g x) (by rw [List.getElem?_map, hx]; rfl)
          obtain ⟨g0, g1, g2, g3, g4, g5⟩ := gs.seven
          have hkk := (HW.out.trans hke.out).trans hke2.out
          have qk := (hkk.cell hbb hbl).trans gk
          have q0 := (hkk.cell hbb hbl).trans g0
          have q1 := (hkk.cell hbb hbl).trans g1
          have q2 := (hkk.cell hbb hbl).trans g2
          have q3 := (hkk.cell hbb hbl).trans g3
          have q4 := (hkk.cell hbb hbl).trans g4
          have q5 := (hkk.cell hbb hbl).trans g5
          clear gk gs g0 g1 g2 g3 g4 g5 hkk c5
          have hJ2 : J (ls ++ es.take j) (wr.alloc (.cells #[.string key, .int .i64 (g x).1.v.k, .int .i64 (g x).1.v.n, .int .u64 (g x).1.v.f, .string (g x).1.v.s, .slice (g x).1.ad (g x).1.v.l.length (g x).1.cap, .slice (g x).1.bd (g x).1.v.e.length (g x).1.dap] 50)) := HJ.out _ _ _ none hJs.out (World.grownBy_alloc _ _ none) (fun r e => by cases e)
          have HX := Lib.hid hx
          obtain ⟨fn, tmps, assign, body, hy, hR⟩ := HY.out _ x _ hJ2 (by rw [List.length_append, List.length_take, HNL.out, HNE.out]; omega)
          have HR := Lib.hid hR
          clear hx hJ2 hR
          gi_wp2
          refine HR.out.mono ?_
          rintro e W3 (⟨rfl, hJ3, hk3⟩ | ⟨rfl, hJx3⟩)
          · have hke3 := (hke2.out.trans (KeM.alloc n₀ M wr _)).trans hk3
            have HJ3 := Lib.hid hJ3
            have HKE3 := Lib.hid hke3
            clear hJ3 hke3 hk3
            gi_wp2
            go_roundw
            case rel => exact ⟨j + 1, by omega, by go_num, by rw [take_succ' HX.out, ← List.append_assoc]; exact HJ3, HKE3⟩
            case measure => simp [intOf]; omega
          · have HJX := Lib.hid hJx3
            clear hJx3
            gi_wp2
            refine bodyPost_ret (results_none rfl _ _ _) rfl ?_
            exact ⟨⟨_, rfl⟩, .inr ⟨_, (by rw [List.append_assoc, ← take_succ' HX.out]; exact List.prefix_append_right_inj _ |>.2 (List.take_prefix _ _)), HJX.out⟩⟩
        · obtain rfl : j = ne := by omega
          have hJ4 : J (ls ++ es) wr := by have := hJs.out; rwa [List.take_of_length_le (by rw [HNE.out]; exact Nat.le_refl _)] at this
          have HJ4 := Lib.hid hJ4
          clear hJ4 hJs c5
          gi_wp2
          go_end0
          exact ⟨⟨_, rfl⟩, .inl ⟨_, rfl, HJ4.out⟩⟩
end Go.Proofs.YtpjigecmnefnhaaDoor
