/-
  The contract of val.Nodes. Condition: the value has no more than 1000000 nodes.
-/
import Derived.Test.YtpjigecmnefnhaaDoorNodesLaw
import Derived.Test.YtpjigecmnefnhaaDoorPartsG
import Derived.Test.YtpjigecmnefnhaaDoorSix
import Derived.Stop.RegionWithIn
import Derived.BigRegionIn
namespace Go.Proofs.YtpjigecmnefnhaaDoor
open Go.RowKit Go.Shelf Gx
attribute [local go_sem] Oper.semAt_some
set_option maxRecDepth 100000

def NodesPost (n : Nat) (w : World) (e : Ending) (w' : World) : Prop := e = .returned (.int .i64 n) ∧ Below w.heap.size w w'
/-- the count's block -/
structure NS (w : World) (c : Int) (W : World) : Prop where
  at_ : W.heap[w.heap.size + 1]? = some (.cells #[.int .i64 c] 3)
  g : Below w.heap.size w W
theorem NS.lt {w : World} {c : Int} {W : World} (h : NS w c W) : w.heap.size + 1 < W.heap.size := (Array.getElem?_eq_some_iff.1 h.at_).1
theorem NS.keep {w : World} {c : Int} {W W' : World} (h : NS w c W) (hb : Below W.heap.size W W') : NS w c W' := ⟨(hb.block _ h.lt).trans h.at_, h.g.trans (hb.mono h.g.size)⟩
theorem NS.own {w : World} {c : Int} {W W' : World} {r : Option Nat} (h : NS w c W) (hg : W.grownBy W' r) (hr : ∀ b, r = some b → w.heap.size + 1 < b) : NS w c W' := by
  have h1 := h.lt
  exact ⟨(hg.block _ h1 (fun e => by have := hr _ e.symm; omega)).trans h.at_, ⟨hg.os.trans h.g.os, hg.tape.trans h.g.tape, hg.output.trans h.g.output, Nat.le_trans h.g.size hg.size, fun i hi => (hg.block i (by omega) (fun e => by have := hr _ e.symm; omega)).trans (h.g.block i hi)⟩⟩
theorem one_cell {w : World} {b : Nat} {ty : TypeId} {a0 : Value} (h : w.heap[b]? = some (.cells #[a0] ty)) : w.cell? ⟨b, 0, none⟩ = some a0 ∧ w.frozen? ⟨b, 0, none⟩ = false :=
  ⟨by simp [World.cell?, h], by simp [World.frozen?, h]⟩
theorem one_store {w : World} {b : Nat} {ty : TypeId} {a0 : Value} (h : w.heap[b]? = some (.cells #[a0] ty)) (u : Value) : (w.setCell ⟨b, 0, none⟩ u).heap[b]? = some (.cells #[u] ty) := by
  simp [World.setCell, Array.getElem?_modify, h]
theorem NS.set {w : World} {c : Int} {W : World} (h : NS w c W) (d : Int) : NS w d (W.setCell ⟨w.heap.size + 1, 0, none⟩ (.int .i64 d)) := ⟨one_store h.at_ _, h.g.setCell (Nat.le_succ _) _⟩
theorem NS.start (w : World) (o : Obj) : NS w 1 ((w.alloc o).alloc (.cells #[.int .i64 1] 3)) := by
  refine ⟨?_, ((Below.refl _ w).alloc (Nat.le_refl _) _).alloc (by simp) _⟩
  have := heap_alloc_new (w.alloc o) (.cells #[.int .i64 1] 3)
  rwa [World.size_alloc] at this
/-- a part of v that lies there -/
abbrev PartAt (w : World) (n₀ M : Nat) (v : V) := { x : LocAt w n₀ M // x.1.v ∈ v.parts }
def psOf {w : World} {n₀ M : Nat} {v : V} (pre : List (PartAt w n₀ M v)) : List V := pre.map fun x => x.1.1.v
theorem psOf_snoc {w : World} {n₀ M : Nat} {v : V} (pre : List (PartAt w n₀ M v)) (x : PartAt w n₀ M v) : psOf (pre ++ [x]) = psOf pre ++ [x.1.1.v] := by simp [psOf]
theorem parts_list {w : World} {n₀ M : Nat} {v : V} : ∀ (l : List (LocAt w n₀ M)), (∀ x ∈ l, x.1.v ∈ v.parts) → ∃ l' : List (PartAt w n₀ M v), l'.map (·.1) = l
  | [], _ => ⟨[], rfl⟩
  | x :: l, h => by
    obtain ⟨l', hl⟩ := parts_list l (fun y hy => h y (List.mem_cons_of_mem _ hy))
    exact ⟨⟨x, h x List.mem_cons_self⟩ :: l', by rw [List.map_cons, hl]⟩
theorem wrap_add (a b : Int) : IntKind.i64.wrap (IntKind.i64.wrap a + b) = IntKind.i64.wrap (a + b) := by simp [IntKind.wrap, IntKind.bits, IntKind.signed]; omega
theorem wrap_small (a : Int) (h0 : 0 ≤ a) (h1 : a ≤ 1000000) : IntKind.i64.wrap a = a := by simp [IntKind.wrap, IntKind.bits, IntKind.signed]; omega

set_option maxHeartbeats 8000000 in
theorem nodes_step (v : V) (ad bd : Option Addr) (cap dap : Nat) (w : World) (hq : VAt w (fun _ => True) ⟨v, ad, cap, bd, dap⟩) (hn : v.nodes ≤ 1000000)
    (ih : ∀ (q : Loc) (w : World), SizeOf.sizeOf q.v < SizeOf.sizeOf v → VAt w (fun _ => True) q → q.v.nodes ≤ 1000000 → Calls Tryd.prog 11 #[q.val] w (NodesPost q.v.nodes w)) :
    Calls Tryd.prog 11 #[.agg #[.int .i64 v.k, .int .i64 v.n, .int .u64 v.f, .string v.s, .slice ad v.l.length cap, .slice bd v.e.length dap]] w (NodesPost v.nodes w) := by
  have hns := NS.start w (.cells #[.int .i64 v.k, .int .i64 v.n, .int .u64 v.f, .string v.s, .slice ad v.l.length cap, .slice bd v.e.length dap] 26)
  have hbox : CellsAt ((w.alloc (.cells #[.int .i64 v.k, .int .i64 v.n, .int .u64 v.f, .string v.s, .slice ad v.l.length cap, .slice bd v.e.length dap] 26)).alloc (.cells #[.int .i64 1] 3)) w.heap.size 0 ⟨v, ad, cap, bd, dap⟩ := by
    refine CellsAt.box (ty := 26) ?_
    rw [Below.heap_alloc _ _ _ (by simp)]
    exact heap_alloc_new w _
  have HV := Lib.hid hq
  have IH := Lib.hid ih
  have HNN := Lib.hid hn
  clear hq ih hn
  refine callsIn_wide.1 (callsIn_of_wp_marks (n := 9) Tryd.func11 rfl trivial ?_)
  simp only [Tryd.ntmps11, List.size_toArray, List.length_cons, List.length_nil, Nat.reduceAdd, Nat.reduceSub, Array.replicate_succ, Array.replicate_zero, List.push_toArray, List.append_toArray, List.nil_append, List.cons_append]
  refine wpIn_wide.2 ?_
  go_upto_region 2 with fail
  generalize hw2 : World.alloc (World.alloc w _) _ = w2 at hns hbox ⊢
  clear hw2
  obtain ⟨c0, c1, c2, c3, c4, c5⟩ := hbox
  simp only at c0 c1 c2 c3 c4 c5
  have hpt := parts_any ⟨v, ad, cap, bd, dap⟩ w2
  simp only [Loc.val] at hpt
  have HPT := Lib.hid hpt
  have HNS := Lib.hid hns
  clear hpt hns
  go_wp2_with fail
  refine HPT.out.mono ?_
  rintro e w11 ⟨rfl, rfl⟩
  go_wp2_with fail
  have hce := HNS.out.keep ((Below.refl _ w2).alloc (Nat.le_refl _) (.cells #[.int .i64 v.k, .int .i64 v.n, .int .u64 v.f, .string v.s, .slice ad v.l.length cap, .slice bd v.e.length dap] 26))
  have hbx : (w2.alloc (.cells #[.int .i64 v.k, .int .i64 v.n, .int .u64 v.f, .string v.s, .slice ad v.l.length cap, .slice bd v.e.length dap] 26)).heap[w2.heap.size]? = some (.cells #[.int .i64 v.k, .int .i64 v.n, .int .u64 v.f, .string v.s, .slice ad v.l.length cap, .slice bd v.e.length dap] 26) := heap_alloc_new w2 _
  have hsz : (w2.alloc (.cells #[.int .i64 v.k, .int .i64 v.n, .int .u64 v.f, .string v.s, .slice ad v.l.length cap, .slice bd v.e.length dap] 26)).heap.size = w2.heap.size + 1 := by simp
  have hwr := HNS.out.lt
  obtain ⟨W0, hW0⟩ : ∃ W0, w2.alloc (.cells #[.int .i64 v.k, .int .i64 v.n, .int .u64 v.f, .string v.s, .slice ad v.l.length cap, .slice bd v.e.length dap] 26) = W0 := ⟨_, rfl⟩
  rw [hW0] at hce hbx hsz ⊢
  have hv0 : VAt W0 (Bw W0.heap.size (w.heap.size + 1)) ⟨v, ad, cap, bd, dap⟩ := HV.out.through hce.g.size (fun b hb hl => hce.g.block b hl) (fun b hb hl => ⟨by omega, by omega⟩)
  obtain ⟨ls, es, hls, hes⟩ := locs_of hv0
  have hm1 : ∀ x ∈ ls, x.1.v ∈ v.parts := fun x hx => List.mem_append_left _ (by rw [← show ls.map (·.1.v) = v.l from hls.1]; exact List.mem_map_of_mem (f := fun x => x.1.v) hx)
  have hm2 : ∀ x ∈ es, x.1.v ∈ v.parts := fun x hx => List.mem_append_right _ (by rw [← show es.map (·.1.v) = v.e.map Prod.snd from hes.1]; exact List.mem_map_of_mem (f := fun x => x.1.v) hx)
  obtain ⟨ls', hl'⟩ := parts_list ls hm1
  obtain ⟨es', he'⟩ := parts_list es hm2
  have hmap : psOf (ls' ++ es') = v.parts := by
    unfold psOf
    rw [List.map_append]
    have h1 : ls'.map (fun x => x.1.1.v) = v.l := by have := hls.1; rw [← hl', List.map_map] at this; exact this
    have h2 : es'.map (fun x => x.1.1.v) = v.e.map Prod.snd := by have := hes.1; rw [← he', List.map_map] at this; exact this
    rw [h1, h2]; rfl
  have hlb : ls'.length ≤ 1000000000000000 := by have h1 := congrArg List.length hl'; rw [List.length_map, hls.len] at h1; rw [h1]; have := HV.out.l.lbound; simp only at this ⊢; omega
  have heb : es'.length ≤ 1000000000000000 := by have h1 := congrArg List.length he'; rw [List.length_map, hes.len] at h1; rw [h1]; have := HV.out.e.ebound; simp only at this ⊢; omega
  have HNE : Hid (1 + nodesL (psOf (ls' ++ es')) = v.nodes) := Lib.hid (by rw [hmap, nodes_eq])
  rw [← hl'] at hls
  rw [← he'] at hes
  clear hW0 c0 c1 c2 c3 c4 c5 hm1 hm2 hl' he' hmap
  refine (wpIn_wide (n := 5)).1 ?_
  refine wpIn_rangeFunc_ownH (encs := fun x : PartAt W0 W0.heap.size (w.heap.size + 1) v => #[x.1.1.val]) (Kp := KeM W0.heap.size (w.heap.size + 1)) (S := fun ys => ys = ls' ++ es') (Sp := fun pre => pre <+: ls' ++ es') (N := ls'.length + es'.length) (w0 := W0)
    rfl (by decide) (gf := 26) (lb := #[.pointer (some ⟨w2.heap.size, 0, none⟩)]) rfl trivial (enters_of Tryd.func26 (by kernel_rfl) rfl)
    (fun l J Jx W hW hJ hJx hY h0 => partsG_in 4 (by decide) l w2.heap.size W0.heap.size (w.heap.size + 1) W0 ⟨v, ad, cap, bd, dap⟩ (fun x : PartAt W0 W0.heap.size (w.heap.size + 1) v => x.1) ls' es' ⟨by omega, by omega⟩ hls hes hlb heb J Jx W ⟨hW.size, fun k hk hl => hW.block k hl⟩ hJ hY ((hW.block _ (by omega)).trans hbx) h0)
    (fun h k => h.trans k) (KeM.put (Nat.le_refl _)) (Below.refl _ _) (fun _ => rfl)
    (fun pre W => NS w (IntKind.i64.wrap (1 + (nodesL (psOf pre) : Int))) W ∧ KeM W0.heap.size (w.heap.size + 1) W0 W)
    (fun c pre W => False)
    (fun s A B row hs hg hr => ⟨hs.1.own hg (fun k e => by have := (hr k e).1; omega), hs.2.trans (KeM.grow hg (fun k e hb => by have := (hr k e).1; have := hb.1; omega))⟩)
    (fun c s A B row hs hg hr => hs)
    ⟨hce, KeM.refl _ _ _⟩
    (fun x a' W => ∃ Bx : Nat, W.heap[Bx]? = some (.cells #[.int .i64 x.1.1.v.k, .int .i64 x.1.1.v.n, .int .u64 x.1.1.v.f, .string x.1.1.v.s, .slice x.1.1.ad x.1.1.v.l.length x.1.1.cap, .slice x.1.1.bd x.1.1.v.e.length x.1.1.dap] 26) ∧ a' = { tmps := #[.agg #[.int .i64 v.k, .int .i64 v.n, .int .u64 v.f, .string v.s, .slice ad v.l.length cap, .slice bd v.e.length dap], .pointer (some ⟨w.heap.size, 0, none⟩), .int .i64 0, .pointer (some ⟨w.heap.size + 1, 0, none⟩), .pointer (some ⟨Bx, 0, none⟩), .agg #[.int .i64 v.k, .int .i64 v.n, .int .u64 v.f, .string v.s, .slice ad v.l.length cap, .slice bd v.e.length dap], .func (.func 26) #[] #[.pointer (some ⟨w2.heap.size, 0, none⟩)], x.1.1.val, undef, undef, undef, undef, undef], defers := [] })
    (fun x a' _ X Y row hs hg hr => by
      obtain ⟨Bx, e2, e3⟩ := hs
      exact ⟨Bx, (hg.block Bx (Array.getElem?_eq_some_iff.1 e2).1 (fun e => by obtain ⟨-, o, ho, hc⟩ := hr Bx e.symm; rw [e2] at ho; cases ho; cases hc)).trans e2, e3⟩)
    ?assign ?body ?done ?stop
  case assign =>
    rintro l pre x W K ⟨hp, hke1⟩ hK
    simp only [Loc.val]
    gi_wp2
    exact hK _ _ ((KeepsOthers.alloc _ _).from _) (KeM.alloc _ _ _ _) ⟨hp.keep ((Below.refl _ W).alloc (Nat.le_refl _) _), hke1.trans (KeM.alloc _ _ _ _)⟩ ⟨W.heap.size, heap_alloc_new W _, rfl⟩
  case body =>
    rintro l pre x a' W hl ⟨rr, hrr⟩ ⟨hp, hke1⟩ ⟨Bx, hbx1, rfl⟩ hlt1
    have hvx : VAt W (fun _ => True) x.1.1 := (x.1.2.through hke1.size (fun b hb hl => hke1.block b hb hl) (fun b hb hl => hb)).weak (fun _ _ _ => trivial)
    have hdr := Gx.drewN_below W 1 W.heap.size
    have hsn := nodes_part x.2
    have hszz : SizeOf.sizeOf x.1.1.v < SizeOf.sizeOf v := by
      have := x.2
      unfold V.parts at this
      rcases List.mem_append.1 this with h | h
      · exact V.lt_l h
      · obtain ⟨y, hy, e⟩ := List.mem_map.1 h
        rw [← e]; exact V.lt_e hy
    have hih := IH.out x.1.1 W.drew hszz (hvx.keep hdr) (by have := HNN.out; omega)
    simp only [Loc.val] at hih
    have HIH := Lib.hid hih
    have HPD := Lib.hid (hp.keep hdr)
    have HKE := Lib.hid hke1
    obtain ⟨n0, nf⟩ := one_cell hp.at_
    obtain ⟨x0, x1, x2, x3, x4, x5⟩ := CellsAt.box (q := x.1.1) hbx1
    obtain ⟨c, hc⟩ : ∃ c : Int, IntKind.i64.wrap (1 + (nodesL (psOf pre) : Int)) = c := ⟨_, rfl⟩
    rw [hc] at n0 HPD
    have HC := Lib.hid hc
    clear hih hvx hdr hsn hszz hp hke1 hbx1 hc
    gi_wp2_with fail
    gi_region_with (first | (refine ⟨trivial, ?_⟩; (with_reducible refine (CallsIn.inRound l (callsIn_wide.2 HIH.out)).mono ?_); rintro e w12 ⟨rfl, hb12⟩; have hp12 := HPD.out.keep hb12; have HB12 := Lib.hid hb12; have HP12 := Lib.hid hp12; obtain ⟨n12, nf12⟩ := one_cell hp12.at_; clear hb12 hp12) | ((with_reducible refine (CallsIn.inRound l (callsIn_wide.2 HIH.out)).mono ?_); rintro e w12 ⟨rfl, hb12⟩; have hp12 := HPD.out.keep hb12; have HB12 := Lib.hid hb12; have HP12 := Lib.hid hp12; obtain ⟨n12, nf12⟩ := one_cell hp12.at_; clear hb12 hp12))
    all_goals
      have hb : Below W.heap.size W w12 := (Gx.drewN_below W 1 W.heap.size).trans HB12.out
      have hg : W.grownBy (w12.setCell ⟨w.heap.size + 1, 0, none⟩ (.int .i64 (IntKind.i64.wrap (c + (x.1.1.v.nodes : Int))))) (some (w.heap.size + 1)) := by
        have h1 := grown_none hb
        have h2 := grown_cell w12 (w.heap.size + 1) 0 (.int .i64 (IntKind.i64.wrap (c + (x.1.1.v.nodes : Int))))
        exact ⟨h2.os.trans h1.os, h2.tape.trans h1.tape, h2.output.trans h1.output, Nat.le_trans h1.size h2.size, fun i hi hne => (h2.block i (Nat.lt_of_lt_of_le hi h1.size) hne).trans (h1.block i hi (fun e => by cases e))⟩
      have HK1 := Lib.hid (KeepsFrom.of_grownBy (B := W0.heap.size) hg (fun k e => by cases e; omega))
      have HK2 := Lib.hid (KeM.grow (n₀ := W0.heap.size) (M := w.heap.size + 1) hg (fun k e hb => by cases e; exact hb.2 rfl))
      have HK3 : Hid (KeM W0.heap.size (w.heap.size + 1) W0 (w12.setCell ⟨w.heap.size + 1, 0, none⟩ (.int .i64 (IntKind.i64.wrap (c + (x.1.1.v.nodes : Int)))))) := Lib.hid (HKE.out.trans HK2.out)
      have HN3 : Hid (NS w (IntKind.i64.wrap (1 + (nodesL (psOf (pre ++ [x])) : Int))) (w12.setCell ⟨w.heap.size + 1, 0, none⟩ (.int .i64 (IntKind.i64.wrap (c + (x.1.1.v.nodes : Int)))))) := Lib.hid (by
        have e : IntKind.i64.wrap (1 + (nodesL (psOf (pre ++ [x])) : Int)) = IntKind.i64.wrap (c + (x.1.1.v.nodes : Int)) := by
          rw [← HC.out, wrap_add, psOf_snoc, nodesL_snoc]
          congr 1
          push_cast
          omega
        rw [e]
        exact HP12.out.set _)
      clear hb hg
      gi_wp2_with fail
      exact ⟨HK1.out, HK2.out, HN3.out, HK3.out⟩
  case done =>
    rintro D ys W hD rfl ⟨hp, hke1⟩ hK
    have hw : IntKind.i64.wrap (1 + (nodesL (psOf (ls' ++ es')) : Int)) = (v.nodes : Int) := by
      have h1 := HNE.out
      have h2 := HNN.out
      rw [show (1 + (nodesL (psOf (ls' ++ es')) : Int)) = (v.nodes : Int) by omega]
      exact wrap_small _ (by omega) (by omega)
    rw [hw] at hp
    have hce2 := hp.own (grownBy_putObj' _ D (.deferred none)) (fun k e => by cases e; omega)
    have HCE2 := Lib.hid hce2
    have HK2 := Lib.hid hK
    obtain ⟨n0, nf⟩ := one_cell hp.at_
    clear hw hp hce2 hK hke1
    go_wp2_with fail
    refine ⟨by simp, .inl ⟨_, _, rfl, run_takeDeferred HK2.out, ?_⟩⟩
    refine ⟨.int .i64 (v.nodes : Nat), by simp [results, Tryd.results11, go_sem], rfl, ?_⟩
    exact HCE2.out.g
  case stop =>
    rintro D c pre W hD hSp hf hK
    exact hf.elim
/-- how many nodes a value has -/
theorem nodes_any (q : Loc) (w : World) (hq : VAt w (fun _ => True) q) (hn : q.v.nodes ≤ 1000000) : Calls Tryd.prog 11 #[q.val] w (NodesPost q.v.nodes w) := by
  have key : ∀ (n : Nat) (q : Loc) (w : World), SizeOf.sizeOf q.v ≤ n → VAt w (fun _ => True) q → q.v.nodes ≤ 1000000 → Calls Tryd.prog 11 #[q.val] w (NodesPost q.v.nodes w) := by
    intro n
    induction n with
    | zero => intro q w h; cases q with | mk v _ _ _ _ => cases v; simp at h
    | succ n ih => exact fun q w h hq hn => nodes_step q.v q.ad q.bd q.cap q.dap w hq hn (fun q' w' h' hq' hn' => ih q' w' (by omega) hq' hn')
  exact key _ q w (Nat.le_refl _) hq hn
end Go.Proofs.YtpjigecmnefnhaaDoor
