import Derived.RangeFuncNested
import Derived.RangeFuncBound
import Derived.RangeFuncCalls
import Derived.RangeFuncLeaves
import Derived.RangeFuncBox
import Derived.Shelf.Abstract
import Derived.Shelf.RegionOpen
import Derived.WalkKit
import Derived.OwnWalkIn
import Derived.TacticsInMore
import Derived.LoopNIn
import Derived.LoopIn
import Derived.Sort.CutIn
import Derived.Test.YthmfmnoblobcoaaKeysSorted
import Derived.Test.YthmfmnoblobcoaaIRow
/-! slices.Sorted(slices.Values(l)) at ints. -/
namespace Go.Proofs.Ythmfmnoblobcoaa
open Go.RowKit Go.Shelf
set_option linter.unusedVariables false
set_option linter.unusedSimpArgs false
attribute [local go_sem] Oper.semAt_some
set_option maxRecDepth 100000 in
set_option maxHeartbeats 2000000 in
theorem values1_in (F : Fence) (n : Nat) (h7 : F.fn 24) (hro : F.round = none) (hn : 1 ≤ n) (l Bs n₀ : Nat) (v : Value) (A : List Int) (hlen : A.length ≤ 1000000) (w : World) (hn₀ : n₀ ≤ w.heap.size) (hv : ∀ W, Below n₀ w W → Sl encI W v A) (J Jx : List Int → World → Prop)
    (hY : ∀ pre x W, J pre W → pre.length < A.length → YieldAt F (n - 1) Try.prog l #[.int .i64 x] W fun e W' =>
      (e = .returned (.bool true) ∧ J (pre ++ [x]) W' ∧ Below n₀ W W') ∨ (e = .returned (.bool false) ∧ Jx (pre ++ [x]) W'))
    (W : World) (hW : Below n₀ w W) (hBs : W.heap[Bs]? = some (.cells #[v] 22 (0, 0))) (h0 : J [] W) :
    CallsIn F n Try.prog 24 #[.func (.yield l) #[] #[], .pointer (some ⟨Bs, 0, none⟩)] W fun e W' => (∃ v, e = .returned v) ∧
      ((∃ ys : List Int, ys = A ∧ J ys W') ∨ (∃ pre, True ∧ Jx pre W')) := by
  have cs : W.cell? ⟨Bs, 0, none⟩ = some v := obj_cell hBs rfl
  obtain ⟨oa, cap, rfl⟩ : ∃ oa cap, v = .slice oa A.length cap := by
    rcases hv W hW with ⟨rfl, oa, cap, rfl, _⟩ | ⟨b, off, cap, rfl, _⟩
    · exact ⟨_, _, rfl⟩
    · exact ⟨_, _, rfl⟩
  have HV := Lib.hid (show ∀ W, Below n₀ w W → ∀ i (hi : i < A.length), ∃ b f, oa = some ⟨b, f, none⟩ ∧ W.cell? ⟨b, f + i, none⟩ = some (.int .i64 A[i]) from fun W k i hi => by
    rcases hv W k with ⟨h1, _⟩ | ⟨b, off, cap', h1, _, _, h2⟩
    · rw [h1] at hi; simp at hi
    · cases h1
      exact ⟨b, off, rfl, h2 i hi⟩)
  clear hv
  refine callsIn_of_wp Try.func24 rfl h7 ?_ hro
  simp only [Try.ntmps24, List.size_toArray, List.length_cons, List.length_nil, Nat.reduceAdd, Nat.reduceSub, Array.replicate_succ, Array.replicate_zero, List.push_toArray, List.append_toArray, List.nil_append, List.cons_append]
  gi_wp2
  clear cs
  gi_loopw [7] (fun i wr => ∃ (r : Nat), i = .int .i64 r ∧ r ≤ A.length ∧ J (A.take r) wr ∧ Below n₀ W wr)
    (fun i _ => A.length - (intOf i).toNat)
  case atStart => exact ⟨0, rfl, by omega, by simpa using h0, Below.refl _ _⟩
  case round =>
    obtain ⟨r, rfl, hr, hJs, hk⟩ := hrel
    by_cases hlt : r < A.length
    · obtain ⟨b, f, rfl, c1⟩ := HV.out wr (hW.trans hk) r hlt
      obtain ⟨fn, tmps, assign, body, hy, hR⟩ := hY (A.take r) A[r] wr hJs (by rw [List.length_take]; omega)
      rw [← List.take_succ_eq_append_getElem hlt] at hR
      obtain ⟨x, hx⟩ : ∃ x, A[r] = x := ⟨_, rfl⟩
      rw [hx] at c1 hy
      clear hx
      gi_wp2
      refine hR.mono ?_
      rintro e W3 (⟨rfl, hJ3, hk3⟩ | ⟨rfl, hJx3⟩)
      · gi_wp2
        go_roundw
        case rel => exact ⟨r + 1, by simp, by omega, hJ3, hk.trans hk3⟩
        case measure => simp [intOf]; omega
      · gi_wp2
        refine bodyPost_ret (results_none rfl _ _ _) rfl ?_
        exact ⟨⟨_, rfl⟩, .inr ⟨_, trivial, hJx3⟩⟩
    · have hr' : r = A.length := by omega
      subst hr'
      rw [List.take_length] at hJs
      gi_wp2
      go_end0
      exact ⟨⟨_, rfl⟩, .inl ⟨A, rfl, hJs⟩⟩
theorem values_stops (F : Fence) (n : Nat) (h7 : F.fn 24) (hro : F.round = none) (hn : 1 ≤ n) (Bs : Nat) (v : Value) (A : List Int) (hlen : A.length ≤ 1000000) (w : World) (hv : Sl encI w v A) (hBs : w.heap[Bs]? = some (.cells #[v] 22 (0, 0))) :
    SeqStopsK F n Try.prog 24 #[.pointer (some ⟨Bs, 0, none⟩)] (fun x : Int => #[.int .i64 x]) (Below w.heap.size) (fun ys => ys = A) (fun _ => True) A.length w := fun l J Jx W hW hJ _ hY h0 =>
  values1_in F n h7 hro hn l Bs w.heap.size v A hlen w (Nat.le_refl _) (fun W k => hv.below k) J Jx hY W hW (Below.heapAt hW hBs (lt_of_block hBs)) h0
set_option maxHeartbeats 1000000 in
theorem values_in (F : Fence) (n : Nat) (h5 : F.fn 13) (hro : F.round = none) (oa : Option Addr) (len cap : Nat) (w : World) :
    CallsIn F n Try.prog 13 #[.slice oa len cap] w fun e w' => e = .returned (.func (.func 24) #[] #[.pointer (some ⟨w.heap.size, 0, none⟩)]) ∧ w' = w.alloc (.cells #[.slice oa len cap] 22) := by
  refine callsIn_of_wp Try.func13 rfl h5 ?_ hro
  simp only [Try.ntmps13, List.size_toArray, List.length_cons, List.length_nil, Nat.reduceAdd, Nat.reduceSub, Array.replicate_succ, Array.replicate_zero, List.push_toArray, List.append_toArray, List.nil_append, List.cons_append]
  gi_wp2
  go_ret
  exact ⟨by first | rfl | simp, rfl⟩
theorem vs_append_run {F : Fence} {n : Nat} {P : Program} (w : World) {ops : Array Oper} {rest : List Oper} {o : Oper} {a : Act} {Q : Exit → Act → World → Prop} (hgd : o.guard = none) (s x : Operand) (t tn : TypeId)
    (hop : o.op = .call { callee := .builtin .append, args := #[s, x], argTypes := #[t, tn] }) (vs vx : Value) (hs : a.eval s = vs) (hx : a.eval x = vx)
    (v' : Value) (w' : World) (hr : (Builtin.append_ #[t, tn] o.type #[vs, vx]).run P w = .ok v' w') (h : wpListIn F n P ops Q rest (a.put o.dst v') w') : wpListIn F n P ops Q (o :: rest) a w := by
  refine wpListIn_plain hgd fun K hK' => ?_
  unfold Oper.wpIn
  refine ⟨?_, ?_⟩
  · simp [Oper.about, hop, resolve, Target.leads, Sem.run_pure]
  · rw [Oper.semAt_plain F _ _ (by rw [hop]; intro c hc'; cases hc')]
    simp [execOp, hop, resolve, invoke, builtin, hs, hx, hr, Result.andThen]
    exact hK' _ _ h
/-- what has come so far -/
structure ApI (n₀ L0 : Nat) (w0 : World) (pre : List Int) (W : World) : Prop where
  ex : ∃ v, W.heap[L0]? = some (.cells #[v] 22 (0, 0)) ∧ IRow W n₀ v pre
  kb : Below n₀ w0 W
theorem ApI.own {n₀ L0 : Nat} {w0 : World} (hB : n₀ ≤ w0.heap.size) {B : Nat} (hBB : n₀ ≤ B) : OwnFrom B (fun (pre : List Int) W => ApI n₀ L0 w0 pre W) := fun pre X Y row h hg hr => by
  obtain ⟨⟨v, h1, h2⟩, h3⟩ := h
  have kk : ∀ (j : Nat) (cs : Array Value) (T : TypeId) (fz : Nat × Nat), X.heap[j]? = some (.cells cs T fz) → Y.heap[j]? = some (.cells cs T fz) := fun j cs T fz e => by
    rw [hg.block j (lt_of_block e) (fun e' => by
      obtain ⟨_, o, ho, hc⟩ := hr j e'.symm
      rw [e] at ho; cases ho; cases hc)]
    exact e
  refine ⟨⟨v, kk _ _ _ _ h1, intRow_keep h2 (fun g o e _ => (kk _ _ _ _ e).trans e.symm)⟩, h3.grown hg (Nat.le_trans hB h3.size) (fun k e => Nat.le_trans hBB (hr k e).1)⟩
theorem ApI.app {n₀ L0 : Nat} {w0 : World} {pre : List Int} {W : World} (h : ApI n₀ L0 w0 pre W) (x : Int) (hn : n₀ ≤ W.heap.size) (hL : n₀ ≤ L0) (hl : pre.length ≤ 1000000) :
    ∃ (v vN : Value) (wN : World), W.cell? ⟨L0, 0, none⟩ = some v ∧ (Builtin.append_ #[22, 22] 22 #[v, .slice (some ⟨W.heap.size, 0, none⟩) 1 1]).run Try.prog (W.alloc (.cells #[.int .i64 x] 3)) = .ok vN wN ∧
      wN.cell? ⟨L0, 0, none⟩ = some v ∧ wN.frozen? ⟨L0, 0, none⟩ = false ∧ (∃ g cap, vN = .slice (some ⟨g, 0, none⟩) (pre.length + 1) cap) ∧ KeepsOthers W (wN.setCell ⟨L0, 0, none⟩ vN) ∧ Below n₀ W (wN.setCell ⟨L0, 0, none⟩ vN) ∧ ApI n₀ L0 w0 (pre ++ [x]) (wN.setCell ⟨L0, 0, none⟩ vN) := by
  obtain ⟨⟨v, h1, h2⟩, h3⟩ := h
  have BA : Below W.heap.size W (W.alloc (.cells #[.int .i64 x] 3)) := (Below.refl _ _).alloc (Nat.le_refl _) _
  have h2A : IRow (W.alloc (.cells #[.int .i64 x] 3)) n₀ v pre := h2.below BA
  obtain ⟨vN, wN, hr, ho, hgr, hbk⟩ := run_moreInt2 (W.alloc (.cells #[.int .i64 x] 3)) n₀ v x pre.length (pre.map encI) h2A W.heap.size (obj_new _ _) hl (by simp; omega)
  have ho2 : IRow wN n₀ vN (pre ++ [x]) := by unfold IRow; rw [List.map_append, List.length_append]; exact ho
  have hrow : ∀ g, v.ownBlock = some g → ∃ cs, W.heap[g]? = some (.cells cs 3 (0, 0)) ∧ n₀ ≤ g := fun g e => by
    rcases h2.2 with ⟨rfl, _⟩ | ⟨g', cap, cur, rfl, hb, hg', _⟩
    · cases e
    · simp [Value.ownBlock] at e; subst e; exact ⟨_, hg', hb⟩
  have hL1 : wN.heap[L0]? = some (.cells #[v] 22 (0, 0)) := by
    rw [hgr.block L0 (by have := lt_of_block h1; simp; omega) (fun e' => by
      obtain ⟨cs', q, _⟩ := hrow L0 e'.symm
      rw [h1] at q; simp at q)]
    exact (BA.block L0 (lt_of_block h1)).trans h1
  have kbW : Below n₀ W wN := (BA.mono hn).grown hgr (by simp; omega) (fun g e => by obtain ⟨cs, _, q⟩ := hrow g e; exact q)
  have ko : KeepsOthers W wN := by
    refine (KeepsOthers.alloc _ _).trans (KeepsOthers.of_grownBy hgr (fun j o e q => ?_))
    obtain ⟨cs, q', _⟩ := hrow j e
    have := BA.block j (lt_of_block q')
    rw [this, q'] at q; cases q; rfl
  have hform := Joins.ownsRow_form ho (by omega)
  refine ⟨v, vN, wN, obj_cell h1 rfl, hr, obj_cell hL1 rfl, obj_free hL1 0, hform, ko.trans (KeepsOthers.setCell _ _ _), Below.setCell kbW hL _, ⟨⟨vN, obj_set hL1 0 _, ?_⟩, Below.setCell (h3.trans kbW) hL _⟩⟩
  refine intRow_keep ho2 (fun g o e _ => Below.heap_setCell _ _ _ _ (fun e' => ?_))
  subst e'
  rw [hL1] at e; simp at e
set_option maxRecDepth 100000 in
set_option maxHeartbeats 2000000 in
theorem appendSeq_in (Bs : Nat) (v : Value) (A : List Int) (hlen : A.length ≤ 1000000) (w : World) (hv : Sl encI w v A) (hBs : w.heap[Bs]? = some (.cells #[v] 22 (0, 0))) :
    CallsIn Fence.wide 6 Try.prog 28 #[.slice none 0 0, .func (.func 24) #[] #[.pointer (some ⟨Bs, 0, none⟩)]] w fun e w' => ∃ v', e = .returned v' ∧ IRow w' w.heap.size v' A ∧ Below w.heap.size w w' := by
  have hfS : Fence.wide.fn 28 := trivial
  have h1 : 1 ≤ 6 := by omega
  have ST := values_stops Fence.wide 5 trivial rfl (by omega) Bs v A hlen w hv hBs
  refine callsIn_of_wp_marks Try.func28 rfl hfS ?_ rfl
  simp only [Try.ntmps28, List.size_toArray, List.length_cons, List.length_nil, Nat.reduceAdd, Nat.reduceSub, Array.replicate_succ, Array.replicate_zero, List.push_toArray, List.append_toArray, List.nil_append, List.cons_append]
  gi_wp2_with fail
  have HA : ApI w.heap.size w.heap.size w [] (w.alloc (.cells #[.slice none 0 0] 22)) := ⟨⟨_, obj_new _ _, IRow.nil _ _⟩, (Below.refl _ _).alloc (Nat.le_refl _) _⟩
  have hk0 : Below w.heap.size w (w.alloc (.cells #[.slice none 0 0] 22)) := HA.kb
  apply wpIn_rangeFunc_ownG (F := Fence.wide) (n := 6) rfl h1 (gf := 24) (lb := #[.pointer (some ⟨Bs, 0, none⟩)]) rfl trivial (enters_of Try.func24 (by kernel_rfl) rfl) ST belowK_t (belowK_b (by simp)) hk0 (fun _ => rfl)
    (fun pre W => ApI w.heap.size w.heap.size w pre W)
    (fun _ _ _ => False)
    (fun pre X Z row h hg hr => ApI.own (Nat.le_refl _) (by simp) pre X Z row h hg hr)
    (fun _ _ _ _ _ hs _ _ => hs)
    HA
  case hassign =>
    intro l x W K hK
    gi_wp2
    exact hK
  case hbody =>
    rintro l1 pre x W h hlt
    obtain ⟨v0, vN, wN, c1, hr, c2, f2, ⟨gN, capN, rfl⟩, ko, kw, MD⟩ := h.app x h.kb.size (Nat.le_refl _) (by omega)
    have HRN := Lib.hid hr
    have HKO := Lib.hid ko
    have HMD := Lib.hid MD
    have HKW := Lib.hid kw
    clear hr ko kw MD h
    gi_wp2_with (gi_at_builtin; refine vs_append_run _ rfl (.tmp 8) (.tmp 10) 22 22 rfl _ _ rfl rfl _ _ HRN.out ?_)
    exact ⟨HKO.out.from _, HKW.out, HMD.out⟩
  case hdone =>
    rintro D xs W hD hxs h hK
    subst hxs
    obtain ⟨v, q1, q2⟩ := h.ex
    obtain ⟨o1, k1, rfl, _⟩ := intRow_read q2
    have c1 : W.cell? ⟨w.heap.size, 0, none⟩ = some (.slice o1 xs.length k1) := obj_cell q1 rfl
    have HQ := Lib.hid q2
    have HK := Lib.hid hK
    have HKB := Lib.hid h.kb
    clear q1 q2 h
    gi_wp2
    refine ⟨by simp, .inl ⟨_, _, rfl, run_takeDeferred HK.out, ?_⟩⟩
    have hg := grownBy_putObj' W D (.deferred none)
    refine ⟨_, results_tmp rfl _ _ _, _, rfl, intRow_keep HQ.out (fun g o e _ => hg.block g (lt_of_block e) (fun e' => ?_)), HKB.out.grown hg HKB.out.size (fun k e => by cases e; rw [World.size_alloc] at hD; omega)⟩
    cases e'
    rw [HK.out] at e; cases e
  case hstop =>
    rintro D c pre W hD _ hf hK
    exact hf.elim
set_option maxHeartbeats 1000000 in
theorem collect_vals (Bs : Nat) (v : Value) (A : List Int) (hlen : A.length ≤ 1000000) (w : World) (hv : Sl encI w v A) (hBs : w.heap[Bs]? = some (.cells #[v] 22 (0, 0))) :
    CallsIn Fence.wide 7 Try.prog 23 #[.func (.func 24) #[] #[.pointer (some ⟨Bs, 0, none⟩)]] w fun e w' => ∃ v', e = .returned v' ∧ IRow w' w.heap.size v' A ∧ Below w.heap.size w w' := by
  have AP := Lib.hid (appendSeq_in Bs v A hlen w hv hBs)
  have hfC : Fence.wide.fn 23 := trivial
  have hfS : Fence.wide.fn 28 := trivial
  refine callsIn_of_wp Try.func23 rfl hfC ?_ rfl
  simp only [Try.ntmps23, List.size_toArray, List.length_cons, List.length_nil, Nat.reduceAdd, Nat.reduceSub, Array.replicate_succ, Array.replicate_zero, List.push_toArray, List.append_toArray, List.nil_append, List.cons_append]
  gi_wp2_with (gi_at_call 28; refine AP.out.mono ?_; rintro e w' ⟨v', rfl, hrow, hb⟩)
  go_ret
  exact ⟨v', rfl, hrow, hb⟩
set_option maxHeartbeats 1000000 in
theorem sorted_vals (Bs : Nat) (v : Value) (A : List Int) (hlen : A.length ≤ 1000000) (w : World) (hv : Sl encI w v A) (hBs : w.heap[Bs]? = some (.cells #[v] 22 (0, 0))) :
    Calls Try.prog 12 #[.func (.func 24) #[] #[.pointer (some ⟨Bs, 0, none⟩)]] w fun e w' => ∃ v', e = .returned v' ∧ IRow w' w.heap.size v' (A.mergeSort fun x y => decide (x ≤ y)) ∧ Below w.heap.size w w' := by
  have AP := Lib.hid (collect_vals Bs v A hlen w hv hBs)
  refine (callsIn_wide (n := 8)).1 ?_
  have hfC : Fence.wide.fn 12 := trivial
  have hfS : Fence.wide.fn 23 := trivial
  have hfT : Fence.wide.fn 14 := trivial
  refine callsIn_of_wp Try.func12 rfl hfC ?_ rfl
  simp only [Try.ntmps12, List.size_toArray, List.length_cons, List.length_nil, Nat.reduceAdd, Nat.reduceSub, Array.replicate_succ, Array.replicate_zero, List.push_toArray, List.append_toArray, List.nil_append, List.cons_append]
  gi_wp2_with (first
    | (gi_at_call 23; refine AP.out.mono ?_; rintro e w2 ⟨v', rfl, hrow, hb⟩)
    | (gi_at_call 14; refine (callsIn_wide.2 (sortInts_own w.heap.size v' A w2 hlen hrow)).mono ?_; rintro e w3 ⟨rfl, h3, g3⟩))
  go_ret
  refine ⟨v', rfl, ?_, hb.grown g3 hb.size (fun k e => (hrow.lt k e).1)⟩
  unfold IRow
  rw [List.length_mergeSort]
  exact h3
end Go.Proofs.Ythmfmnoblobcoaa
