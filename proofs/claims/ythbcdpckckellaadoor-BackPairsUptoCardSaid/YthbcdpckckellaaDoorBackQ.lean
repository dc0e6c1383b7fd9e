import Derived.RangeFuncNested
import Derived.RangeFuncBound
import Derived.RangeFuncCalls
import Derived.RangeFuncLeaves
import Derived.RangeFuncBox
import Derived.Shelf.Abstract
import Derived.Shelf.RegionOpen
import Derived.WalkKit
import Derived.OwnWalkIn
import Derived.TacticsInMore
import Derived.LoopNIn
import Derived.LoopIn
import Derived.Sort.CutIn
import Derived.Test.YthbcdpckckellaaDoorKeysSorted
import Derived.Test.YthbcdpckckellaaDoorIRow
import Derived.Test.YthbcdpckckellaaDoorPrs
import Derived.Test.YthbcdpckckellaaDoorErrE
import Derived.Test.YthbcdpckckellaaDoorSerial
import Derived.Deep.QuietTactic
import Derived.BigQuiet
import Derived.Deep.CutBlock
import Derived.Shelf.Slices.CompactI
import Derived.Sort.OwnSortedInts
import Derived.Lib.RowBridge
/-! slices.Sorted(slices.Values(l)) at ints. -/
namespace Go.Proofs.YthbcdpckckellaaDoor
open Go.RowKit Go.Shelf
set_option linter.unusedVariables false
set_option linter.unusedSimpArgs false
attribute [local go_sem] Oper.semAt_some
set_option maxRecDepth 100000 in
set_option maxHeartbeats 2000000 in
theorem values1_in (F : Fence) (n : Nat) (h7 : F.fn 34) (hro : F.round = none) (hn : 1 ≤ n) (l Bs n₀ : Nat) (v : Value) (A : List Int) (hlen : A.length ≤ 1000000) (w : World) (hn₀ : n₀ ≤ w.heap.size) (hv : ∀ W, Below n₀ w W → Sl encI W v A) (J Jx : List Int → World → Prop)
    (hY : ∀ pre x W, J pre W → pre.length < A.length → YieldAt F (n - 1) Tryd.prog l #[.int .i64 x] W fun e W' =>
      (e = .returned (.bool true) ∧ J (pre ++ [x]) W' ∧ Below n₀ W W') ∨ (e = .returned (.bool false) ∧ Jx (pre ++ [x]) W'))
    (W : World) (hW : Below n₀ w W) (hBs : W.heap[Bs]? = some (.cells #[v] 22 (0, 0))) (h0 : J [] W) :
    CallsIn F n Tryd.prog 34 #[.func (.yield l) #[] #[], .pointer (some ⟨Bs, 0, none⟩)] W fun e W' => (∃ v, e = .returned v) ∧
      ((∃ ys : List Int, ys = A ∧ J ys W') ∨ (∃ pre, True ∧ Jx pre W')) := by
  have cs : W.cell? ⟨Bs, 0, none⟩ = some v := obj_cell hBs rfl
  obtain ⟨oa, cap, rfl⟩ : ∃ oa cap, v = .slice oa A.length cap := by
    rcases hv W hW with ⟨rfl, oa, cap, rfl, _⟩ | ⟨b, off, cap, rfl, _⟩
    · exact ⟨_, _, rfl⟩
    · exact ⟨_, _, rfl⟩
  have HV := Lib.hid (show ∀ W, Below n₀ w W → ∀ i (hi : i < A.length), ∃ b f, oa = some ⟨b, f, none⟩ ∧ W.cell? ⟨b, f + i, none⟩ = some (.int .i64 A[i]) from fun W k i hi => by
    rcases hv W k with ⟨h1, _⟩ | ⟨b, off, cap', h1, _, _, h2⟩
    · rw [h1] at hi; simp at hi
    · cases h1
      exact ⟨b, off, rfl, h2 i hi⟩)
  clear hv
  refine callsIn_of_wp Tryd.func34 rfl h7 ?_ hro
  simp only [Tryd.ntmps34, List.size_toArray, List.length_cons, List.length_nil, Nat.reduceAdd, Nat.reduceSub, Array.replicate_succ, Array.replicate_zero, List.push_toArray, List.append_toArray, List.nil_append, List.cons_append]
  gi_wp2
  clear cs
  gi_loopw [7] (fun i wr => ∃ (r : Nat), i = .int .i64 r ∧ r ≤ A.length ∧ J (A.take r) wr ∧ Below n₀ W wr)
    (fun i _ => A.length - (intOf i).toNat)
  case atStart => exact ⟨0, rfl, by omega, by simpa using h0, Below.refl _ _⟩
  case round =>
    obtain ⟨r, rfl, hr, hJs, hk⟩ := hrel
    by_cases hlt : r < A.length
    · obtain ⟨b, f, rfl, c1⟩ := HV.out wr (hW.trans hk) r hlt
      obtain ⟨fn, tmps, assign, body, hy, hR⟩ := hY (A.take r) A[r] wr hJs (by rw [List.length_take]; omega)
      rw [← List.take_succ_eq_append_getElem hlt] at hR
      obtain ⟨x, hx⟩ : ∃ x, A[r] = x := ⟨_, rfl⟩
      rw [hx] at c1 hy
      clear hx
      gi_wp2
      refine hR.mono ?_
      rintro e W3 (⟨rfl, hJ3, hk3⟩ | ⟨rfl, hJx3⟩)
      · gi_wp2
        go_roundw
        case rel => exact ⟨r + 1, by simp, by omega, hJ3, hk.trans hk3⟩
        case measure => simp [intOf]; omega
      · gi_wp2
        refine bodyPost_ret (results_none rfl _ _ _) rfl ?_
        exact ⟨⟨_, rfl⟩, .inr ⟨_, trivial, hJx3⟩⟩
    · have hr' : r = A.length := by omega
      subst hr'
      rw [List.take_length] at hJs
      gi_wp2
      go_end0
      exact ⟨⟨_, rfl⟩, .inl ⟨A, rfl, hJs⟩⟩
theorem values_stops (F : Fence) (n : Nat) (h7 : F.fn 34) (hro : F.round = none) (hn : 1 ≤ n) (Bs : Nat) (v : Value) (A : List Int) (hlen : A.length ≤ 1000000) (w : World) (hv : Sl encI w v A) (hBs : w.heap[Bs]? = some (.cells #[v] 22 (0, 0))) :
    SeqStopsK F n Tryd.prog 34 #[.pointer (some ⟨Bs, 0, none⟩)] (fun x : Int => #[.int .i64 x]) (Below w.heap.size) (fun ys => ys = A) (fun _ => True) A.length w := fun l J Jx W hW hJ _ hY h0 =>
  values1_in F n h7 hro hn l Bs w.heap.size v A hlen w (Nat.le_refl _) (fun W k => hv.below k) J Jx hY W hW (Below.heapAt hW hBs (lt_of_block hBs)) h0
set_option maxHeartbeats 1000000 in
theorem values_in (F : Fence) (n : Nat) (h5 : F.fn 19) (hro : F.round = none) (oa : Option Addr) (len cap : Nat) (w : World) :
    CallsIn F n Tryd.prog 19 #[.slice oa len cap] w fun e w' => e = .returned (.func (.func 34) #[] #[.pointer (some ⟨w.heap.size, 0, none⟩)]) ∧ w' = w.alloc (.cells #[.slice oa len cap] 22) := by
  refine callsIn_of_wp Tryd.func19 rfl h5 ?_ hro
  simp only [Tryd.ntmps19, List.size_toArray, List.length_cons, List.length_nil, Nat.reduceAdd, Nat.reduceSub, Array.replicate_succ, Array.replicate_zero, List.push_toArray, List.append_toArray, List.nil_append, List.cons_append]
  gi_wp2
  go_ret
  exact ⟨by first | rfl | simp, rfl⟩
theorem vs_append_run {F : Fence} {n : Nat} {P : Program} (w : World) {ops : Array Oper} {rest : List Oper} {o : Oper} {a : Act} {Q : Exit → Act → World → Prop} (hgd : o.guard = none) (s x : Operand) (t tn : TypeId)
    (hop : o.op = .call { callee := .builtin .append, args := #[s, x], argTypes := #[t, tn] }) (vs vx : Value) (hs : a.eval s = vs) (hx : a.eval x = vx)
    (v' : Value) (w' : World) (hr : (Builtin.append_ #[t, tn] o.type #[vs, vx]).run P w = .ok v' w') (h : wpListIn F n P ops Q rest (a.put o.dst v') w') : wpListIn F n P ops Q (o :: rest) a w := by
  refine wpListIn_plain hgd fun K hK' => ?_
  unfold Oper.wpIn
  refine ⟨?_, ?_⟩
  · simp [Oper.about, hop, resolve, Target.leads, Sem.run_pure]
  · rw [Oper.semAt_plain F _ _ (by rw [hop]; intro c hc'; cases hc')]
    simp [execOp, hop, resolve, invoke, builtin, hs, hx, hr, Result.andThen]
    exact hK' _ _ h
/-- what has come so far -/
structure ApI (n₀ L0 : Nat) (w0 : World) (pre : List Int) (W : World) : Prop where
  ex : ∃ v, W.heap[L0]? = some (.cells #[v] 22 (0, 0)) ∧ IRow W n₀ v pre
  kb : Below n₀ w0 W
theorem ApI.own {n₀ L0 : Nat} {w0 : World} (hB : n₀ ≤ w0.heap.size) {B : Nat} (hBB : n₀ ≤ B) : OwnFrom B (fun (pre : List Int) W => ApI n₀ L0 w0 pre W) := fun pre X Y row h hg hr => by
  obtain ⟨⟨v, h1, h2⟩, h3⟩ := h
  have kk : ∀ (j : Nat) (cs : Array Value) (T : TypeId) (fz : Nat × Nat), X.heap[j]? = some (.cells cs T fz) → Y.heap[j]? = some (.cells cs T fz) := fun j cs T fz e => by
    rw [hg.block j (lt_of_block e) (fun e' => by
      obtain ⟨_, o, ho, hc⟩ := hr j e'.symm
      rw [e] at ho; cases ho; cases hc)]
    exact e
  refine ⟨⟨v, kk _ _ _ _ h1, intRow_keep h2 (fun g o e _ => (kk _ _ _ _ e).trans e.symm)⟩, h3.grown hg (Nat.le_trans hB h3.size) (fun k e => Nat.le_trans hBB (hr k e).1)⟩
theorem ApI.app {n₀ L0 : Nat} {w0 : World} {pre : List Int} {W : World} (h : ApI n₀ L0 w0 pre W) (x : Int) (hn : n₀ ≤ W.heap.size) (hL : n₀ ≤ L0) (hl : pre.length ≤ 1000000) :
    ∃ (v vN : Value) (wN : World), W.cell? ⟨L0, 0, none⟩ = some v ∧ (Builtin.append_ #[22, 22] 22 #[v, .slice (some ⟨W.heap.size, 0, none⟩) 1 1]).run Tryd.prog (W.alloc (.cells #[.int .i64 x] 3)) = .ok vN wN ∧
      wN.cell? ⟨L0, 0, none⟩ = some v ∧ wN.frozen? ⟨L0, 0, none⟩ = false ∧ (∃ g cap, vN = .slice (some ⟨g, 0, none⟩) (pre.length + 1) cap) ∧ KeepsOthers W (wN.setCell ⟨L0, 0, none⟩ vN) ∧ Below n₀ W (wN.setCell ⟨L0, 0, none⟩ vN) ∧ ApI n₀ L0 w0 (pre ++ [x]) (wN.setCell ⟨L0, 0, none⟩ vN) := by
  obtain ⟨⟨v, h1, h2⟩, h3⟩ := h
  have BA : Below W.heap.size W (W.alloc (.cells #[.int .i64 x] 3)) := (Below.refl _ _).alloc (Nat.le_refl _) _
  have h2A : IRow (W.alloc (.cells #[.int .i64 x] 3)) n₀ v pre := h2.below BA
  obtain ⟨vN, wN, hr, ho, hgr, hbk⟩ := run_moreInt2 (W.alloc (.cells #[.int .i64 x] 3)) n₀ v x pre.length (pre.map encI) h2A W.heap.size (obj_new _ _) hl (by simp; omega)
  have ho2 : IRow wN n₀ vN (pre ++ [x]) := by unfold IRow; rw [List.map_append, List.length_append]; exact ho
  have hrow : ∀ g, v.ownBlock = some g → ∃ cs, W.heap[g]? = some (.cells cs 3 (0, 0)) ∧ n₀ ≤ g := fun g e => by
    rcases h2.2 with ⟨rfl, _⟩ | ⟨g', cap, cur, rfl, hb, hg', _⟩
    · cases e
    · simp [Value.ownBlock] at e; subst e; exact ⟨_, hg', hb⟩
  have hL1 : wN.heap[L0]? = some (.cells #[v] 22 (0, 0)) := by
    rw [hgr.block L0 (by have := lt_of_block h1; simp; omega) (fun e' => by
      obtain ⟨cs', q, _⟩ := hrow L0 e'.symm
      rw [h1] at q; simp at q)]
    exact (BA.block L0 (lt_of_block h1)).trans h1
  have kbW : Below n₀ W wN := (BA.mono hn).grown hgr (by simp; omega) (fun g e => by obtain ⟨cs, _, q⟩ := hrow g e; exact q)
  have ko : KeepsOthers W wN := by
    refine (KeepsOthers.alloc _ _).trans (KeepsOthers.of_grownBy hgr (fun j o e q => ?_))
    obtain ⟨cs, q', _⟩ := hrow j e
    have := BA.block j (lt_of_block q')
    rw [this, q'] at q; cases q; rfl
  have hform := Joins.ownsRow_form ho (by omega)
  refine ⟨v, vN, wN, obj_cell h1 rfl, hr, obj_cell hL1 rfl, obj_free hL1 0, hform, ko.trans (KeepsOthers.setCell _ _ _), Below.setCell kbW hL _, ⟨⟨vN, obj_set hL1 0 _, ?_⟩, Below.setCell (h3.trans kbW) hL _⟩⟩
  refine intRow_keep ho2 (fun g o e _ => Below.heap_setCell _ _ _ _ (fun e' => ?_))
  subst e'
  rw [hL1] at e; simp at e
set_option maxRecDepth 100000 in
set_option maxHeartbeats 2000000 in
theorem appendSeq_in (Bs : Nat) (v : Value) (A : List Int) (hlen : A.length ≤ 1000000) (w : World) (hv : Sl encI w v A) (hBs : w.heap[Bs]? = some (.cells #[v] 22 (0, 0))) :
    CallsIn Fence.wide 6 Tryd.prog 39 #[.slice none 0 0, .func (.func 34) #[] #[.pointer (some ⟨Bs, 0, none⟩)]] w fun e w' => ∃ v', e = .returned v' ∧ IRow w' w.heap.size v' A ∧ Below w.heap.size w w' := by
  have hfS : Fence.wide.fn 39 := trivial
  have h1 : 1 ≤ 6 := by omega
  have ST := values_stops Fence.wide 5 trivial rfl (by omega) Bs v A hlen w hv hBs
  refine callsIn_of_wp_marks Tryd.func39 rfl hfS ?_ rfl
  simp only [Tryd.ntmps39, List.size_toArray, List.length_cons, List.length_nil, Nat.reduceAdd, Nat.reduceSub, Array.replicate_succ, Array.replicate_zero, List.push_toArray, List.append_toArray, List.nil_append, List.cons_append]
  gi_wp2_with fail
  have HA : ApI w.heap.size w.heap.size w [] (w.alloc (.cells #[.slice none 0 0] 22)) := ⟨⟨_, obj_new _ _, IRow.nil _ _⟩, (Below.refl _ _).alloc (Nat.le_refl _) _⟩
  have hk0 : Below w.heap.size w (w.alloc (.cells #[.slice none 0 0] 22)) := HA.kb
  apply wpIn_rangeFunc_ownG (F := Fence.wide) (n := 6) rfl h1 (gf := 34) (lb := #[.pointer (some ⟨Bs, 0, none⟩)]) rfl trivial (enters_of Tryd.func34 (by kernel_rfl) rfl) ST belowK_t (belowK_b (by simp)) hk0 (fun _ => rfl)
    (fun pre W => ApI w.heap.size w.heap.size w pre W)
    (fun _ _ _ => False)
    (fun pre X Z row h hg hr => ApI.own (Nat.le_refl _) (by simp) pre X Z row h hg hr)
    (fun _ _ _ _ _ hs _ _ => hs)
    HA
  case hassign =>
    intro l x W K hK
    gi_wp2
    exact hK
  case hbody =>
    rintro l1 pre x W h hlt
    obtain ⟨v0, vN, wN, c1, hr, c2, f2, ⟨gN, capN, rfl⟩, ko, kw, MD⟩ := h.app x h.kb.size (Nat.le_refl _) (by omega)
    have HRN := Lib.hid hr
    have HKO := Lib.hid ko
    have HMD := Lib.hid MD
    have HKW := Lib.hid kw
    clear hr ko kw MD h
    gi_wp2_with (gi_at_builtin; refine vs_append_run _ rfl (.tmp 8) (.tmp 10) 22 22 rfl _ _ rfl rfl _ _ HRN.out ?_)
    exact ⟨HKO.out.from _, HKW.out, HMD.out⟩
  case hdone =>
    rintro D xs W hD hxs h hK
    subst hxs
    obtain ⟨v, q1, q2⟩ := h.ex
    obtain ⟨o1, k1, rfl, _⟩ := intRow_read q2
    have c1 : W.cell? ⟨w.heap.size, 0, none⟩ = some (.slice o1 xs.length k1) := obj_cell q1 rfl
    have HQ := Lib.hid q2
    have HK := Lib.hid hK
    have HKB := Lib.hid h.kb
    clear q1 q2 h
    gi_wp2
    refine ⟨by simp, .inl ⟨_, _, rfl, run_takeDeferred HK.out, ?_⟩⟩
    have hg := grownBy_putObj' W D (.deferred none)
    refine ⟨_, results_tmp rfl _ _ _, _, rfl, intRow_keep HQ.out (fun g o e _ => hg.block g (lt_of_block e) (fun e' => ?_)), HKB.out.grown hg HKB.out.size (fun k e => by cases e; rw [World.size_alloc] at hD; omega)⟩
    cases e'
    rw [HK.out] at e; cases e
  case hstop =>
    rintro D c pre W hD _ hf hK
    exact hf.elim
set_option maxHeartbeats 1000000 in
theorem collect_vals (Bs : Nat) (v : Value) (A : List Int) (hlen : A.length ≤ 1000000) (w : World) (hv : Sl encI w v A) (hBs : w.heap[Bs]? = some (.cells #[v] 22 (0, 0))) :
    CallsIn Fence.wide 7 Tryd.prog 33 #[.func (.func 34) #[] #[.pointer (some ⟨Bs, 0, none⟩)]] w fun e w' => ∃ v', e = .returned v' ∧ IRow w' w.heap.size v' A ∧ Below w.heap.size w w' := by
  have AP := Lib.hid (appendSeq_in Bs v A hlen w hv hBs)
  have hfC : Fence.wide.fn 33 := trivial
  have hfS : Fence.wide.fn 39 := trivial
  refine callsIn_of_wp Tryd.func33 rfl hfC ?_ rfl
  simp only [Tryd.ntmps33, List.size_toArray, List.length_cons, List.length_nil, Nat.reduceAdd, Nat.reduceSub, Array.replicate_succ, Array.replicate_zero, List.push_toArray, List.append_toArray, List.nil_append, List.cons_append]
  gi_wp2_with (gi_at_call 39; refine AP.out.mono ?_; rintro e w' ⟨v', rfl, hrow, hb⟩)
  go_ret
  exact ⟨v', rfl, hrow, hb⟩
set_option maxHeartbeats 1000000 in
theorem sorted_vals (Bs : Nat) (v : Value) (A : List Int) (hlen : A.length ≤ 1000000) (w : World) (hv : Sl encI w v A) (hBs : w.heap[Bs]? = some (.cells #[v] 22 (0, 0))) :
    Calls Tryd.prog 18 #[.func (.func 34) #[] #[.pointer (some ⟨Bs, 0, none⟩)]] w fun e w' => ∃ v', e = .returned v' ∧ IRow w' w.heap.size v' (A.mergeSort fun x y => decide (x ≤ y)) ∧ Below w.heap.size w w' := by
  have AP := Lib.hid (collect_vals Bs v A hlen w hv hBs)
  refine (callsIn_wide (n := 8)).1 ?_
  have hfC : Fence.wide.fn 18 := trivial
  have hfS : Fence.wide.fn 33 := trivial
  have hfT : Fence.wide.fn 22 := trivial
  refine callsIn_of_wp Tryd.func18 rfl hfC ?_ rfl
  simp only [Tryd.ntmps18, List.size_toArray, List.length_cons, List.length_nil, Nat.reduceAdd, Nat.reduceSub, Array.replicate_succ, Array.replicate_zero, List.push_toArray, List.append_toArray, List.nil_append, List.cons_append]
  gi_wp2_with (first
    | (gi_at_call 33; refine AP.out.mono ?_; rintro e w2 ⟨v', rfl, hrow, hb⟩)
    | (gi_at_call 22; refine (callsIn_wide.2 (sortInts_own w.heap.size v' A w2 hlen hrow)).mono ?_; rintro e w3 ⟨rfl, h3, g3⟩))
  go_ret
  refine ⟨v', rfl, ?_, hb.grown g3 hb.size (fun k e => (hrow.lt k e).1)⟩
  unfold IRow
  rw [List.length_mergeSort]
  exact h3
end Go.Proofs.YthbcdpckckellaaDoor

/-! back.Pairs. -/
namespace Go.Proofs.YthbcdpckckellaaDoor
open Go.RowKit
set_option linter.unusedVariables false
set_option linter.unusedSimpArgs false
theorem or_i64_nat (a b : Nat) (ha : a < 65536) (hb : b < 65536) : bits .or .i64 (a : Int) (b : Int) = ((a ||| b : Nat) : Int) := by
  have hx : a ||| b < 2 ^ 16 := Nat.or_lt_two_pow (by omega) (by omega)
  have h1 : (BitVec.ofInt 64 (a : Int)).toNat = a := by
    rw [BitVec.ofInt_natCast, BitVec.toNat_ofNat]; exact Nat.mod_eq_of_lt (by omega)
  have h2 : (BitVec.ofInt 64 (b : Int)).toNat = b := by
    rw [BitVec.ofInt_natCast, BitVec.toNat_ofNat]; exact Nat.mod_eq_of_lt (by omega)
  show IntKind.i64.wrap ((BitVec.ofInt 64 (a : Int) ||| BitVec.ofInt 64 (b : Int)).toNat : Int) = _
  rw [BitVec.toNat_or, h1, h2, IntKind.wrap_i64]
  omega
theorem Pl.or_mask {m : Int} {d : Nat} (hm : 0 ≤ m ∧ m ≤ 65535) (hd : d < 16) : bits .or .i64 m ((2 : Int) ^ d) = ((m.toNat ||| 2 ^ d : Nat) : Int) := by
  have e : ((2 : Int) ^ d) = ((2 ^ d : Nat) : Int) := by simp
  have hp : 2 ^ d < 65536 := Nat.pow_lt_pow_right (n := 16) (by decide) hd
  have hm2 : m = (m.toNat : Int) := by omega
  rw [e]
  conv => lhs; rw [hm2]
  exact or_i64_nat _ _ (by omega) hp
theorem Pl.wrap_pow {d : Nat} (hd : d < 16) : wrap64 ((2 : Int) ^ d) = (2 : Int) ^ d := by
  have e : ((2 : Int) ^ d) = ((2 ^ d : Nat) : Int) := by simp
  have hp : 2 ^ d < 65536 := Nat.pow_lt_pow_right (n := 16) (by decide) hd
  rw [e]
  obtain ⟨q, hq⟩ : ∃ q : Nat, 2 ^ d = q := ⟨_, rfl⟩
  rw [hq] at hp ⊢
  unfold wrap64
  omega
/-- the mask of the last is written -/
theorem pr_set {w : World} {M : Nat} {g c : Nat} {A : List Pr} {b m : Int} (h : prK.Own w M (.slice (some ⟨g, 0, none⟩) (A.length + 1) c) (A ++ [⟨b, m⟩])) (m' : Int) :
    prK.Own (w.setCell ⟨g, A.length * 2 + 1, none⟩ (.int .i64 m')) M (.slice (some ⟨g, 0, none⟩) (A.length + 1) c) (A ++ [⟨b, m'⟩]) ∧ M ≤ g ∧ w.frozen? ⟨g, A.length * 2 + 1, none⟩ = false := by
  have h' : w.ownsRow M 53 2 (.slice (some ⟨g, 0, none⟩) (A.length + 1) c) (A.length + 1) (prK.all (A ++ [⟨b, m⟩])) := by
    have := h
    unfold RecK.Own at this
    rw [show (A ++ [(⟨b, m⟩ : Pr)]).length = A.length + 1 by simp] at this; exact this
  obtain ⟨st1, _⟩ := h'.stored (A.length * 2 + 1) (.int .i64 m')
  have hset : (prK.all (A ++ [⟨b, m⟩])).set (A.length * 2 + 1) (.int .i64 m') = prK.all (A ++ [⟨b, m'⟩]) := by
    simp only [RecK.all, List.flatMap_append, List.flatMap_cons, List.flatMap_nil, List.append_nil]
    have hl : (A.flatMap prK.cells).length = A.length * 2 := prK.all_len prK_ok A
    rw [List.set_append_right _ _ (by omega), hl, Nat.add_sub_cancel_left]
    rfl
  rw [hset] at st1
  refine ⟨?_, (h'.lt g rfl).1, h'.frozenAt _⟩
  unfold RecK.Own
  rw [show (A ++ [(⟨b, m'⟩ : Pr)]).length = A.length + 1 by simp]
  exact st1
/-- lists that have a last one -/
theorem last_of {α : Type} (L : List α) : L = [] ∨ ∃ A x, L = A ++ [x] := by
  rcases List.eq_nil_or_concat L with h | ⟨A, x, h⟩
  · exact .inl h
  · exact .inr ⟨A, x, by simpa using h⟩
theorem Pl.seq_16 (n : Int) : Pl.seq n = true ↔ Pl.Seq16 n := Pl.seq_iff n
theorem Pl.seq_b (n : Int) : Pl.seq n = decide (Pl.Seq16 n) := by
  rw [Bool.eq_iff_iff, decide_eq_true_iff]; exact Pl.seq_16 n
theorem backPairs_full (v : Value) (A : List Int) (hA : 200 < A.length) (w : World) (h : Sl encI w v A) :
    Calls Tryd.prog 5 #[v] w fun e w' => e = .returned (.tuple #[.slice none 0 0, errV 4]) ∧ w = w' := by
  obtain ⟨oa, c, rfl⟩ : ∃ oa c, v = .slice oa A.length c := by
    rcases h with ⟨h1, oa, cap, rfl, _⟩ | ⟨b, off, cap, rfl, _⟩
    · subst h1; exact ⟨_, _, rfl⟩
    · exact ⟨_, _, rfl⟩
  have e1 : (200 : Int) < (A.length : Int) := by omega
  rw [errV_hit 4 (by decide)]
  clear h
  go_enter Tryd.func5, Tryd.ntmps5
  go_wp2_with fail
  go_ret2
  exact ⟨rfl, rfl⟩
set_option maxRecDepth 100000 in
set_option maxHeartbeats 2000000 in
theorem backPairs_1 (v : Value) (A : List Int) (hA : A.length ≤ 200) (w : World) (h : Sl encI w v A) :
    Calls Tryd.prog 5 #[v] w fun e w' => Below w.heap.size w w' ∧ ((Pl.pairF A = 1 ∧ e = .returned (.tuple #[.slice none 0 0, errV 1])) ∨
      (Pl.pairF A = 0 ∧ ∃ (v' : Value) (L : List Pr), e = .returned (.tuple #[v', .nilIface]) ∧ prK.Own w' w.heap.size v' L ∧ Pl.PairsOf (· ∈ A) L ∧ L.length ≤ A.length)) := by
  have HS := Lib.hid h
  have hm := h.len
  unfold maxLen at hm
  have RD := Lib.hid (show ∃ oa c, v = .slice oa A.length c ∧ ∀ y, Below w.heap.size w y → ∀ i (hi : i < A.length), ∃ b f, oa = some ⟨b, f, none⟩ ∧ y.cell? ⟨b, f + i, none⟩ = some (.int .i64 A[i]) from by
    rcases h with ⟨h1, oa, cap, rfl, _⟩ | ⟨b, off, cap, rfl, _, _, h2⟩
    · subst h1
      exact ⟨oa, cap, rfl, fun y _ i hi => by simp at hi⟩
    · refine ⟨_, cap, rfl, fun y k i hi => ⟨b, off, rfl, ?_⟩⟩
      exact (k.cell (p := ⟨b, off + i, none⟩) (Sl.lt (h2 i hi))).trans (h2 i hi))
  obtain ⟨oa, c, rfl, rd⟩ := RD.out
  have RC := Lib.hid rd
  have e0 : ¬ (200 : Int) < (A.length : Int) := by omega
  clear RD rd h
  go_enter Tryd.func5, Tryd.ntmps5
  go_upto_region 3 with fail
  clear e0
  go_upto_block 0 with fail
  go_cut [5] from 16 to 24 (fun _ z => w = z ∧ Hid (Pl.pairF A = 0))
  case first =>
    as_aux_lemma =>
    go_upto_region 4 with fail
    go_loopw [5, 16] (fun _ s16 wr => ∃ i : Nat, i ≤ A.length ∧ s16 = .int .i64 i ∧ w = wr ∧ Hid (∀ j (hj : j < i) (hl : j < A.length), Pl.Seq16 A[j])) (fun _ s16 _ => A.length - (intOf s16).toNat)
    case atStart => exact ⟨0, by omega, rfl, rfl, Lib.hid (fun j hj => by omega)⟩
    case round =>
      as_aux_lemma =>
      obtain ⟨i, hi, rfl, rfl, HN⟩ := hrel
      by_cases hlt : i < A.length
      · have e1 : (i : Int) < (A.length : Int) := by omega
        obtain ⟨b, f, rfl, q⟩ := RC.out w (Below.refl _ _) i hlt
        have HZ := Lib.hid (show Pl.Seq16 A[i] → ∀ j (hj : j < i + 1) (hl : j < A.length), Pl.Seq16 A[j] from fun h j hj hl => by
          by_cases e : j = i
          · subst e; exact h
          · exact HN.out j (by omega) hl)
        have HB := Lib.hid (show ¬ Pl.Seq16 A[i] → Pl.pairF A = 1 from fun h => by
          unfold Pl.pairF
          rw [if_neg (by omega), if_neg (fun hh => h (hh _ (List.getElem_mem _)))])
        generalize A[i] = x at *
        have SQ := Lib.hid (seq_any x w)
        by_cases hx : Pl.Seq16 x
        · have H2 := Lib.hid (HZ.out hx)
          have hs : Pl.seq x = true := (Pl.seq_16 x).2 hx
          clear HZ HB hx
          go_wp2_with (go_at_call 17; refine SQ.out.mono ?_; rintro e w1 ⟨rfl, rfl⟩; rw [hs])
          go_roundw
          case measure => simp only [intOf]; omega
          case rel => exact ⟨i + 1, by omega, by simp, by first | rfl | trivial, H2⟩
        · have H2 := Lib.hid (HB.out hx)
          have hs : Pl.seq x = false := by rw [Pl.seq_b, decide_eq_false hx]
          clear HZ HB hx
          go_wp2_with (go_at_call 17; refine SQ.out.mono ?_; rintro e w1 ⟨rfl, rfl⟩; rw [hs])
          go_ret2
          exact ⟨Below.refl _ _, .inl ⟨H2.out, by rw [errV_hit 1 (by decide)]; rfl⟩⟩
      · have hie : i = A.length := by omega
        subst hie
        have e1 : ¬ (A.length : Int) < (A.length : Int) := by omega
        have HG := Lib.hid (show Pl.pairF A = 0 from by
          unfold Pl.pairF
          rw [if_neg (by omega), if_pos]
          intro n hn
          obtain ⟨j, hj, rfl⟩ := List.mem_iff_getElem.1 hn
          exact HN.out j hj hj)
        clear hlt
        go_wp2_with fail
        go_meet
        exact ⟨rfl, HG⟩
  case rest =>
  as_aux_lemma =>
  obtain ⟨rfl, PF⟩ := hcut
  have VA := Lib.hid (fun n => values_in Fence.wide n trivial rfl oa A.length c w)
  have VC := Lib.hid (show Calls Tryd.prog 19 #[.slice oa A.length c] w fun e w' => e = .returned (.func (.func 34) #[] #[.pointer (some ⟨w.heap.size, 0, none⟩)]) ∧ w' = w.alloc (.cells #[.slice oa A.length c] 22) from (callsIn_wide (n := 6)).1 (VA.out 6))
  have kA : Below w.heap.size w (w.alloc (.cells #[.slice oa A.length c] 22)) := (Below.refl _ _).alloc (Nat.le_refl _) _
  have SV := Lib.hid (sorted_vals w.heap.size (.slice oa A.length c) A (by omega) (w.alloc (.cells #[.slice oa A.length c] 22)) (HS.out.below kA) (obj_new _ _))
  have KA := Lib.hid kA
  clear kA VA
  go_upto_region 11 with (first
    | (go_at_call 19; (with_reducible refine VC.out.mono ?_); rintro e w1 ⟨rfl, rfl⟩)
    | (go_at_call 18; (with_reducible refine SV.out.mono ?_); rintro e w2 ⟨v27, rfl, h1, k1⟩; obtain ⟨o27, c27, rfl, rd⟩ := intRow_read h1; have RS := Lib.hid h1; have K2 := Lib.hid (KA.out.trans (k1.mono KA.out.size)); clear h1 k1))
  clear VC SV KA
  obtain ⟨S, hS⟩ : ∃ S, (A.mergeSort fun x y => decide (x ≤ y)) = S := ⟨_, rfl⟩
  rw [hS] at rd
  have SM := Lib.hid (show ∀ n, n ∈ S ↔ n ∈ A from fun n => by rw [← hS, List.mem_mergeSort])
  have SL := Lib.hid (show S.length = A.length from by rw [← hS, List.length_mergeSort])
  have SO := Lib.hid (show ∀ i j (hi : i < S.length) (hj : j < S.length), i ≤ j → S[i] ≤ S[j] from by
    have hp : S.Pairwise fun x y => decide (x ≤ y) = true := by
      rw [← hS]; exact List.pairwise_mergeSort (fun a b c h1 h2 => by simp at *; omega) (fun a b => by simp; omega) A
    intro i j hi hj hij
    rcases Nat.lt_or_ge i j with q | q
    · have := (List.pairwise_iff_getElem.1 hp) i j hi hj q
      simpa using this
    · have : i = j := by omega
      subst this; exact Int.le_refl _)
  have SQ := Lib.hid (show ∀ n ∈ S, Pl.Seq16 n from fun n hn => by
    have := PF.out
    unfold Pl.pairF at this
    rw [if_neg (by omega)] at this
    split at this
    · rename_i h; exact h n ((SM.out n).1 hn)
    · cases this)
  have RD := Lib.hid (show ∀ y, Below w2.heap.size w2 y → ∀ i (hi : i < S.length), ∃ g, o27 = some ⟨g, 0, none⟩ ∧ y.cell? ⟨g, i, none⟩ = some (.int .i64 S[i]) from fun y k i hi => by
    obtain ⟨g, e, _, hl, q⟩ := rd i S[i] (by simp [hi])
    exact ⟨g, e, (k.cell (p := ⟨g, i, none⟩) hl).trans q⟩)
  have hSA : S.length ≤ 200 := by have := SL.out; omega
  have e27 : A.length = S.length := SL.out.symm
  rw [e27]
  clear rd RS e27
  have O0 := Lib.hid (RecK.Own.nil (R := prK) w2 w2.heap.size)
  have K0 := Lib.hid (Below.refl w2.heap.size w2)
  have P0 := Lib.hid (Pl.PairsOf.nil (S := (· ∈ S.take 0)) (fun n => by simp))
  go_loopw [6, 8, 9, 29] (fun s6 _ _ s29 wr => ∃ (i : Nat) (L : List Pr), i ≤ S.length ∧ s29 = .int .i64 i ∧ L.length ≤ i ∧ Hid (Pl.PairsOf (· ∈ S.take i) L) ∧ Hid (prK.Own wr w2.heap.size s6 L) ∧ Hid (Below w2.heap.size w2 wr)) (fun _ _ _ s29 _ => S.length - (intOf s29).toNat)
  case atStart => exact ⟨0, [], by omega, rfl, by simp, P0, O0, K0⟩
  case round =>
    as_aux_lemma =>
    clear O0 K0 P0
    obtain ⟨i, L, hi, rfl, hL, PO, OW, KR⟩ := hrel
    by_cases hlt : i < S.length
    · have e1 : (i : Int) < (S.length : Int) := by omega
      obtain ⟨gS, rfl, q⟩ := RD.out _ KR.out i hlt
      have MX := Lib.hid (show ∀ s, s ∈ S.take i → s ≤ S[i] from fun s hs => by
        obtain ⟨m, hm, rfl⟩ := List.mem_take_iff_getElem.1 hs
        exact SO.out m i (by omega) hlt (by omega))
      have TK := Lib.hid (show ∀ n, (n ∈ S.take i ∨ n = S[i]) ↔ n ∈ S.take (i + 1) from fun n => by
        rw [List.take_succ_eq_append_getElem hlt, List.mem_append, List.mem_singleton])
      have XQ := SQ.out S[i] (List.getElem_mem _)
      generalize S[i] = x at *
      obtain ⟨x0, x1⟩ := XQ
      rcases last_of L with rfl | ⟨B, ⟨b, m⟩, rfl⟩
      · obtain ⟨o6, c6, rfl, -⟩ := RecK.Own.read prK_ok OW.out
        have TN := Lib.hid ((PO.out.next (n := x) (fun s hs => by
          obtain ⟨p, hp, _⟩ := PO.out.cov s hs
          simp at hp) (by simp)).congr TK.out)
        obtain ⟨gN, capN, wN, hrun, ho, hk2⟩ := pr_more OW.out ⟨x, 0⟩ (by simp) KR.out (Nat.le_refl _)
        have HRUN := Lib.hid hrun
        have HO := Lib.hid ho
        have HK2 := Lib.hid hk2
        clear hrun ho hk2 hlt
        simp only [List.length_nil] at *
        go_wp2_with (at_builtin; refine Lib.wpList_append_run _ rfl (.tmp 72) (.tmp 75) 23 23 rfl _ _ rfl rfl _ _ HRUN.out ?_)
        go_roundw
        case measure => simp only [intOf]; omega
        case rel => exact ⟨i + 1, _, by omega, by simp, by simp, TN, HO, HK2⟩
      · have hl1 : (B ++ [(⟨b, m⟩ : Pr)]).length = B.length + 1 := by simp
        obtain ⟨g6, c6, hv⟩ := Joins.ownsRow_form OW.out (by omega)
        rw [hl1] at hv
        subst hv
        have cl := OW.out.cells (g := g6) rfl
        have hal : (prK.all B).length = B.length * 2 := prK.all_len prK_ok B
        have cA : wr.cell? ⟨g6, B.length * 2, none⟩ = some (.int .i64 b) := by
          have := cl (B.length * 2) (.int .i64 b) (by rw [RecK.all_app, List.getElem?_append_right (by omega), hal, Nat.sub_self]; rfl)
          rw [Addr.add_lit, Nat.zero_add] at this; exact this
        have cB : wr.cell? ⟨g6, B.length * 2 + 1, none⟩ = some (.int .i64 m) := by
          have := cl (B.length * 2 + 1) (.int .i64 m) (by rw [RecK.all_app, List.getElem?_append_right (by omega), hal, Nat.add_sub_cancel_left]; rfl)
          rw [Addr.add_lit, Nat.zero_add] at this; exact this
        clear cl hal
        obtain ⟨oS, om1, om2, -⟩ := PO.out.ok ⟨b, m⟩ (by simp)
        dsimp only at oS om1 om2
        have hbx := MX.out b oS
        have hb0 : 0 ≤ b := (SQ.out b (List.mem_of_mem_take oS)).1
        have i0 : (0 : Int) ≤ (B.length : Int) := by omega
        have i1 : (B.length : Int) < (B.length : Int) + 1 := by omega
        have i3 : IntKind.i64.wrap ((B.length : Int) + 1 - 1) = (B.length : Int) := by rw [IntKind.wrap_i64]; omega
        have i4 : IntKind.i64.wrap (b + 16) = b + 16 := by rw [IntKind.wrap_i64]; omega
        by_cases hg : x ≤ b + 16
        · by_cases hx : b < x
          · obtain ⟨d, hd⟩ : ∃ d : Nat, x - b - 1 = d := ⟨(x - b - 1).toNat, by omega⟩
            have hd16 : d < 16 := by omega
            have hxd : x = b + d + 1 := by omega
            have TN := Lib.hid (show Pl.PairsOf (· ∈ S.take (i + 1)) (B ++ [⟨b, ((m.toNat ||| 2 ^ d : Nat) : Int)⟩]) from (PO.out.more hd16 (fun s hs => by have := MX.out s hs; omega)).congr (fun n => by rw [← hxd]; exact TK.out n))
            obtain ⟨ST, hMg, hfr⟩ := pr_set OW.out ((m.toNat ||| 2 ^ d : Nat) : Int)
            have SO2 := Lib.hid ST
            have KS := Lib.hid (Below.setCell KR.out (p := ⟨g6, B.length * 2 + 1, none⟩) hMg (.int .i64 ((m.toNat ||| 2 ^ d : Nat) : Int)))
            have i5 : IntKind.i64.wrap (x - b) = x - b := by rw [IntKind.wrap_i64]; omega
            have i6 : IntKind.i64.wrap (x - b - 1) = (d : Int) := by rw [IntKind.wrap_i64]; omega
            have OM := Lib.hid (Pl.or_mask ⟨om1, om2⟩ hd16)
            clear ST hMg
            go_upto_region 16 with fail
            go_region
            rw [show (b + (d : Int) + 1 - b).toNat - 1 = d by omega, Pl.wrap_pow hd16, OM.out]
            have SO3 := Lib.hid (SO2.out.below (Below.drewN (Below.refl _ _) 1))
            have KS3 := Lib.hid (Below.drewN KS.out 1)
            clear SO2 KS
            go_wp2_with fail
            go_roundw
            case measure => simp only [intOf]; omega
            case rel => exact ⟨i + 1, _, by omega, by simp, by simp at hL ⊢; omega, TN, SO3, KS3⟩
          · have hxb : x = b := by omega
            subst hxb
            have TN := Lib.hid ((PO.out.same oS).congr TK.out)
            have e2 : ¬ x < x := by omega
            clear hx
            go_wp2_with fail
            go_roundw
            case measure => simp only [intOf]; omega
            case rel => exact ⟨i + 1, _, by omega, by simp, by omega, TN, OW, KR⟩
        · have TN := Lib.hid ((PO.out.next (n := x) (fun s hs => by
            obtain ⟨p, hp, h1, h2⟩ := PO.out.cov s hs
            have := PO.out.last p hp
            dsimp only at this
            omega) (fun p hp => by
            have := PO.out.last p hp
            dsimp only at this
            omega)).congr TK.out)
          obtain ⟨gN, capN, wN, hrun, ho, hk2⟩ := pr_more OW.out ⟨x, 0⟩ (by rw [hl1]; omega) KR.out (Nat.le_refl _)
          rw [hl1] at hrun ho
          have HRUN := Lib.hid hrun
          have HO := Lib.hid (show prK.Own wN w2.heap.size (.slice (some ⟨gN, 0, none⟩) (B.length + 1 + 1) capN) (B ++ [⟨b, m⟩] ++ [⟨x, 0⟩]) from ho)
          have HK2 := Lib.hid hk2
          clear hrun ho hk2
          go_wp2_with (at_builtin; refine Lib.wpList_append_run _ rfl (.tmp 72) (.tmp 75) 23 23 rfl _ _ rfl rfl _ _ HRUN.out ?_)
          go_roundw
          case measure => simp only [intOf]; omega
          case rel => exact ⟨i + 1, _, by omega, by simp, by simp; omega, TN, HO, HK2⟩
    · have hie : i = S.length := by omega
      subst hie
      have e1 : ¬ (S.length : Int) < (S.length : Int) := by omega
      clear hlt
      rw [List.take_length] at PO
      go_wp2_with fail
      go_ret2
      refine ⟨K2.out.trans (KR.out.mono K2.out.size), .inr ⟨PF.out, _, rfl, L, World.ownsRow.mono OW.out K2.out.size, PO.out.congr SM.out, by have := SL.out; omega⟩⟩
end Go.Proofs.YthbcdpckckellaaDoor

/-! slices.Compact at ints that are sorted. -/
namespace Go.Proofs.YthbcdpckckellaaDoor
open Go.RowKit Go.Sort Go.Shelf Go.Proofs
set_option linter.unusedVariables false
set_option linter.unusedSimpArgs false
def compA_ren : Go.Shelf.Ren := ⟨fun | 20 => 23 | n => n, fun | 0 => 0 | 3 => 3 | 4 => 4 | 22 => 22 | n => n, fun | n => n⟩
theorem compA : Lays2.n20 Tryd.prog compA_ren := {
  mixed := by kernel_rfl
  f20 := Tryd.func23.trans (congrArg some (by kernel_rfl))
  t0 := Tryd.underlying0
  a0 := Tryd.isAgg0
  z0 := Tryd.sizeOf0
  v0 := Tryd.zeroValue0
  t3 := Tryd.underlying3
  a3 := Tryd.isAgg3
  z3 := Tryd.sizeOf3
  v3 := Tryd.zeroValue3
  t4 := Tryd.underlying4
  a4 := Tryd.isAgg4
  z4 := Tryd.sizeOf4
  v4 := Tryd.zeroValue4
  t22 := Tryd.underlying22
  a22 := Tryd.isAgg22
  z22 := Tryd.sizeOf22
  v22 := Tryd.zeroValue22
  i3 := by kernel_rfl }
/-- what is sorted, each once -/
theorem compact_rises {A : List Int} (hs : A.Pairwise fun x y => x ≤ y) : Rises (Lib.compact A) ∧ ∀ i, i ∈ Lib.compact A ↔ i ∈ A := by
  have hg : ∀ j (hj : j < A.length), A.toArray[j]! = A[j] := fun j hj => by simp [hj]
  have key : ∀ m, m ≤ A.length → Rises (Lib.compactUpTo A.toArray m) ∧ (∀ i, i ∈ Lib.compactUpTo A.toArray m ↔ i ∈ A.take m) := by
    intro m
    induction m with
    | zero => intro _; simp [Lib.compactUpTo]
    | succ m ih =>
      intro hm
      obtain ⟨h1, h2⟩ := ih (by omega)
      have hlt : m < A.length := by omega
      rw [Lib.compactUpTo_succ]
      have hmax : ∀ x ∈ Lib.compactUpTo A.toArray m, 0 < m ∧ ∀ h0 : m - 1 < A.length, x ≤ A[m - 1] := fun x hx => by
        obtain ⟨j, hj, rfl⟩ := List.mem_take_iff_getElem.1 ((h2 x).1 hx)
        refine ⟨by omega, fun h0 => ?_⟩
        rcases Nat.lt_or_ge j (m - 1) with q | q
        · exact (List.pairwise_iff_getElem.1 hs) j (m - 1) (by omega) h0 q
        · have e : j = m - 1 := by omega
          subst e; exact Int.le_refl _
      have hkeep : Hid (Lib.keeps A.toArray m = true ↔ (m = 0 ∨ ∀ h0 : m - 1 < A.length, A[m] ≠ A[m - 1])) := Lib.hid (by
        unfold Lib.keeps
        rw [decide_eq_true_iff, hg m hlt]
        by_cases h0 : m = 0
        · simp [h0]
        · have hm1 : m - 1 < A.length := by omega
          rw [hg (m - 1) hm1]
          constructor
          · rintro (h | h)
            · exact .inl h
            · exact .inr (fun _ => h)
          · rintro (h | h)
            · exact .inl h
            · exact .inr (h hm1))
      rw [List.take_succ_eq_append_getElem hlt]
      cases hk : Lib.keeps A.toArray m
      · have hne : Hid (¬ (m = 0 ∨ ∀ h0 : m - 1 < A.length, A[m] ≠ A[m - 1])) := Lib.hid (fun h => by rw [hkeep.out.2 h] at hk; cases hk)
        have h0 : m ≠ 0 := fun e => hne.out (.inl e)
        have hm1 : m - 1 < A.length := by omega
        have he : A[m] = A[m - 1] := by
          rcases Int.lt_trichotomy A[m] A[m - 1] with q | q | q
          · exact absurd (.inr (fun _ => Int.ne_of_lt q)) hne.out
          · exact q
          · exact absurd (.inr (fun _ => (Int.ne_of_lt q).symm)) hne.out
        rw [if_neg (by simp), List.append_nil]
        refine ⟨h1, fun i => (h2 i).trans ?_⟩
        rw [List.mem_append, List.mem_singleton]
        constructor
        · exact .inl
        · rintro (h | h)
          · exact h
          · subst h; rw [he]; exact List.mem_take_iff_getElem.2 ⟨m - 1, by omega, rfl⟩
      · rw [if_pos rfl, hg m hlt]
        refine ⟨?_, fun i => ?_⟩
        · unfold Rises
          rw [List.pairwise_append]
          refine ⟨h1, List.pairwise_singleton _ _, fun x hx y hy => ?_⟩
          simp at hy; subst hy
          obtain ⟨q1, q2⟩ := hmax x hx
          have q3 := q2 (by omega)
          have q4 := (List.pairwise_iff_getElem.1 hs) (m - 1) m (by omega) hlt (by omega)
          rcases hkeep.out.1 hk with e | e
          · omega
          · have := e (by omega); omega
        · rw [List.mem_append, List.mem_append, h2]
  have := key A.length (Nat.le_refl _)
  rw [List.take_length] at this
  exact this
/-- fewer of a row -/
theorem IRow.cut {w : World} {M g n c : Nat} {A B : List Int} (h : IRow w M (.slice (some ⟨g, 0, none⟩) n c) (A ++ B)) : IRow w M (.slice (some ⟨g, 0, none⟩) A.length c) A := by
  obtain ⟨h1, h2⟩ := h
  refine ⟨by simp, ?_⟩
  rcases h2 with ⟨h3, _⟩ | ⟨g', cap, cur, e, hb, hg, hc, hm, hs, ht⟩
  · cases h3
  · cases e
    refine .inr ⟨g, c, cur, rfl, hb, hg, ?_, hm, hs, ?_⟩
    · have : A.length ≤ (A ++ B).length := by simp
      omega
    · have := congrArg (List.take (A.length * 1)) ht
      rw [List.take_take, List.map_append, List.take_append_of_le_length (by simp)] at this
      rw [List.take_of_length_le (l := A.map encI) (by simp)] at this
      rw [← this]
      congr 1
      simp
/-- slices.Compact at a row of ints of the call's own -/
theorem compact_own (M : Nat) (v : Value) (A : List Int) (w : World) (hA : A.length ≤ 1000000) (h : IRow w M v A) :
    Calls Tryd.prog 23 #[v] w fun e w' => ∃ v', e = .returned v' ∧ IRow w' M v' (Lib.compact A) ∧ w.grownBy w' v.ownBlock := by
  have hemp : ∀ (p : Option Addr) (cap : Nat) (w : World), Calls Tryd.prog 23 #[.slice p 0 cap] w fun e w' => e = .returned (.slice p 0 cap) ∧ w' = w := fun p cap w => Any.slices_Compact_int_empty compA p cap w
  have hnil : Lib.compact ([] : List Int) = [] := rfl
  rcases h.2 with ⟨rfl, h0⟩ | ⟨g, cap, cur, rfl, hb, hg, hc, hm, hs, ht⟩
  · have hA0 : A = [] := List.eq_nil_of_length_eq_zero h0
    subst hA0
    refine (hemp none 0 w).mono ?_
    rintro e w' ⟨rfl, rfl⟩
    exact ⟨_, rfl, by rw [hnil]; exact h, World.grownBy_refl' _ _⟩
  · have hc' : Calls Tryd.prog 23 #[.slice (some ⟨g, 0, none⟩) A.length cap] w fun e w' => e = .returned (.slice (some ⟨g, 0, none⟩) (Lib.compact A).length cap) ∧ ∃ q, w' = putRow (Value.int .i64) (Sort.ahead w q) g 0 (Lib.compact A ++ List.replicate (A.length - (Lib.compact A).length) 0).toArray :=
      Any.slices_Compact_int compA g 0 cap A w (holds_of_blockI hg (by simpa using ht)) (by omega) hc
    refine hc'.mono ?_
    rintro e w' ⟨rfl, q, rfl⟩
    have hle := Lib.compact_length_le A
    have hgr : ∀ w : World, grow w #[] = w := fun w => by simp [grow]
    have h1 := ownsRow_sortedI (w := w) (base := M) (g := g) (cap := cap) (n := q) (os := #[]) (ss := A) (ts := Lib.compact A ++ List.replicate (A.length - (Lib.compact A).length) 0) (by simp; omega) hb hg hc hm hs
    have h2 := grownBy_sortedI (w := w) (g := g) (n := q) (os := #[]) (Lib.compact A ++ List.replicate (A.length - (Lib.compact A).length) 0).toArray
    rw [hgr] at h1 h2
    refine ⟨_, rfl, IRow.cut (B := List.replicate (A.length - (Lib.compact A).length) 0) (n := A.length) ?_, h2⟩
    unfold IRow
    have hl : (Lib.compact A ++ List.replicate (A.length - (Lib.compact A).length) 0).length = A.length := by simp; omega
    rw [hl]
    exact h1
end Go.Proofs.YthbcdpckckellaaDoor

/-! back.Numbers. -/
namespace Go.Proofs.YthbcdpckckellaaDoor
open Go.RowKit
set_option linter.unusedVariables false
set_option linter.unusedSimpArgs false
/-- one more, and what is no ints is as it was -/
theorem IRow.more2 {W w0 : World} {M : Nat} {v : Value} {A : List Int} (h : IRow W M v A) (x : Int) (hn : A.length ≤ 1000000) (K : Below M w0 W) (hM : M ≤ w0.heap.size) :
    ∃ gN capN wN, (Builtin.append_ #[22, 22] 22 #[v, .slice (some ⟨W.heap.size, 0, none⟩) 1 1]).run Tryd.prog (W.alloc (.cells #[.int .i64 x] 3)) = .ok (.slice (some ⟨gN, 0, none⟩) (A.length + 1) capN) wN ∧ IRow wN M (.slice (some ⟨gN, 0, none⟩) (A.length + 1) capN) (A ++ [x]) ∧ Below M w0 wN ∧
      ∀ (j : Nat) (cs : Array Value) (T : TypeId), T ≠ 3 → W.heap[j]? = some (.cells cs T (0, 0)) → wN.heap[j]? = some (.cells cs T (0, 0)) := by
  have hMW : M ≤ W.heap.size := Nat.le_trans hM K.size
  have BA : Below W.heap.size W (W.alloc (.cells #[.int .i64 x] 3)) := (Below.refl _ _).alloc (Nat.le_refl _) _
  obtain ⟨vN, wN, hr, ho, hgr, hbk⟩ := run_moreInt2 (W.alloc (.cells #[.int .i64 x] 3)) M v x A.length (A.map encI) (h.below BA) W.heap.size (obj_new _ _) hn (by simp; omega)
  obtain ⟨gN, capN, rfl⟩ := Joins.ownsRow_form ho (by omega)
  have hrow : ∀ g, v.ownBlock = some g → ∃ cs, W.heap[g]? = some (.cells cs 3 (0, 0)) ∧ M ≤ g := fun g e => by
    rcases h.2 with ⟨rfl, _⟩ | ⟨g', cap, cur, rfl, hb, hg', _⟩
    · cases e
    · simp [Value.ownBlock] at e; subst e; exact ⟨_, hg', hb⟩
  refine ⟨gN, capN, wN, hr, ?_, (K.trans (BA.mono hMW)).grown hgr (by have := K.size; simp; omega) (fun g e => by obtain ⟨cs, _, q⟩ := hrow g e; exact q), fun j cs T hT e => ?_⟩
  · unfold IRow; rw [List.map_append, List.length_append]; exact ho
  · rw [hgr.block j (by have := lt_of_block e; simp; omega) (fun e' => by
      obtain ⟨cs', q, _⟩ := hrow j e'.symm
      rw [e] at q; simp at q; exact hT q.2)]
    exact (BA.block j (lt_of_block e)).trans e
namespace Pl
/-- the numbers of one, by its first k bits -/
def numK (p : Pr) (k : Nat) : List Int := p.base :: ((List.range k).filter (bit p)).map fun k : Nat => p.base + (k : Int) + 1
theorem numK_zero (p : Pr) : numK p 0 = [p.base] := rfl
theorem numK_succ (p : Pr) (k : Nat) : numK p (k + 1) = numK p k ++ (if bit p k = true then [p.base + (k : Int) + 1] else []) := by
  unfold numK
  rw [List.range_succ, List.filter_append, List.map_append, List.cons_append]
  congr 2
  by_cases h : bit p k = true <;> simp [h]
theorem numK_all (p : Pr) : numK p 16 = numOf p := rfl
theorem numK_len (p : Pr) (k : Nat) : 1 ≤ (numK p k).length ∧ (numK p k).length ≤ k + 1 := by
  unfold numK
  have := List.length_filter_le (bit p) (List.range k)
  simp at *
  omega
theorem numsOf_succ {L : List Pr} {i : Nat} (h : i < L.length) : numsOf (L.take (i + 1)) = numsOf (L.take i) ++ numOf L[i] := by
  unfold numsOf
  rw [List.take_succ_eq_append_getElem h, List.flatMap_append]
  simp
/-- what its last number says -/
theorem prOk_last {p : Pr} {x : Int} (h1 : Seq16 p.base) (h2 : Seq16 p.mask) (hx : (numOf p).getLast? = some x) : prOk p ↔ Seq16 x := by
  have hm : x ∈ numOf p := List.mem_of_getLast? hx
  have hb : ∀ y ∈ numOf p, p.base ≤ y := fun y hy => by
    rcases mem_numOf.1 hy with rfl | ⟨k, _, _, rfl⟩ <;> omega
  have hle : ∀ y ∈ numOf p, y ≤ x := fun y hy => by
    obtain ⟨i, hi, rfl⟩ := List.mem_iff_getElem.1 hy
    rw [List.getLast?_eq_getElem?] at hx
    obtain ⟨hj, rfl⟩ := List.getElem?_eq_some_iff.1 hx
    rcases Nat.lt_or_ge i ((numOf p).length - 1) with q | q
    · exact Int.le_of_lt ((List.pairwise_iff_getElem.1 (numOf_rises p)) i _ hi hj q)
    · have : i = (numOf p).length - 1 := by omega
      subst this; exact Int.le_refl _
  unfold prOk
  constructor
  · intro h
    have := hb x hm
    have := h.2.2 x hm
    unfold Seq16 at *
    omega
  · intro h
    refine ⟨h1, h2, fun y hy => ?_⟩
    have := hle y hy
    unfold Seq16 at h
    omega
theorem numF_bad {L : List Pr} (hl : L.length ≤ 200) {i : Nat} (hi : i < L.length) (h : ¬ prOk L[i]) : numF L = 1 := by
  unfold numF
  rw [if_neg (by omega), if_neg (fun hh => h (hh _ (List.getElem_mem _)))]
/-- a bit, as it is asked for -/
theorem bit_shr {p : Pr} (h : Seq16 p.mask) {k : Nat} (hk : k < 16) : bits .and .i64 (p.mask / 2 ^ k) 1 = if bit p k = true then 1 else 0 := by
  obtain ⟨m, hm⟩ : ∃ m : Nat, p.mask = m := ⟨p.mask.toNat, by unfold Seq16 at h; omega⟩
  have hm2 : m < 65536 := by unfold Seq16 at h; omega
  have e : p.mask / 2 ^ k = ((m / 2 ^ k : Nat) : Int) := by rw [hm]; simp
  have hle : m / 2 ^ k ≤ m := Nat.div_le_self _ _
  have hb : bit p k = decide (m / 2 ^ k % 2 = 1) := by
    unfold bit
    rw [hm, Int.toNat_natCast, Nat.testBit_eq_decide_div_mod_eq]
  rw [e, hb]
  have hx : bits .and .i64 ((m / 2 ^ k : Nat) : Int) 1 = ((m / 2 ^ k % 2 : Nat) : Int) := by
    obtain ⟨q, hq⟩ : ∃ q : Nat, m / 2 ^ k = q := ⟨_, rfl⟩
    rw [hq]
    unfold bits
    have h : (BitVec.ofInt 64 (q : Int) &&& BitVec.ofInt 64 1).toNat = q % 2 := by
      rw [BitVec.ofInt_natCast, BitVec.toNat_and, BitVec.toNat_ofNat, Nat.mod_eq_of_lt (by omega)]
      have e : (BitVec.ofInt 64 1).toNat = 2 ^ 1 - 1 := by decide
      rw [e, Nat.and_two_pow_sub_one_eq_mod]
    show IntKind.i64.wrap (((BitVec.ofInt 64 (q : Int) &&& BitVec.ofInt 64 1).toNat : Nat) : Int) = _
    rw [h, IntKind.wrap_i64]
    omega
  rw [hx]
  rcases Nat.mod_two_eq_zero_or_one (m / 2 ^ k) with q | q <;> simp [q]
end Pl
theorem backNums_full (v : Value) (L : List Pr) (hL : 200 < L.length) (w : World) (h : IsPrs w v L) :
    Calls Tryd.prog 9 #[v] w fun e w' => e = .returned (.tuple #[.slice none 0 0, errV 4]) ∧ w = w' := by
  obtain ⟨oa, c, rfl, -⟩ := prs_read h
  have e1 : (200 : Int) < (L.length : Int) := by omega
  rw [errV_hit 4 (by decide)]
  clear h
  go_enter Tryd.func9, Tryd.ntmps9
  go_wp2_with fail
  go_ret2
  exact ⟨rfl, rfl⟩
/-- a pair in a box -/
def PrBox (w : World) (g : Nat) (b m : Int) : Prop := w.heap[g]? = some (.cells #[.int .i64 b, .int .i64 m] 53 (0, 0))
theorem PrBox.cells {w : World} {g : Nat} {b m : Int} (h : PrBox w g b m) : w.cell? ⟨g, 0, none⟩ = some (.int .i64 b) ∧ w.cell? ⟨g, 1, none⟩ = some (.int .i64 m) := ⟨obj_cell h rfl, obj_cell h rfl⟩
theorem abs_b {P : Program} {c : Code} {Q : Exit → Act → World → Prop} {a : Act} {W : World} (S : World → Prop) (h : S W) (k : ∀ wq, S wq → c.wp P Q a wq) : c.wp P Q a W := k W h
set_option maxRecDepth 100000 in
set_option maxHeartbeats 2000000 in
theorem backNums_1 (v : Value) (L : List Pr) (hL : L.length ≤ 200) (w : World) (h : IsPrs w v L) :
    Calls Tryd.prog 9 #[v] w fun e w' => Below w.heap.size w w' ∧ ((Pl.numF L = 1 ∧ e = .returned (.tuple #[.slice none 0 0, errV 1])) ∨
      (Pl.numF L = 0 ∧ ∃ (v' : Value), e = .returned (.tuple #[v', .nilIface]) ∧ ∃ R : List Int, IRow w' w.heap.size v' R ∧ Rises R ∧ ∀ i, i ∈ R ↔ i ∈ Pl.numsOf L)) := by
  obtain ⟨oL, cL, rfl, hlL, hcL, -, rL⟩ := prs_read h
  unfold maxLen at hcL
  have RL := Lib.hid (show ∀ y, Below w.heap.size w y → ∀ k (hk : k < L.length), ∃ g f, oL = some ⟨g, f, none⟩ ∧ y.cell? ⟨g, f + k * 2, none⟩ = some (.int .i64 L[k].base) ∧ y.cell? ⟨g, f + k * 2 + 1, none⟩ = some (.int .i64 L[k].mask) from fun y kk k hk => by
    obtain ⟨g, f, e, hb, q0, q1, -⟩ := rL k hk
    exact ⟨g, f, e, (kk.cell (p := ⟨g, f + k * 2, none⟩) hb).trans q0, (kk.cell (p := ⟨g, f + k * 2 + 1, none⟩) hb).trans q1⟩)
  have e0 : ¬ (200 : Int) < (L.length : Int) := by omega
  have R0 := Lib.hid (IRow.nil w w.heap.size)
  have K0 := Lib.hid (Below.refl w.heap.size w)
  clear rL h
  go_enter Tryd.func9, Tryd.ntmps9
  go_upto_region 5 with fail
  clear e0
  go_loopw [4, 6, 7, 14] (fun s4 _ _ s14 wr => ∃ (i : Nat) (A : List Int), i ≤ L.length ∧ s14 = .int .i64 i ∧ A.length ≤ 17 * i ∧ Hid (A = Pl.numsOf (L.take i)) ∧ Hid (∀ j (hj : j < i) (hl : j < L.length), Pl.prOk L[j]) ∧ Hid (IRow wr w.heap.size s4 A) ∧ Hid (Below w.heap.size w wr)) (fun _ _ _ s14 _ => L.length - (intOf s14).toNat)
  case atStart => exact ⟨0, [], by omega, rfl, by simp, Lib.hid rfl, Lib.hid (fun j hj => by omega), R0, K0⟩
  case round =>
    as_aux_lemma =>
    clear R0 K0
    obtain ⟨i, A, hi, rfl, hA, HA, HO, IR, KR⟩ := hrel
    by_cases hlt : i < L.length
    · have e1 : (i : Int) < (L.length : Int) := by omega
      obtain ⟨g, fo, rfl, q0, q1⟩ := RL.out _ KR.out i hlt
      have HS := Lib.hid (Pl.numsOf_succ hlt)
      have HB := Lib.hid (show ¬ Pl.prOk L[i] → Pl.numF L = 1 from fun h => Pl.numF_bad hL hlt h)
      have HG := Lib.hid (show Pl.prOk L[i] → ∀ j (hj : j < i + 1) (hl : j < L.length), Pl.prOk L[j] from fun h j hj hl => by
        by_cases e : j = i
        · subst e; exact h
        · exact HO.out j (by omega) hl)
      generalize L[i] = p at *
      obtain ⟨b, m⟩ := p
      dsimp only at q0 q1
      obtain ⟨o4, c4, rfl, -⟩ := intRow_read IR.out
      go_upto_region 7 with fail
      obtain ⟨gb, hgb⟩ : ∃ gb, wr.heap.size = gb := ⟨_, rfl⟩
      have hgw : w.heap.size ≤ gb := by rw [← hgb]; exact KR.out.size
      have kA : Below wr.heap.size wr (wr.alloc (.cells #[.int .i64 b, .int .i64 m] 53)) := (Below.refl _ _).alloc (Nat.le_refl _) _
      have PB0 : Hid ((wr.alloc (.cells #[.int .i64 b, .int .i64 m] 53)).heap[gb]? = some (.cells #[.int .i64 b, .int .i64 m] 53 (0, 0))) := Lib.hid (by rw [← hgb]; exact obj_new _ _)
      have IR0 := Lib.hid (IR.out.below kA)
      have KB0 := Lib.hid (KR.out.trans (kA.mono KR.out.size))
      refine abs_b (fun y => Hid (PrBox y gb b m) ∧ Hid (IRow y w.heap.size (.slice o4 A.length c4) A) ∧ Hid (Below w.heap.size w y)) ⟨PB0, IR0, KB0⟩ ?_
      rw [hgb]
      clear PB0 IR0 KB0 kA IR KR hgb q0 q1
      rintro y ⟨PB, IR, KR⟩
      obtain ⟨c0, c1⟩ := PB.out.cells
      have SQ := Lib.hid (seq_any b y)
      by_cases hb : Pl.Seq16 b
      case neg =>
        have hs : Pl.seq b = false := by rw [Pl.seq_b, decide_eq_false hb]
        have HF := Lib.hid (HB.out (fun h => hb h.1))
        clear hb HB HG
        go_wp2_with (go_at_call 17; refine SQ.out.mono ?_; rintro e w1 ⟨rfl, rfl⟩; rw [hs])
        go_ret2
        exact ⟨KR.out, .inl ⟨HF.out, by rw [errV_hit 1 (by decide)]; rfl⟩⟩
      have hs : Pl.seq b = true := (Pl.seq_16 b).2 hb
      by_cases hm : Pl.Seq16 m
      case neg =>
        have HF := Lib.hid (HB.out (fun h => hm h.2.1))
        have hm' : m < 0 ∨ (0 ≤ m ∧ 65535 < m) := by unfold Pl.Seq16 at hm; omega
        clear hb HB HG hm
        rcases hm' with h1 | ⟨h1, h2⟩
        all_goals
          go_wp2_with (go_at_call 17; refine SQ.out.mono ?_; rintro e w1 ⟨rfl, rfl⟩; rw [hs])
          go_ret2
          exact ⟨KR.out, .inl ⟨HF.out, by rw [errV_hit 1 (by decide)]; rfl⟩⟩
      have HBS := Lib.hid hb
      have HMS := Lib.hid hm
      obtain ⟨b0, b1⟩ := hb
      obtain ⟨m0, m1⟩ := hm
      obtain ⟨gN, capN, wN, hrun, ho, hk2, hkp⟩ := IR.out.more2 b (by omega) KR.out (Nat.le_refl _)
      have HRUN := Lib.hid hrun
      have KI := Lib.hid (show Pl.numK ⟨b, m⟩ 0 = [b] from rfl)
      have hcc : (y.alloc (.cells #[.int .i64 b] 3)).cell? ⟨gb, 0, none⟩ = some (.int .i64 b) := obj_cell (Below.heapAt ((Below.refl _ y).alloc (Nat.le_refl _) _) PB.out (lt_of_block PB.out)) rfl
      have PB1 := Lib.hid (show PrBox wN gb b m from hkp _ _ _ (by decide) PB.out)
      have IR1 := Lib.hid (show IRow wN w.heap.size (.slice (some ⟨gN, 0, none⟩) (A.length + 1) capN) (A ++ Pl.numK ⟨b, m⟩ 0) from ho)
      have KB1 := Lib.hid hk2
      clear hrun ho hk2 hkp
      go_upto_region 10 with (first
        | (go_at_call 17; refine SQ.out.mono ?_; rintro e w1 ⟨rfl, rfl⟩; rw [hs])
        | (at_builtin; refine Lib.wpList_append_run _ rfl (.tmp 33) (.tmp 36) 22 22 rfl _ _ rfl rfl _ _ HRUN.out ?_))
      refine abs_b (fun y => Hid (PrBox y gb b m) ∧ Hid (IRow y w.heap.size (.slice (some ⟨gN, 0, none⟩) (A.length + 1) capN) (A ++ Pl.numK ⟨b, m⟩ 0)) ∧ Hid (Below w.heap.size w y)) ⟨PB1, IR1, KB1⟩ ?_
      clear PB1 IR1 KB1 HRUN hcc c0 c1 SQ IR KR PB
      rintro y ⟨PB, IR, KR⟩
      have hA17 : A.length ≤ 3400 := by omega
      go_upto_region 11 with fail
      go_loopw [4, 7, 38] (fun s4 _ s38 z => ∃ (k : Nat) (C : List Int), k ≤ 16 ∧ s38 = .int .i64 k ∧ 1 ≤ C.length ∧ C.length ≤ k + 1 ∧ Hid (C = Pl.numK ⟨b, m⟩ k) ∧ Hid (PrBox z gb b m) ∧ Hid (IRow z w.heap.size s4 (A ++ C)) ∧ Hid (Below w.heap.size w z)) (fun _ _ s38 _ => 16 - (intOf s38).toNat)
      case atStart => exact ⟨0, Pl.numK ⟨b, m⟩ 0, by omega, rfl, (Pl.numK_len _ _).1, (Pl.numK_len _ _).2, Lib.hid rfl, PB, IR, KR⟩
      case round =>
        as_aux_lemma =>
        clear PB IR KR
        obtain ⟨k, C, hk, rfl, hC1, hC2, HC, PB, IR, KR⟩ := hrel
        have hACl : (A ++ C).length = A.length + C.length := by simp
        obtain ⟨g4, c4, hv4⟩ := Joins.ownsRow_form IR.out (by omega)
        subst hv4
        rw [hACl]
        obtain ⟨c0, c1⟩ := PB.out.cells
        by_cases hk16 : k < 16
        · have e2 : (k : Int) < 16 := by omega
          have BT := Lib.hid (Pl.bit_shr HMS.out hk16 (p := ⟨b, m⟩))
          have NS := Lib.hid (Pl.numK_succ ⟨b, m⟩ k)
          dsimp only at BT NS
          obtain ⟨bt, hbt⟩ : ∃ bt, Pl.bit ⟨b, m⟩ k = bt := ⟨_, rfl⟩
          rw [hbt] at BT NS
          have bt2 := BT.out
          clear hbt
          cases bt
          · have N2 := Lib.hid (show C = Pl.numK ⟨b, m⟩ (k + 1) from by rw [NS.out, HC.out]; simp)
            rw [if_neg (by decide)] at bt2
            clear BT NS
            go_wp2_with fail
            go_roundw
            case measure => simp only [intOf]; omega
            case rel => exact ⟨k + 1, C, by omega, by simp, hC1, by omega, N2, PB, by rw [← hACl]; exact IR, KR⟩
          · rw [if_pos rfl] at bt2
            have N2 := Lib.hid (show C ++ [b + (k : Int) + 1] = Pl.numK ⟨b, m⟩ (k + 1) from by rw [NS.out, HC.out]; simp)
            have i1 : IntKind.i64.wrap (b + (k : Int)) = b + (k : Int) := by rw [IntKind.wrap_i64]; omega
            have i2 : IntKind.i64.wrap (b + (k : Int) + 1) = b + (k : Int) + 1 := by rw [IntKind.wrap_i64]; omega
            obtain ⟨gN', capN', wN', hrun, ho, hk2, hkp⟩ := IR.out.more2 (b + (k : Int) + 1) (by omega) KR.out (Nat.le_refl _)
            rw [hACl] at hrun ho
            have HRUN := Lib.hid hrun
            have PB1 := Lib.hid (show PrBox wN' gb b m from hkp _ _ _ (by decide) PB.out)
            have IR1 := Lib.hid (show IRow wN' w.heap.size (.slice (some ⟨gN', 0, none⟩) (A.length + C.length + 1) capN') (A ++ (C ++ [b + (k : Int) + 1])) from by rw [← List.append_assoc]; exact ho)
            have KB1 := Lib.hid hk2
            clear hrun ho hk2 hkp BT NS
            go_wp2_with (at_builtin; refine Lib.wpList_append_run _ rfl (.tmp 47) (.tmp 53) 22 22 rfl _ _ rfl rfl _ _ HRUN.out ?_)
            go_roundw
            case measure => simp only [intOf]; omega
            case rel => exact ⟨k + 1, _, by omega, by simp, by simp, by simp; omega, N2, PB1, IR1, KB1⟩
        · obtain rfl : k = 16 := by omega
          have e2 : ¬ (((16 : Nat) : Int)) < 16 := by omega
          obtain ⟨D, x, hD⟩ : ∃ D x, C = D ++ [x] := by
            rcases last_of C with h | h
            · rw [h] at hC1; simp at hC1
            · exact h
          have PL := Lib.hid (Pl.prOk_last (p := ⟨b, m⟩) (x := x) HBS.out HMS.out (by rw [← Pl.numK_all, ← HC.out, hD]; simp))
          have N3 := Lib.hid (show A ++ C = Pl.numsOf (L.take (i + 1)) from by rw [HS.out, HA.out, HC.out, Pl.numK_all])
          have hDl : C.length = D.length + 1 := by rw [hD]; simp
          have hcx : wr.cell? ⟨g4, A.length + D.length, none⟩ = some (.int .i64 x) := by
            have := IR.out.cellAt (A.length + D.length) (by simp; omega)
            rw [this, hD]
            simp
          rw [hDl]
          have IR2 := Lib.hid (show IRow wr w.heap.size (.slice (some ⟨g4, 0, none⟩) (A.length + (D.length + 1)) c4) (A ++ C) from by have := IR.out; rw [hACl, hDl] at this; exact this)
          have SQ2 := Lib.hid (seq_any x wr)
          have i1 : (0 : Int) ≤ ((A.length + D.length : Nat) : Int) := by omega
          have i2 : ((A.length + D.length : Nat) : Int) < ((A.length + (D.length + 1) : Nat) : Int) := by omega
          have i3 : IntKind.i64.wrap (((A.length + (D.length + 1) : Nat) : Int) - 1) = ((A.length + D.length : Nat) : Int) := by rw [IntKind.wrap_i64]; omega
          clear hk16 c0 c1 hACl IR hD
          by_cases hx : Pl.Seq16 x
          · have hs : Pl.seq x = true := (Pl.seq_16 x).2 hx
            have G2 := Lib.hid (HG.out (PL.out.2 hx))
            clear hx
            go_wp2_with (go_at_call 17; refine SQ2.out.mono ?_; rintro e w1 ⟨rfl, rfl⟩; rw [hs])
            go_roundw
            case measure => simp only [intOf]; omega
            case rel => exact ⟨i + 1, _, by omega, by simp, by simp; omega, N3, G2, IR2, KR⟩
          · have hs : Pl.seq x = false := by rw [Pl.seq_b, decide_eq_false hx]
            have F2 := Lib.hid (HB.out (fun h => hx (PL.out.1 h)))
            clear hx
            go_wp2_with (go_at_call 17; refine SQ2.out.mono ?_; rintro e w1 ⟨rfl, rfl⟩; rw [hs])
            go_ret2
            exact ⟨KR.out, .inl ⟨F2.out, by rw [errV_hit 1 (by decide)]; rfl⟩⟩
    · have hie : i = L.length := by omega
      subst hie
      have e1 : ¬ (L.length : Int) < (L.length : Int) := by omega
      rw [List.take_length] at HA
      have hA34 : A.length ≤ 3400 := by omega
      have NF := Lib.hid (show Pl.numF L = 0 from by
        unfold Pl.numF
        rw [if_neg (by omega), if_pos]
        intro p hp
        obtain ⟨j, hj, rfl⟩ := List.mem_iff_getElem.1 hp
        exact HO.out j hj hj)
      clear hlt HO
      obtain ⟨o4, c4, rfl, -⟩ := intRow_read IR.out
      have SRT := Lib.hid (sortInts_own w.heap.size _ A wr (by omega) IR.out)
      have hsrt : (A.mergeSort fun x y => decide (x ≤ y)).Pairwise fun x y => x ≤ y := by
        have hp : (A.mergeSort fun x y => decide (x ≤ y)).Pairwise fun x y => decide (x ≤ y) = true := List.pairwise_mergeSort (fun a b c h1 h2 => by simp at *; omega) (fun a b => by simp; omega) A
        exact hp.imp fun {a b} h => by simpa using h
      have CR := Lib.hid (compact_rises hsrt)
      have SMM := Lib.hid (show ∀ i, i ∈ (A.mergeSort fun x y => decide (x ≤ y)) ↔ i ∈ A from fun i => List.mem_mergeSort)
      have SLN := Lib.hid (List.length_mergeSort (le := fun x y : Int => decide (x ≤ y)) A)
      clear hsrt
      go_wp2_with (first
        | (go_at_call 22; (with_reducible refine SRT.out.mono ?_); rintro e w2 ⟨rfl, h3, g3⟩; have HR3 := Lib.hid (show IRow w2 w.heap.size (.slice o4 A.length c4) (A.mergeSort fun x y => decide (x ≤ y)) from by unfold IRow; rw [SLN.out]; exact h3); have K2 := Lib.hid (KR.out.grown g3 KR.out.size (fun k e => (IR.out.lt k e).1)); clear h3 g3)
        | (go_at_call 23; (with_reducible refine (compact_own w.heap.size _ (A.mergeSort fun x y => decide (x ≤ y)) w2 (by rw [SLN.out]; omega) HR3.out).mono ?_); rintro e w3 ⟨v3, rfl, h4, g4⟩; have HR4 := Lib.hid h4; have K3 := Lib.hid (K2.out.grown g4 K2.out.size (fun k e => (HR3.out.lt k e).1)); clear h4 g4))
      go_ret2
      exact ⟨K3.out, .inr ⟨NF.out, _, rfl, _, HR4.out, CR.out.1, fun i => by rw [CR.out.2, SMM.out, HA.out]⟩⟩
end Go.Proofs.YthbcdpckckellaaDoor

/-! back.Pairs, back.Numbers: by one fault. -/
namespace Go.Proofs.YthbcdpckckellaaDoor
open Go.RowKit
set_option linter.unusedVariables false
set_option linter.unusedSimpArgs false
theorem Pl.pairF_cases (A : List Int) : (Pl.pairF A = 4 ∧ 200 < A.length) ∨ ((Pl.pairF A = 0 ∨ Pl.pairF A = 1) ∧ A.length ≤ 200) := by
  unfold Pl.pairF
  split
  · exact .inl ⟨rfl, by assumption⟩
  · split
    · exact .inr ⟨.inl rfl, by omega⟩
    · exact .inr ⟨.inr rfl, by omega⟩
theorem Pl.numF_cases (L : List Pr) : (Pl.numF L = 4 ∧ 200 < L.length) ∨ ((Pl.numF L = 0 ∨ Pl.numF L = 1) ∧ L.length ≤ 200) := by
  unfold Pl.numF
  split
  · exact .inl ⟨rfl, by assumption⟩
  · split
    · exact .inr ⟨.inl rfl, by omega⟩
    · exact .inr ⟨.inr rfl, by omega⟩
theorem Pl.pairF_all {A : List Int} (h : Pl.pairF A = 0) : ∀ n ∈ A, Pl.Seq16 n := by
  unfold Pl.pairF at h
  split at h
  · cases h
  · split at h
    · assumption
    · cases h
theorem Pl.PairsOf.num {A : List Int} {L : List Pr} (h : Pl.PairsOf (· ∈ A) L) (hA : Pl.pairF A = 0) : ∀ p ∈ L, p.Num := fun p hp => by
  obtain ⟨a1, a2, a3, -⟩ := h.ok p hp
  have := Pl.pairF_all hA _ a1
  unfold Pl.Seq16 at this
  exact ⟨⟨by omega, by omega⟩, by omega, by omega⟩
theorem backPairs_ok (v : Value) (A : List Int) (hA : Pl.pairF A = 0) (w : World) (h : Sl encI w v A) :
    Calls Tryd.prog 5 #[v] w fun e w' => ∃ (L : List Pr) (oa : Option Addr) (c : Nat), e = .returned (.tuple #[.slice oa L.length c, .nilIface]) ∧ IsPrs w' (.slice oa L.length c) L ∧ Pl.PairsOf (· ∈ A) L ∧ L.length ≤ A.length ∧ A.length ≤ 200 ∧ Pl.numF L = 0 ∧ Below w.heap.size w w' := by
  rcases Pl.pairF_cases A with ⟨h1, _⟩ | ⟨_, hl⟩
  · rw [hA] at h1; cases h1
  · refine (backPairs_1 v A hl w h).mono fun e w' ⟨k, hh⟩ => ?_
    rcases hh with ⟨h1, _⟩ | ⟨_, v', L, rfl, h2, h3, h4⟩
    · rw [hA] at h1; cases h1
    · have hp := prK_prs h2 (h3.num hA)
      obtain ⟨oa, c, rfl, -⟩ := prs_read hp
      exact ⟨L, oa, c, rfl, hp, h3, h4, hl, h3.fault hA h4, k⟩
theorem backPairs_bad (v : Value) (A : List Int) (hA : Pl.pairF A ≠ 0) (w : World) (h : Sl encI w v A) :
    Calls Tryd.prog 5 #[v] w fun e w' => e = .returned (.tuple #[.slice none 0 0, .iface 54 (.int .i64 (Pl.pairF A))]) ∧ Below w.heap.size w w' := by
  rcases Pl.pairF_cases A with ⟨h1, hl⟩ | ⟨_, hl⟩
  · exact (backPairs_full v A hl w h).mono fun e w' ⟨h2, h3⟩ => ⟨by rw [h2, h1]; rfl, h3 ▸ Below.refl _ _⟩
  · refine (backPairs_1 v A hl w h).mono fun e w' ⟨k, hh⟩ => ?_
    rcases hh with ⟨h1, h2⟩ | ⟨h1, _⟩
    · exact ⟨by rw [h2, h1]; rfl, k⟩
    · exact absurd h1 hA
theorem backNums_ok (v : Value) (L : List Pr) (hL : Pl.numF L = 0) (w : World) (h : IsPrs w v L) :
    Calls Tryd.prog 9 #[v] w fun e w' => ∃ (R : List Int) (oa : Option Addr) (c : Nat), e = .returned (.tuple #[.slice oa R.length c, .nilIface]) ∧ IRow w' w.heap.size (.slice oa R.length c) R ∧ Rises R ∧ (∀ i, i ∈ R ↔ i ∈ Pl.numsOf L) ∧ Below w.heap.size w w' := by
  rcases Pl.numF_cases L with ⟨h1, _⟩ | ⟨_, hl⟩
  · rw [hL] at h1; cases h1
  · refine (backNums_1 v L hl w h).mono fun e w' ⟨k, hh⟩ => ?_
    rcases hh with ⟨h1, _⟩ | ⟨_, v', rfl, R, h2, h3, h4⟩
    · rw [hL] at h1; cases h1
    · obtain ⟨oa, c, rfl, -⟩ := intRow_read h2
      exact ⟨R, oa, c, rfl, h2, h3, h4, k⟩
theorem backNums_bad (v : Value) (L : List Pr) (hL : Pl.numF L ≠ 0) (w : World) (h : IsPrs w v L) :
    Calls Tryd.prog 9 #[v] w fun e w' => e = .returned (.tuple #[.slice none 0 0, .iface 54 (.int .i64 (Pl.numF L))]) ∧ Below w.heap.size w w' := by
  rcases Pl.numF_cases L with ⟨h1, hl⟩ | ⟨_, hl⟩
  · exact (backNums_full v L hl w h).mono fun e w' ⟨h2, h3⟩ => ⟨by rw [h2, h1]; rfl, h3 ▸ Below.refl _ _⟩
  · refine (backNums_1 v L hl w h).mono fun e w' ⟨k, hh⟩ => ?_
    rcases hh with ⟨h1, h2⟩ | ⟨h1, _⟩
    · exact ⟨by rw [h2, h1]; rfl, k⟩
    · exact absurd h1 hL
end Go.Proofs.YthbcdpckckellaaDoor
