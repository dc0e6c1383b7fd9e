import Derived.RangeFuncNested
import Derived.RangeFuncBound
import Derived.RangeFuncCalls
import Derived.RangeFuncLeaves
import Derived.RangeFuncBox
import Derived.Shelf.RegionOpen
import Derived.WalkKit
import Derived.OwnWalkIn
import Derived.TacticsInMore
import Derived.StillTail
import Derived.StillTactics
import Derived.Test.YthbcdpckckellaaDoorBackT
import Derived.Test.YthbcdpckckellaaDoorChunkK
import Derived.Sort.CutIn
/-! A region that draws, in a round: as out of one. -/
namespace Go.Proofs.YthbcdpckckellaaDoor
open Go.RowKit
set_option linter.unusedVariables false
set_option linter.unusedSimpArgs false
def noDefer (ops : Array Oper) : Bool := ops.toList.all fun o => match o.op with | .defer _ => false | _ => true
theorem noDefer_spec {ops : Array Oper} (h : noDefer ops = true) : ∀ (i : Nat) (o : Oper), ops[i]? = some o → ∀ c, o.op ≠ .defer c := fun i o hi c e => by
  unfold noDefer at h
  rw [List.all_eq_true] at h
  have hm : o ∈ ops.toList := by
    obtain ⟨hl, rfl⟩ := Array.getElem?_eq_some_iff.1 hi
    simp
  have := h o hm
  rw [e] at this
  cases this
theorem wpIn_round {F : Fence} {n : Nat} {P : Program} {o : Oper} {a : Act} {w : World} {K : Act → World → Prop} {Q : Exit → Act → World → Prop} (l : Nat) (hd : ∀ c, o.op ≠ .defer c) (h : Oper.wpIn F n P o a w K Q) : Oper.wpIn (F.inRound l) n P o a w K Q := by
  unfold Oper.wpIn at *
  refine ⟨h.1, ?_⟩
  have h2 := h.2
  rw [Oper.semAt_plain F _ _ hd] at h2
  rw [Oper.semAt_plain (F.inRound l) _ _ hd]
  exact h2
theorem wpAnyIn_round {F : Fence} {n : Nat} {P : Program} {md : Region.Mode} {ops : Array Oper} {Q : Exit → Act → World → Prop} (l : Nat) (hd : ∀ (i : Nat) (o : Oper), ops[i]? = some o → ∀ c, o.op ≠ .defer c) :
    ∀ (fuel : Nat) (listed : Array Bool) (a : Act) (w : World), wpAnyIn F n P md ops Q fuel listed a w → wpAnyIn (F.inRound l) n P md ops Q fuel listed a w := by
  intro fuel
  induction fuel with
  | zero => exact fun _ _ _ h => h
  | succ fuel ih =>
    intro listed a w h
    refine ⟨h.1, fun i hi => ?_⟩
    have h2 := wpOpIn_mono (fun a w => ih _ a w) (h.2 i hi)
    unfold wpOpIn at h2 ⊢
    split
    · rename_i e; simpa [e] using h2
    · rename_i o ho
      simp only [ho] at h2
      split
      · rename_i hw
        simp only [hw, if_true] at h2
        exact wpIn_round l (hd i o ho) h2
      · rename_i hw
        simp only [hw] at h2
        exact h2
theorem stepIn_append_run {F : Fence} {n : Nat} {P : Program} {ops : Array Oper} {o : Oper} {a : Act} {w : World} {K : Act → World → Prop} {Q : Exit → Act → World → Prop} {E : Prop} (hgd : o.guard = none) (s x : Operand) (t tn : TypeId)
    (hop : o.op = .call { callee := .builtin .append, args := #[s, x], argTypes := #[t, tn] }) (vs vx : Value) (hs : a.eval s = vs) (hx : a.eval x = vx)
    (v' : Value) (w' : World) (hr : (Builtin.append_ #[t, tn] o.type #[vs, vx]).run P w = .ok v' w') (h : K (a.put o.dst v') w') :
    if Region.wanted o (yielded ops a.tmps) = true then Oper.wpIn F n P o a w K Q else E := by
  have hw : Region.wanted o (yielded ops a.tmps) = true := by simp [Region.wanted, hgd]
  rw [if_pos hw]
  unfold Oper.wpIn
  refine ⟨?_, ?_⟩
  · simp [Oper.about, hop, resolve, Target.leads, Sem.run_pure]
  · rw [Oper.semAt_plain F _ _ (by rw [hop]; intro c hc'; cases hc')]
    simp [execOp, hop, resolve, invoke, builtin, hs, hx, hr, Result.andThen]
    exact h
end Go.Proofs.YthbcdpckckellaaDoor

/-! A region that draws, in a round, of quiet operations and a straight tail. -/
namespace Go.Proofs.YthbcdpckckellaaDoor
open Go.RowKit
set_option linter.unusedVariables false
set_option linter.unusedSimpArgs false
section
variable {P : Program} {ops : Array Oper} {md : Region.Mode} {w : World} {m : Nat}
theorem wpIn_of_still {o : Oper} {a : Act} {K : Act → Prop} {K' : Act → World → Prop} {Q' : Exit → Act → World → Prop} (h : ∀ a, K a → K' a w) (hd : ∀ c, o.op ≠ .defer c) (hh : o.still P a w K) :
    Oper.wpIn Fence.wide m P o a w K' Q' := by
  unfold Oper.wpIn
  refine ⟨fun _ _ => trivial, ?_⟩
  rw [Oper.semAt_plain _ _ _ hd]
  unfold Oper.still at hh
  generalize (execOp a.eval o).run P w = r at *
  cases r with
  | ok x w' =>
    cases x <;> simp only [Oper.stillUpon] at hh
    case value v => obtain ⟨rfl, q⟩ := hh; exact h _ q
    case skip => obtain ⟨rfl, q⟩ := hh; exact h _ q
    case enter f args =>
      obtain ⟨rfl, v, hc, q⟩ := hh
      refine ⟨fun e => by simp [Fence.wide] at e, (callsIn_wide.2 hc).mono fun e w'' he => ?_⟩
      obtain ⟨rfl, rfl⟩ := he
      exact h _ q
  | halt x w' => exact hh.elim
theorem wpOpIn_of_stOp (hnd : noDefer ops = true) {i : Nat} {a : Act} {K : Act → Prop} {K' : Act → World → Prop} {Q' : Exit → Act → World → Prop} (h : ∀ a, K a → K' a w) (hh : stOp P ops w i K a) :
    wpOpIn Fence.wide m P ops Q' i K' a w := by
  unfold stOp at hh
  unfold wpOpIn
  split
  · rename_i ho; simp only [ho] at hh; exact h _ hh
  · rename_i o ho
    simp only [ho] at hh
    split
    · rename_i hw; simp only [hw, if_true] at hh; exact wpIn_of_still h (noDefer_spec hnd i o ho) hh
    · rename_i hw; simp only [hw] at hh; exact ⟨fun _ _ => trivial, h _ hh⟩
theorem wpAnyIn_of_head (hnd : noDefer ops = true) {n g : Nat} {L : Array Bool → Act → Prop} {Q' : Exit → Act → World → Prop} (hL : ∀ listed a, L listed a → wpAnyIn Fence.wide m P md ops Q' g listed a w) :
    ∀ (f : Nat) (listed : Array Bool) (a : Act), wpAnyL P md ops w n L f listed a → wpAnyIn Fence.wide m P md ops Q' (f + g) listed a w
  | 0, listed, a, h => by rw [Nat.zero_add]; exact hL _ _ h
  | f + 1, listed, a, h => by
    rw [show f + 1 + g = (f + g) + 1 by omega]
    exact ⟨fun h0 => absurd h0 h.1, fun i hi => wpOpIn_of_stOp hnd (fun a' h' => wpAnyIn_of_head hnd hL f _ a' h') (h.2 i hi).2⟩
theorem wpAnyIn_of_seq {F : Fence} {Q' : Exit → Act → World → Prop} : ∀ (l : List Oper) (k : Nat) (listed : Array Bool) (a : Act) (w : World), (∀ j, l[j]? = ops[k + j]?) →
    Region.seqB md ops l.length k listed = true → wpListIn F m P ops Q' l a w → wpAnyIn F m P md ops Q' l.length listed a w
  | [], _, _, _, _, _, hB, h => ⟨by simpa [Region.seqB] using hB, h⟩
  | o :: l, k, listed, a, w, hl, hB, h => by
    have h0 : ops[k]? = some o := by simpa using (hl 0).symm
    simp only [List.length_cons, Region.seqB, Bool.and_eq_true, decide_eq_true_eq] at hB
    refine ⟨fun h1 => (by rw [hB.1] at h1; cases h1), fun i hi => ?_⟩
    rw [hB.1] at hi
    have hik : i = k := by simpa using hi
    subst hik
    have hw : wpOpIn F m P ops Q' i (wpListIn F m P ops Q' l) a w := by unfold wpOpIn; simp only [h0]; exact h
    exact wpOpIn_mono (fun a' w' h' => wpAnyIn_of_seq l (i + 1) _ a' w' (fun j => by have := hl (j + 1); simpa [Nat.add_assoc, Nat.add_comm 1 j] using this) hB.2 h') hw
theorem wpIn_region_still_tail {id : Nat} {Q : Exit → Act → World → Prop} {a : Act} {w : World} {l : List Oper} (lb n : Nat) (hm : P.follows .mixedOrders = true) (hB : Region.lexTailB .any l.toArray n = true) (hnd : noDefer l.toArray = true)
    (h : wpStill P l.toArray { w with drawn := w.drawn + 1 } (fun a' => wpListIn Fence.wide m P l.toArray Q (l.drop n) a' { w with drawn := w.drawn + 1 }) (l.take n) a) : (Code.region id l.toArray true).wpIn (Fence.wide.inRound lb) m P Q a w := by
  simp only [Region.lexTailB, Bool.and_eq_true, decide_eq_true_eq] at hB
  obtain ⟨⟨⟨⟨hsel, hn⟩, hs⟩, hc⟩, hlex⟩ := hB
  have hn' : n < l.length := by simpa using hn
  have htl : (l.take n).length = n := by simp; omega
  have hdl : (l.drop n).length = l.toArray.size - n := by simp
  have inv0 : HeadInv .any l.toArray n (Array.replicate l.toArray.size false) :=
    ⟨by simp, fun j oj _ hl => (by rw [getD_replicate_false] at hl; cases hl), fun t _ ht => getD_in (by simpa using ht) (getD_replicate_false _ _)⟩
  have H := wpAnyL_lex (md := .any) (g := l.toArray.size - n) hsel hs hc hn (l.take n) 0 _ a (fun j hj => by
    have hj' : j < n := by rw [htl] at hj; exact hj
    simp [hj']) (by simpa using htl) inv0 (by rw [htl]; exact hlex) h
  refine wpIn_region_any hm (wpAnyIn_round lb (noDefer_spec hnd) _ _ _ _ ?_)
  have := wpAnyIn_of_head (m := m) hnd (Q' := Q) (g := l.toArray.size - n) (fun listed' a' hL => by
    have := wpAnyIn_of_seq (m := m) (md := .any) (F := Fence.wide) (Q' := Q) (l.drop n) n listed' a' { w with drawn := w.drawn + 1 } (fun j => by simp [List.getElem?_drop]) (by rw [hdl]; exact hL.1) hL.2
    rwa [hdl] at this) _ _ _ H
  rw [htl, show n + (l.toArray.size - n) = l.toArray.size by omega] at this
  exact this
theorem AllReadyIn.still {Q : Exit → Act → World → Prop} {fuel : Nat} {listed : Array Bool} {a : Act} {i : Nat} {o : Oper} {rs : List Nat} (ho : ops[i]? = some o) (hnd : noDefer ops = true)
    (h : ∀ K : Act → Prop, (∀ a, wpAnyIn Fence.wide m P md ops Q fuel (listed.setIfInBounds i true) a w → K a) → if Region.wanted o (yielded ops a.tmps) = true then o.still P a w K else K (a.put o.dst undef))
    (hs : AllReadyIn Fence.wide m P md ops Q fuel listed a w rs) : AllReadyIn Fence.wide m P md ops Q fuel listed a w (i :: rs) := fun j hj => by
  rcases List.mem_cons.1 hj with rfl | hj
  · refine wpOpIn_of_stOp hnd (K := fun a' => wpAnyIn Fence.wide m P md ops Q fuel (listed.setIfInBounds j true) a' w) (fun _ q => q) ?_
    unfold stOp
    simp only [ho]
    exact h _ (fun _ q => q)
  · exact hs j hj
theorem wpListIn_append_run {F : Fence} {rest : List Oper} {o : Oper} {a : Act} {Q : Exit → Act → World → Prop} (hgd : o.guard = none) (s x : Operand) (t tn : TypeId)
    (hop : o.op = .call { callee := .builtin .append, args := #[s, x], argTypes := #[t, tn] }) (vs vx : Value) (hs : a.eval s = vs) (hx : a.eval x = vx)
    (v' : Value) (w' : World) (hr : (Builtin.append_ #[t, tn] o.type #[vs, vx]).run P w = .ok v' w') (h : wpListIn F m P ops Q rest (a.put o.dst v') w') : wpListIn F m P ops Q (o :: rest) a w :=
  wpListIn_step fun K hK => stepIn_append_run hgd s x t tn hop vs vx hs hx v' w' hr (hK _ _ h)
end
end Go.Proofs.YthbcdpckckellaaDoor

/-! back.Read, where numbers are lost. -/
namespace Go.Proofs.YthbcdpckckellaaDoor
open Go.RowKit Go.Shelf
set_option linter.unusedVariables false
set_option linter.unusedSimpArgs false
attribute [local go_sem] Oper.semAt_some
/-- what has been read so far -/
structure ReadI (n₀ M : Nat) (w : World) (N N2 L0 Bs Bn : Nat) (k t : Int) (bv : Value) (pre : List Pr) (W : World) : Prop where
  ex : ∃ v, W.heap[L0]? = some (.cells #[v] 23 (0, 0)) ∧ prK.Own W M v pre
  bz : BkBox W N 0 0 (.slice none 0 0) 0
  bx : BkBox W N2 k t (.slice none 0 0) 0
  kb : Below n₀ w W
  sb : W.heap[Bs]? = some (.cells #[bv] 26 (0, 0))
  nb : W.heap[Bn]? = some (.cells #[.int .i64 4] 3 (0, 0))
theorem ReadI.own {n₀ M : Nat} {w : World} {N N2 L0 Bs Bn : Nat} {k t : Int} {bv : Value} (hn : n₀ ≤ w.heap.size) {B : Nat} (hB : n₀ ≤ B) : OwnFrom B (fun (pre : List Pr) W => ReadI n₀ M w N N2 L0 Bs Bn k t bv pre W) := fun pre X Y row h hg hr => by
  have kk : ∀ (j : Nat) (cs : Array Value) (T : TypeId) (fz : Nat × Nat), X.heap[j]? = some (.cells cs T fz) → Y.heap[j]? = some (.cells cs T fz) := fun j cs T fz e => by
    rw [hg.block j (lt_of_block e) (fun e' => by
      obtain ⟨_, o, ho, hc⟩ := hr j e'.symm
      rw [e] at ho; cases ho; cases hc)]
    exact e
  obtain ⟨v, h1, h2⟩ := h.ex
  refine ⟨⟨v, kk _ _ _ _ h1, h2.keep (fun g e _ _ => ?_)⟩, kk _ _ _ _ h.bz, kk _ _ _ _ h.bx, h.kb.grown hg (Nat.le_trans hn h.kb.size) (fun k e => Nat.le_trans hB (hr k e).1), kk _ _ _ _ h.sb, kk _ _ _ _ h.nb⟩
  rcases h2.2 with ⟨rfl, _⟩ | ⟨g', cap, cur, rfl, _, hg', _⟩
  · cases e
  · simp [Value.ownBlock] at e; subst e
    rw [kk _ _ _ _ hg', hg']
theorem ReadI.drew {n₀ M : Nat} {w : World} {N N2 L0 Bs Bn : Nat} {k t : Int} {bv : Value} {pre : List Pr} {W : World} (h : ReadI n₀ M w N N2 L0 Bs Bn k t bv pre W) : ReadI n₀ M w N N2 L0 Bs Bn k t bv pre W.drew := by
  obtain ⟨v, h1, h2⟩ := h.ex
  exact ⟨⟨v, h1, h2⟩, h.bz, h.bx, Below.drewN h.kb 1, h.sb, h.nb⟩
theorem ReadI.app {n₀ M : Nat} {w : World} {N N2 L0 Bs Bn : Nat} {k t : Int} {bv : Value} {pre : List Pr} {W : World} (h : ReadI n₀ M w N N2 L0 Bs Bn k t bv pre W) (x : Pr) (hM : M ≤ W.heap.size) (hnM : n₀ ≤ M) (hL : n₀ ≤ L0) (hl : pre.length ≤ 999999) :
    ∃ (v vN : Value) (wN : World), W.cell? ⟨L0, 0, none⟩ = some v ∧ (Builtin.append_ #[23, 23] 23 #[v, .slice (some ⟨W.heap.size, 0, none⟩) 1 1]).run Tryd.prog (W.alloc (.cells #[.int .i64 x.base, .int .i64 x.mask] 53)) = .ok vN wN ∧
      wN.cell? ⟨L0, 0, none⟩ = some v ∧ wN.frozen? ⟨L0, 0, none⟩ = false ∧ (∃ g cap, vN = .slice (some ⟨g, 0, none⟩) (pre.length + 1) cap) ∧ KeepsOthers W (wN.setCell ⟨L0, 0, none⟩ vN) ∧ KpC n₀ Bs Bn W (wN.setCell ⟨L0, 0, none⟩ vN) ∧ ReadI n₀ M w N N2 L0 Bs Bn k t bv (pre ++ [x]) (wN.setCell ⟨L0, 0, none⟩ vN) := by
  obtain ⟨v, h1, h2⟩ := h.ex
  have BA : Below W.heap.size W (W.alloc (.cells #[.int .i64 x.base, .int .i64 x.mask] 53)) := (Below.refl _ _).alloc (Nat.le_refl _) _
  obtain ⟨vN, wN, hr, ho, hgr, hbk⟩ := RecK.run_one prK_ok (W.alloc (.cells #[.int .i64 x.base, .int .i64 x.mask] 53)) M v x pre (h2.below BA) W.heap.size (obj_new _ _) hl (by simp; omega)
  have hlen : (pre ++ [x]).length = pre.length + 1 := by simp
  have hform := Joins.ownsRow_form ho (by omega)
  rw [hlen] at hform
  have hrow : ∀ g, v.ownBlock = some g → ∃ cs, W.heap[g]? = some (.cells cs 53 (0, 0)) ∧ M ≤ g := fun g e => by
    rcases h2.2 with ⟨rfl, _⟩ | ⟨g', cap, cur, rfl, hb, hg', _⟩
    · cases e
    · simp [Value.ownBlock] at e; subst e; exact ⟨_, hg', hb⟩
  have other : ∀ (j : Nat) (cs : Array Value) (T : TypeId), T ≠ 53 → W.heap[j]? = some (.cells cs T (0, 0)) → wN.heap[j]? = some (.cells cs T (0, 0)) := fun j cs T hT e => by
    rw [hgr.block j (by have := lt_of_block e; simp; omega) (fun e' => by
      obtain ⟨cs', q, _⟩ := hrow j e'.symm
      rw [e] at q; simp at q; exact hT q.2)]
    exact (BA.block j (lt_of_block e)).trans e
  have hL1 := other L0 _ _ (by decide) h1
  have kbW : Below n₀ W wN := (BA.mono (by omega)).grown hgr (by simp; omega) (fun g e => by obtain ⟨cs, _, q⟩ := hrow g e; omega)
  have ko : KeepsOthers W wN := by
    refine (KeepsOthers.alloc _ _).trans (KeepsOthers.of_grownBy hgr (fun j o e q => ?_))
    obtain ⟨cs, q', _⟩ := hrow j e
    have := BA.block j (lt_of_block q')
    rw [this, q'] at q; cases q; rfl
  have set_ne : ∀ (j : Nat) (cs : Array Value) (T : TypeId), T ≠ 23 → wN.heap[j]? = some (.cells cs T (0, 0)) → (wN.setCell ⟨L0, 0, none⟩ vN).heap[j]? = some (.cells cs T (0, 0)) := fun j cs T hT e => by
    rw [Below.heap_setCell _ _ _ _ (fun e' => by subst e'; rw [hL1] at e; simp at e; exact hT e.2.symm)]
    exact e
  refine ⟨v, vN, wN, obj_cell h1 rfl, hr, obj_cell hL1 rfl, obj_free hL1 0, hform, ko.trans (KeepsOthers.setCell _ _ _), ⟨Below.setCell kbW hL _, ?_, ?_⟩, ⟨⟨vN, obj_set hL1 0 _, ?_⟩, set_ne _ _ _ (by decide) (other _ _ _ (by decide) h.bz), set_ne _ _ _ (by decide) (other _ _ _ (by decide) h.bx), Below.setCell (h.kb.trans kbW) hL _, set_ne _ _ _ (by decide) (other _ _ _ (by decide) h.sb), set_ne _ _ _ (by decide) (other _ _ _ (by decide) h.nb)⟩⟩
  · rw [set_ne _ _ _ (by decide) (other _ _ _ (by decide) h.sb), h.sb]
  · rw [set_ne _ _ _ (by decide) (other _ _ _ (by decide) h.nb), h.nb]
  · refine ho.keep (fun g e _ _ => ?_)
    obtain ⟨g', cap, rfl⟩ := hform
    rcases ho.2 with ⟨e2, _⟩ | ⟨g2, cap2, cur, e2, _, hg2, _⟩
    · cases e2
    · have e3 : g' = g2 := by simp at e2; exact e2.1
      subst e3
      simp [Value.ownBlock] at e; subst e
      rw [set_ne _ _ _ (by decide) hg2, hg2]
/-- the pair of four bytes -/
def prOfB (b : List UInt8) : Pr := ⟨Pl.getB (b.take 2), Pl.getB (b.drop 2)⟩
theorem prs_map (l : List UInt8) (h : 4 ∣ (l.drop 2).length) : ((List.range (chunkN 4 (l.drop 2).length)).map (chunkAt 4 (l.drop 2))).map prOfB = Pl.prsOf l := by
  unfold Pl.prsOf
  rw [List.map_map]
  have e : chunkN 4 (l.drop 2).length = (l.length - 2) / 4 := by
    obtain ⟨m, hm⟩ := h
    rw [List.length_drop] at *
    unfold chunkN
    omega
  rw [e]
  refine List.map_congr_left fun r _ => ?_
  show prOfB (chunkAt 4 (l.drop 2) r) = Pl.prAt l r
  unfold prOfB Pl.prAt chunkAt
  rw [List.drop_drop]
theorem kpC_b {n₀ Bs Bn B : Nat} (h : n₀ ≤ B ∧ Bs < B ∧ Bn < B) (W : World) (l : Nat) (o o' : Obj) (hl : B ≤ l) (ho : W.heap[l]? = some o) (h1 : o.isCells = false) (h2 : o.isWalk = false) : KpC n₀ Bs Bn W (W.putObj l o') := by
  have hg := grownBy_putObj' W l o'
  have hlt : l < W.heap.size := lt_of_block ho
  refine ⟨(Below.refl _ _).grown hg (by omega) (fun k e => by cases e; omega), ?_, ?_⟩
  · exact hg.block Bs (by omega) (by simp; omega)
  · exact hg.block Bn (by omega) (by simp; omega)
theorem end_box {w : World} {N D : Nat} {k t val : Int} {lv : Value} (h : BkBox w N k t lv val) (hD : D ≠ N) (o : Obj) : BkBox (w.putObj D o) N k t lv val := by
  have hg := grownBy_putObj' w D o
  unfold BkBox at *
  rw [hg.block N (lt_of_block h) (by simp; omega)]; exact h
theorem set4_ne (w : World) (N D : Nat) (h : D ≠ N) (a b c d : Value) : ((((w.setCell ⟨N, 0, none⟩ a).setCell ⟨N, 1, none⟩ b).setCell ⟨N, 2, none⟩ c).setCell ⟨N, 3, none⟩ d).heap[D]? = w.heap[D]? := by
  rw [Below.heap_setCell _ _ _ _ h, Below.heap_setCell _ _ _ _ h, Below.heap_setCell _ _ _ _ h, Below.heap_setCell _ _ _ _ h]
theorem set4_sl {w : World} {N : Nat} {v : Value} {A : List Int} (h : Sl encI w v A) (hb : ∀ b f c, v = .slice (some ⟨b, f, none⟩) A.length c → A ≠ [] → b ≠ N) (a b c d : Value) : Sl encI ((((w.setCell ⟨N, 0, none⟩ a).setCell ⟨N, 1, none⟩ b).setCell ⟨N, 2, none⟩ c).setCell ⟨N, 3, none⟩ d) v A := by
  rcases h with h | ⟨b', f', c', rfl, h1, h2, h3⟩
  · exact .inl h
  · refine .inr ⟨b', f', c', rfl, h1, h2, fun i hi => ?_⟩
    have hne := hb b' f' c' rfl (by intro e; rw [e] at hi; simp at hi)
    rw [World.cell?_of_block (w := w) (a := ⟨b', f' + i, none⟩) (set4_ne w N b' hne a b c d)]
    exact h3 i hi
theorem abs_iu {F : Fence} {n : Nat} {P : Program} {c : Code} {Q : Exit → Act → World → Prop} {a : Act} {W : World} (S : World → Prop) (h : S W) (k : ∀ wq, S wq → c.wpIn F n P Q a wq) : c.wpIn F n P Q a W := k W h
set_option maxRecDepth 100000 in
set_option maxHeartbeats 16000000 in
theorem backRead_1 (v : Value) (l : List UInt8) (w : World) (hv : IsBytes w v l) (hl : l.length ≤ 2000000) (h : ¬ l.length < Pl.rdSize l) (h1 : (l.getD 0 0).toNat = 1) :
    Calls Tryd.prog 14 #[v] w (ReadBE w.heap.size l w) := by
  have hsz : 6 ≤ l.length ∧ 4 ∣ l.length - 2 ∧ 2 ≤ l.length := by
    unfold Pl.rdSize at h
    by_cases q : l.length < 2
    · rw [if_pos q] at h; omega
    · rw [if_neg q, if_pos h1] at h
      omega
  obtain ⟨l6, l4, l2⟩ := hsz
  obtain ⟨b, off, cap, rfl, hlc, hcm, _⟩ := bytes_long hv (by omega)
  have hcm' := hcm
  unfold maxLen at hcm
  have kA : Below w.heap.size w (w.alloc (.cells #[.int .i64 0, .int .i64 0, .slice none 0 0, .int .i64 0] 25)) := (Below.refl _ _).alloc (Nat.le_refl _) _
  have SZ := Lib.hid (backSize_any _ l (w.alloc (.cells #[.int .i64 0, .int .i64 0, .slice none 0 0, .int .i64 0] 25)) (hv.below kA) (by omega))
  have HL := Lib.hid h
  have HV := Lib.hid hv
  obtain ⟨s, hs⟩ : ∃ s, Pl.rdSize l = s := ⟨_, rfl⟩
  have HS := Lib.hid hs
  rw [hs] at SZ h
  have e1 : ¬ (l.length : Int) < (s : Int) := by omega
  clear hv hs h
  refine (callsIn_wide (n := 8)).1 ?_
  have hfS : Fence.wide.fn 14 := trivial
  have hfC : Fence.wide.fn 29 := trivial
  have hfK : Fence.wide.fn 30 := trivial
  have hfG : Fence.wide.fn 31 := trivial
  have hfN : Fence.wide.fn 9 := trivial
  have hfE : Fence.wide.fn 12 := trivial
  have hfQ : Fence.wide.fn 32 := trivial
  have hn1 : 1 ≤ 8 := by omega
  refine callsIn_of_wp_marks Tryd.func14 rfl hfS ?_ rfl
  simp only [Tryd.ntmps14, List.size_toArray, List.length_cons, List.length_nil, Nat.reduceAdd, Nat.reduceSub, Array.replicate_succ, Array.replicate_zero, List.push_toArray, List.append_toArray, List.nil_append, List.cons_append]
  gi_upto_region 3 with (gi_at_call 29; refine (callsIn_wide.2 SZ.out).mono ?_; rintro e w2 ⟨rfl, rfl⟩)
  obtain ⟨N, hN⟩ : ∃ N, w.heap.size = N := ⟨_, rfl⟩
  have BX : Hid (BkBox (w.alloc (.cells #[.int .i64 0, .int .i64 0, .slice none 0 0, .int .i64 0] 25)) N 0 0 (.slice none 0 0) 0) := Lib.hid (by rw [← hN]; exact obj_new _ _)
  refine abs_iu (fun y => Hid (BkBox y N 0 0 (.slice none 0 0) 0) ∧ Hid (Below N w y)) ⟨BX, Lib.hid (by rw [← hN]; exact kA)⟩ ?_
  try rw [hN]
  have HN := Lib.hid hN
  clear BX kA hN SZ e1
  rintro y ⟨BX, KY⟩
  as_aux_lemma =>
  have HVY := Lib.hid (HV.out.below (by rw [HN.out]; exact KY.out))
  have c0 := bytes_at HVY.out 0 (by omega)
  have c1 := bytes_at HVY.out 1 (by omega)
  rw [Nat.add_zero] at c0
  have i0 : (0 : Int) < (l.length : Int) := by omega
  have i1 : (1 : Int) < (l.length : Int) := by omega
  obtain ⟨x0, hx0⟩ : ∃ x, l.getD 0 0 = x := ⟨_, rfl⟩
  obtain ⟨x1, hx1⟩ : ∃ x, l.getD 1 0 = x := ⟨_, rfl⟩
  rw [hx0] at c0 h1
  rw [hx1] at c1
  have HX0 := Lib.hid hx0
  have HX1 := Lib.hid hx1
  have z0 : encB x0 = .int .u8 1 := by unfold encB; rw [h1]; rfl
  have z1 : encB x1 = .int .u8 (x1.toNat : Int) := rfl
  rw [z0] at c0
  rw [z1] at c1
  clear hx0 hx1 z0 z1
  have n0 : 0 < l.length := by omega
  have n1 : 1 < l.length := by omega
  have hbl : b < y.heap.size := Sl.lt c0
  have kB : Below y.heap.size y (y.alloc (.cells #[.int .i64 0, .int .i64 0, .slice none 0 0, .int .i64 0] 25)) := (Below.refl _ _).alloc (Nat.le_refl _) _
  have d0 : (y.alloc (.cells #[.int .i64 0, .int .i64 0, .slice none 0 0, .int .i64 0] 25)).cell? ⟨b, off, none⟩ = some (.int .u8 1) := (kB.cell (p := ⟨b, off, none⟩) hbl).trans c0
  have d1 : (y.alloc (.cells #[.int .i64 0, .int .i64 0, .slice none 0 0, .int .i64 0] 25)).cell? ⟨b, off + 1, none⟩ = some (.int .u8 (x1.toNat : Int)) := (kB.cell (p := ⟨b, off + 1, none⟩) hbl).trans c1
  clear hbl kB
  have hmx : Tryd.prog.follows .mixedOrders = true := by kernel_rfl
  have W1 : wrap64 (x1.toNat : Int) = (x1.toNat : Int) := by have := x1.toNat_lt; unfold wrap64; omega
  gi_big_region_o
  rw [W1]
  clear W1 d0 d1 c0 c1 n0 n1 i0 i1
  obtain ⟨N2, hN2⟩ : ∃ N2, y.heap.size = N2 := ⟨_, rfl⟩
  have hNN : N < N2 := by rw [← hN2]; exact lt_of_block BX.out
  have kB : Below y.heap.size y (y.alloc (.cells #[.int .i64 1, .int .i64 (x1.toNat : Int), .slice none 0 0, .int .i64 0] 25)).drew := Below.drewN ((Below.refl _ _).alloc (Nat.le_refl _) _) 1
  have BX2 : Hid (BkBox (y.alloc (.cells #[.int .i64 1, .int .i64 (x1.toNat : Int), .slice none 0 0, .int .i64 0] 25)).drew N2 1 x1.toNat (.slice none 0 0) 0) := Lib.hid (by rw [← hN2]; exact obj_new _ _)
  have BX3 : Hid (BkBox (y.alloc (.cells #[.int .i64 1, .int .i64 (x1.toNat : Int), .slice none 0 0, .int .i64 0] 25)).drew N 0 0 (.slice none 0 0) 0) := Lib.hid (Below.heapAt kB BX.out (lt_of_block BX.out))
  have KY3 := Lib.hid (KY.out.trans (kB.mono (by omega)))
  gi_upto_region 4 with fail
  refine abs_iu (fun z => Hid (BkBox z N2 1 x1.toNat (.slice none 0 0) 0) ∧ Hid (BkBox z N 0 0 (.slice none 0 0) 0) ∧ Hid (Below N w z)) ⟨BX2, BX3, KY3⟩ ?_
  try rw [hN2]
  clear BX2 BX3 KY3 kB hN2 BX KY HVY
  rintro y ⟨BX, BZ, KY⟩
  as_aux_lemma =>
  obtain ⟨c0, c1, c2, c3⟩ := BX.out.cells
  obtain ⟨t, ht⟩ : ∃ t : Int, (x1.toNat : Int) = t := ⟨_, rfl⟩
  rw [ht] at BX c1 ⊢
  have TT := Lib.hid ht
  have hc2 : ¬ cap = 2 := by omega
  have i2 : (2 : Int) ≤ (l.length : Int) := by omega
  have i3 : (l.length : Int) ≤ (cap : Int) := by omega
  gi_upto_region 6 with fail
  gi_wp2_with (gi_at_call 30; refine (chunk_in Fence.wide _ hfK rfl (some ⟨b, off + 2, none⟩) (l.length - 2) (cap - 2) 4 (by omega) _).mono ?_; rintro e w4 ⟨rfl, rfl⟩)
  obtain ⟨L0, hL0⟩ : ∃ L0, y.heap.size = L0 := ⟨_, rfl⟩
  obtain ⟨Y, hY⟩ : ∃ Y, (((y.alloc (.cells #[.slice none 0 0] 23)).alloc (.cells #[.slice (some ⟨b, off + 2, none⟩) (l.length - 2) (cap - 2)] 26)).alloc (.cells #[.int .i64 4] 3)) = Y := ⟨_, rfl⟩
  have hNy : N2 < L0 := by rw [← hL0]; exact lt_of_block BX.out
  have kY : Below L0 y Y := by
    rw [← hY]
    exact (((Below.refl _ y).alloc (by omega) _).alloc (by simp; omega) _).alloc (by simp; omega) _
  have hYs : Y.heap.size = L0 + 3 := by rw [← hY, ← hL0]; simp
  have SI : ReadI N L0 Y N N2 L0 (L0 + 1) (L0 + 1 + 1) 1 t (.slice (some ⟨b, off + 2, none⟩) (l.length - 2) (cap - 2)) [] Y := by
    have b1 : Below L0 y (y.alloc (.cells #[.slice none 0 0] 23)) := (Below.refl _ _).alloc (by omega) _
    have b2 : Below (L0 + 1) (y.alloc (.cells #[.slice none 0 0] 23)) ((y.alloc (.cells #[.slice none 0 0] 23)).alloc (.cells #[.slice (some ⟨b, off + 2, none⟩) (l.length - 2) (cap - 2)] 26)) := (Below.refl _ _).alloc (by simp; omega) _
    have b3 : Below (L0 + 1 + 1) ((y.alloc (.cells #[.slice none 0 0] 23)).alloc (.cells #[.slice (some ⟨b, off + 2, none⟩) (l.length - 2) (cap - 2)] 26)) Y := by rw [← hY]; exact (Below.refl _ _).alloc (by simp; omega) _
    have o1 : (y.alloc (.cells #[.slice none 0 0] 23)).heap[L0]? = some (.cells #[.slice none 0 0] 23 (0, 0)) := by rw [← hL0]; exact obj_new _ _
    have o2 : ((y.alloc (.cells #[.slice none 0 0] 23)).alloc (.cells #[.slice (some ⟨b, off + 2, none⟩) (l.length - 2) (cap - 2)] 26)).heap[L0 + 1]? = some (.cells #[.slice (some ⟨b, off + 2, none⟩) (l.length - 2) (cap - 2)] 26 (0, 0)) := by
      have := obj_new (y.alloc (.cells #[.slice none 0 0] 23)) (.cells #[.slice (some ⟨b, off + 2, none⟩) (l.length - 2) (cap - 2)] 26)
      rw [World.size_alloc, hL0] at this; exact this
    have o3 : Y.heap[L0 + 1 + 1]? = some (.cells #[.int .i64 4] 3 (0, 0)) := by
      have := obj_new ((y.alloc (.cells #[.slice none 0 0] 23)).alloc (.cells #[.slice (some ⟨b, off + 2, none⟩) (l.length - 2) (cap - 2)] 26)) (.cells #[.int .i64 4] 3)
      rw [World.size_alloc, World.size_alloc, hL0] at this; rw [← hY]; exact this
    exact ⟨⟨.slice none 0 0, (b3.block _ (by omega)).trans ((b2.block _ (by omega)).trans o1), RecK.Own.nil _ _⟩, Below.heapAt kY BZ.out (by omega), Below.heapAt kY BX.out hNy, Below.refl _ _, (b3.block _ (by omega)).trans o2, o3⟩
  have KBY : Hid (Below N w Y) := Lib.hid (KY.out.trans (kY.mono (by omega)))
  have HVY := Lib.hid (show IsBytes Y (.slice (some ⟨b, off, none⟩) l.length cap) l from HV.out.below (by rw [HN.out]; exact KBY.out))
  have hdl : (l.drop 2).length = l.length - 2 := by simp
  have hVY : Sl encB Y (.slice (some ⟨b, off + 2, none⟩) (l.length - 2) (cap - 2)) (l.drop 2) := by
    have := bytes_part HVY.out 2 l.length l2 (Nat.le_refl _) (cap - 2) (by omega) (by unfold maxLen; omega)
    rw [List.take_length] at this
    exact this
  have hbN : b < N := by
    rw [← HN.out]
    have := bytes_at HV.out 0 (by omega)
    exact Sl.lt this
  have ST := chunkk_stops Fence.wide 7 trivial rfl (by omega) (L0 + 1) (L0 + 1 + 1) N 4 (.slice (some ⟨b, off + 2, none⟩) (l.length - 2) (cap - 2)) (l.drop 2) (by omega) (by rw [hdl]; omega) (by rw [hdl]; exact l4) Y (by omega) hVY (fun b' off' cap' e _ => by have e2 : b = b' := (by simp at e; exact e.1.1); rw [← e2]; exact hbN) SI.sb SI.nb
  have HSI := Lib.hid SI
  have HYS := Lib.hid hYs
  have HNY := Lib.hid hNy
  rw [hL0, hY]
  clear hY SI BX BZ KY kY hVY c0 c1 c2 c3 hL0 hYs hNy hbN
  apply wpIn_rangeFunc_ownG (F := Fence.wide) (n := 8) rfl hn1 (gf := 38) (lb := #[.pointer (some ⟨L0 + 1, 0, none⟩), .pointer (some ⟨L0 + 1 + 1, 0, none⟩)]) rfl trivial (enters_of Tryd.func38 (by kernel_rfl) rfl) ST KpC.trans (kpC_b (by have := HYS.out; have := HNY.out; omega)) (Below.refl _ _) (fun _ => rfl)
    (fun pre W => ReadI N L0 Y N N2 L0 (L0 + 1) (L0 + 1 + 1) 1 t (.slice (some ⟨b, off + 2, none⟩) (l.length - 2) (cap - 2)) (pre.map (fun x => prOfB x.1.2)) W)
    (fun _ _ _ => False)
    (fun pre X Z row h hg hr => ReadI.own (by have := HYS.out; have := HNY.out; omega) (by have := HYS.out; have := HNY.out; omega) (pre.map (fun x => prOfB x.1.2)) X Z row h hg hr)
    (fun _ _ _ _ _ hs _ _ => hs)
    HSI.out
  case hassign =>
    intro l x W K hK
    gi_wp2
    exact hK
  case hbody =>
    rintro l1 pre x W h hlt
    obtain ⟨xb, hxb⟩ : ∃ xb, x.1.2 = xb := ⟨_, rfl⟩
    have hx4 : xb.length = 4 := by rw [← hxb]; exact x.2.1
    have hxs : ∀ W', Below N Y W' → Sl encB W' x.1.1 xb := by rw [← hxb]; exact x.2.2
    obtain ⟨bss, hbss⟩ : ∃ bss, pre.map (fun x => prOfB x.1.2) = bss := ⟨_, rfl⟩
    have HGO := Lib.hid (show ∀ V, ReadI N L0 Y N N2 L0 (L0 + 1) (L0 + 1 + 1) 1 t (.slice (some ⟨b, off + 2, none⟩) (l.length - 2) (cap - 2)) (bss ++ [prOfB xb]) V → ReadI N L0 Y N N2 L0 (L0 + 1) (L0 + 1 + 1) 1 t (.slice (some ⟨b, off + 2, none⟩) (l.length - 2) (cap - 2)) ((pre ++ [x]).map (fun x => prOfB x.1.2)) V from fun V q => by rw [List.map_append, hbss, List.map_singleton, hxb]; exact q)
    rw [hbss] at h
    have hpb : bss.length = pre.length := by rw [← hbss]; simp
    have hsW : L0 ≤ W.heap.size := by have := h.kb.size; have := HYS.out; omega
    have hNL : N ≤ L0 := by have := HNY.out; omega
    obtain ⟨b', f', c', hx1, q1, q2, -⟩ := bytes_long (hxs W h.kb) (by omega)
    rw [hx4] at hx1 q1
    rw [hx1] at hxs
    have HXS := Lib.hid hxs
    simp only [hx1]
    clear hxs hbss hxb hx1
    unfold maxLen at q2
    have hpl : bss.length ≤ 999999 := by
      rw [List.length_drop] at hlt
      unfold chunkN at hlt
      omega
    clear hpb
    obtain ⟨g1, hg1⟩ : ∃ g1, Pl.getB (xb.take 2) = g1 := ⟨_, rfl⟩
    obtain ⟨g2, hg2⟩ : ∃ g2, Pl.getB (xb.drop 2) = g2 := ⟨_, rfl⟩
    have HP : prOfB xb = ⟨g1, g2⟩ := by unfold prOfB; rw [hg1, hg2]
    have GT1 := Lib.hid (show ∀ V, Below N Y V → Calls Tryd.prog 31 #[.slice (some ⟨b', f', none⟩) 2 c'] V fun e w' => e = .returned (.int .i64 g1) ∧ w' = V from fun V k => by
      rw [← hg1]
      have := bytes_part (l := xb) (by rw [hx4]; exact HXS.out V k) 0 2 (by omega) (by omega) c' (by omega) (by unfold maxLen; omega)
      exact (get_any _ _ V this (by simp; omega)).mono fun _ _ ⟨a, b⟩ => ⟨a, b.symm⟩)
    have GT2 := Lib.hid (show ∀ V, Below N Y V → Calls Tryd.prog 31 #[.slice (some ⟨b', f' + 2, none⟩) 2 (c' - 2)] V fun e w' => e = .returned (.int .i64 g2) ∧ w' = V from fun V k => by
      rw [← hg2]
      have := bytes_part (l := xb) (by rw [hx4]; exact HXS.out V k) 2 4 (by omega) (by omega) (c' - 2) (by omega) (by unfold maxLen; omega)
      rw [List.take_of_length_le (by omega)] at this
      exact (get_any _ _ V this (by simp; omega)).mono fun _ _ ⟨a, b⟩ => ⟨a, b.symm⟩)
    obtain ⟨v0, vN, wN, e1, hr, e2, e3, ⟨gN, capN, rfl⟩, ko, kc, RI⟩ := h.drew.app (prOfB xb) hsW hNL hNL hpl
    rw [HP] at hr RI
    dsimp only at hr
    have KD := Lib.hid h.drew.kb
    have RIX := Lib.hid (HGO.out _ (by rw [HP]; exact RI))
    have HKO := Lib.hid ((KeepsOthers.drew W).trans ko)
    have HKC := Lib.hid ((KpC.refl N (L0 + 1) (L0 + 1 + 1) W).drew.trans kc)
    have hr3 : (Builtin.append_ #[23, 23] 23 #[v0, .slice (some ⟨W.heap.size, 0, none⟩) 1 1]).run Tryd.prog (W.alloc (.cells #[.int .i64 g1, .int .i64 g2] 53)).drew = _ := hr
    have j1 : (2 : Int) ≤ (c' : Int) := by omega
    have j2 : ¬ c' = 2 := by omega
    have e1' : W.cell? ⟨L0, 0, none⟩ = some v0 := e1
    have HL0 := Lib.hid (show L0 < W.heap.size from by obtain ⟨vx, hx, -⟩ := h.ex; exact lt_of_block hx)
    clear ko kc RI h HP hlt hpl hg1 hg2
    gi_upto_region 9 with fail
    clear HSI ST HL HV HS HN HX0 HX1 HVY HYS HNY TT KBY HGO HXS
    refine wpIn_region_any hmx ?_
    refine wpAnyIn_round l1 (noDefer_spec (by decide +kernel)) _ _ _ _ ?_
    change wpAnyIn _ _ _ _ _ _ _ _ _ (World.drew _)
    have e1a : (W.drew.alloc (.cells #[.int .i64 g1, .int .i64 g2] 53)).cell? ⟨L0, 0, none⟩ = some v0 := (((Below.refl W.heap.size W.drew).alloc (Nat.le_refl _) _).cell (p := ⟨L0, 0, none⟩) (show L0 < W.heap.size from HL0.out)).trans e1
    have e1b : ((W.alloc (.cells #[.int .i64 g1, .int .i64 g2] 53)).drew).cell? ⟨L0, 0, none⟩ = some v0 := e1a
    have e1c : (W.alloc (.cells #[.int .i64 g1, .int .i64 g2] 53)).cell? ⟨L0, 0, none⟩ = some v0 := e1a
    refine wpAnyIn_take (i := 1) (v := ?_) rfl rfl (by decide +kernel) (by decide +kernel) (by decide +kernel) (fun _ _ _ h => h) ⟨Or.inl ⟨by rfl, ?_⟩, fun _ => rfl⟩ ?_
    rotate_left
    · intro w; go_simp
      all_goals with_reducible rfl
    refine wpAnyIn_take (i := 4) (v := ?_) rfl rfl (by decide +kernel) (by decide +kernel) (by decide +kernel) (fun _ _ _ h => h) ⟨Or.inl ⟨by rfl, ?_⟩, fun _ => rfl⟩ ?_
    rotate_left
    · intro w; go_simp
      all_goals with_reducible rfl
    refine wpAnyIn_take (i := 2) (v := ?_) rfl rfl (by decide +kernel) (by decide +kernel) (by decide +kernel) (fun _ _ _ h => h) ⟨Or.inl ⟨by rfl, ?_⟩, fun _ => rfl⟩ ?_
    rotate_left
    · intro w; go_simp
      all_goals with_reducible rfl
    refine wpAnyIn_take (i := 5) (v := ?_) rfl rfl (by decide +kernel) (by decide +kernel) (by decide +kernel) (fun _ _ _ h => h) ⟨Or.inl ⟨by rfl, ?_⟩, fun _ => rfl⟩ ?_
    rotate_left
    · intro w; go_simp
      all_goals with_reducible rfl
    refine wpAnyIn_ready (rs := [0, 3]) (by decide +kernel) (by simp) ?_
    refine AllReadyIn.still rfl (by decide +kernel) (fun K hK => ?_) ?_
    · go_simp
      refine hK _ ?_
      clear hK K
      refine wpAnyIn_ready (rs := [3]) (by decide +kernel) (by simp) ?_
      refine AllReadyIn.still rfl (by decide +kernel) (fun K hK => ?_) AllReadyIn.nil
      go_simp
      refine ⟨_, GT1.out _ KD.out, hK _ ?_⟩
      clear hK K
      refine wpAnyIn_ready (rs := [6]) (by decide +kernel) (by simp) ?_
      refine AllReadyIn.still rfl (by decide +kernel) (fun K hK => ?_) AllReadyIn.nil
      go_simp
      refine ⟨_, GT2.out _ KD.out, hK _ ?_⟩
      clear hK K
      refine wpAnyIn_take (i := 7) (v := ?_) rfl rfl (by decide +kernel) (by decide +kernel) (by decide +kernel) (fun _ _ _ h => h) ⟨Or.inl ⟨by rfl, ?_⟩, fun _ => rfl⟩ ?_
      rotate_left
      · intro w; go_simp
        all_goals with_reducible rfl
      refine wpAnyIn_ready (rs := [8]) (by decide +kernel) (by simp) ?_
      refine AllReadyIn.cons rfl (fun K hK => ?_) AllReadyIn.nil
      go_simp
      refine hK _ _ ?_; clear hK K
      refine wpAnyIn_ready (rs := [9]) (by decide +kernel) (by simp) ?_
      refine AllReadyIn.cons rfl (fun K hK => ?_) AllReadyIn.nil
      refine stepIn_append_run rfl (.tmp 33) (.tmp 41) 23 23 rfl _ _ rfl rfl _ _ hr ?_
      refine hK _ _ ?_; clear hK K
      refine wpAnyIn_ready (rs := [10]) (by decide +kernel) (by simp) ?_
      refine AllReadyIn.cons rfl (fun K hK => ?_) AllReadyIn.nil
      go_simp
      refine hK _ _ ?_; clear hK K
      refine wpAnyIn_done (by decide +kernel) ?_ _
      exact ⟨HKO.out.from _, HKC.out, RIX.out⟩
    refine AllReadyIn.still rfl (by decide +kernel) (fun K hK => ?_) AllReadyIn.nil
    go_simp
    refine ⟨_, GT1.out _ KD.out, hK _ ?_⟩
    clear hK K
    refine wpAnyIn_ready (rs := [0, 6]) (by decide +kernel) (by simp) ?_
    refine AllReadyIn.still rfl (by decide +kernel) (fun K hK => ?_) ?_
    · go_simp
      refine hK _ ?_
      clear hK K
      refine wpAnyIn_ready (rs := [6]) (by decide +kernel) (by simp) ?_
      refine AllReadyIn.still rfl (by decide +kernel) (fun K hK => ?_) AllReadyIn.nil
      go_simp
      refine ⟨_, GT2.out _ KD.out, hK _ ?_⟩
      clear hK K
      refine wpAnyIn_take (i := 7) (v := ?_) rfl rfl (by decide +kernel) (by decide +kernel) (by decide +kernel) (fun _ _ _ h => h) ⟨Or.inl ⟨by rfl, ?_⟩, fun _ => rfl⟩ ?_
      rotate_left
      · intro w; go_simp
        all_goals with_reducible rfl
      refine wpAnyIn_ready (rs := [8]) (by decide +kernel) (by simp) ?_
      refine AllReadyIn.cons rfl (fun K hK => ?_) AllReadyIn.nil
      go_simp
      refine hK _ _ ?_; clear hK K
      refine wpAnyIn_ready (rs := [9]) (by decide +kernel) (by simp) ?_
      refine AllReadyIn.cons rfl (fun K hK => ?_) AllReadyIn.nil
      refine stepIn_append_run rfl (.tmp 33) (.tmp 41) 23 23 rfl _ _ rfl rfl _ _ hr ?_
      refine hK _ _ ?_; clear hK K
      refine wpAnyIn_ready (rs := [10]) (by decide +kernel) (by simp) ?_
      refine AllReadyIn.cons rfl (fun K hK => ?_) AllReadyIn.nil
      go_simp
      refine hK _ _ ?_; clear hK K
      refine wpAnyIn_done (by decide +kernel) ?_ _
      exact ⟨HKO.out.from _, HKC.out, RIX.out⟩
    refine AllReadyIn.still rfl (by decide +kernel) (fun K hK => ?_) AllReadyIn.nil
    go_simp
    refine ⟨_, GT2.out _ KD.out, hK _ ?_⟩
    clear hK K
    refine wpAnyIn_take (i := 7) (v := ?_) rfl rfl (by decide +kernel) (by decide +kernel) (by decide +kernel) (fun _ _ _ h => h) ⟨Or.inl ⟨by rfl, ?_⟩, fun _ => rfl⟩ ?_
    rotate_left
    · intro w; go_simp
      all_goals with_reducible rfl
    refine wpAnyIn_ready (rs := [0, 8]) (by decide +kernel) (by simp) ?_
    refine AllReadyIn.still rfl (by decide +kernel) (fun K hK => ?_) ?_
    · go_simp
      refine hK _ ?_
      clear hK K
      refine wpAnyIn_ready (rs := [8]) (by decide +kernel) (by simp) ?_
      refine AllReadyIn.cons rfl (fun K hK => ?_) AllReadyIn.nil
      go_simp
      refine hK _ _ ?_; clear hK K
      refine wpAnyIn_ready (rs := [9]) (by decide +kernel) (by simp) ?_
      refine AllReadyIn.cons rfl (fun K hK => ?_) AllReadyIn.nil
      refine stepIn_append_run rfl (.tmp 33) (.tmp 41) 23 23 rfl _ _ rfl rfl _ _ hr ?_
      refine hK _ _ ?_; clear hK K
      refine wpAnyIn_ready (rs := [10]) (by decide +kernel) (by simp) ?_
      refine AllReadyIn.cons rfl (fun K hK => ?_) AllReadyIn.nil
      go_simp
      refine hK _ _ ?_; clear hK K
      refine wpAnyIn_done (by decide +kernel) ?_ _
      exact ⟨HKO.out.from _, HKC.out, RIX.out⟩
    refine AllReadyIn.cons rfl (fun K hK => ?_) AllReadyIn.nil
    go_simp
    refine hK _ _ ?_; clear hK K
    refine wpAnyIn_ready (rs := [0]) (by decide +kernel) (by simp) ?_
    refine AllReadyIn.still rfl (by decide +kernel) (fun K hK => ?_) AllReadyIn.nil
    go_simp
    refine hK _ ?_
    clear hK K
    refine wpAnyIn_ready (rs := [9]) (by decide +kernel) (by simp) ?_
    refine AllReadyIn.cons rfl (fun K hK => ?_) AllReadyIn.nil
    refine stepIn_append_run rfl (.tmp 33) (.tmp 41) 23 23 rfl _ _ rfl rfl _ _ hr ?_
    refine hK _ _ ?_; clear hK K
    refine wpAnyIn_ready (rs := [10]) (by decide +kernel) (by simp) ?_
    refine AllReadyIn.cons rfl (fun K hK => ?_) AllReadyIn.nil
    go_simp
    refine hK _ _ ?_; clear hK K
    refine wpAnyIn_done (by decide +kernel) ?_ _
    exact ⟨HKO.out.from _, HKC.out, RIX.out⟩
  case hdone =>
    as_aux_lemma =>
    rintro D xs W hD hxs h hK
    dsimp only
    have hmap : xs.map (fun x => prOfB x.1.2) = Pl.prsOf l := by
      rw [← prs_map l (by rw [List.length_drop]; exact l4), ← hxs, List.map_map]
      rfl
    rw [hmap] at h
    have hNL : N ≤ L0 := by have := HNY.out; omega
    obtain ⟨v5, r1, r2⟩ := h.ex
    have hPN : ∀ p ∈ Pl.prsOf l, p.Num := fun p hp => by
      unfold Pl.prsOf at hp
      obtain ⟨r, hr, rfl⟩ := List.mem_map.1 hp
      have q1 := Pl.getB_bd (((l.drop (2 + r * 4)).take 4).take 2)
      have q2 := Pl.getB_bd (((l.drop (2 + r * 4)).take 4).drop 2)
      have e1 : (((l.drop (2 + r * 4)).take 4).take 2).length ≤ 2 := by simp; omega
      have e2 : (((l.drop (2 + r * 4)).take 4).drop 2).length ≤ 2 := by simp; omega
      have b1 : (256 : Int) ^ (((l.drop (2 + r * 4)).take 4).take 2).length ≤ 65536 := by
        have : (((l.drop (2 + r * 4)).take 4).take 2).length = 0 ∨ (((l.drop (2 + r * 4)).take 4).take 2).length = 1 ∨ (((l.drop (2 + r * 4)).take 4).take 2).length = 2 := by omega
        rcases this with h | h | h <;> rw [h] <;> decide
      have b2 : (256 : Int) ^ (((l.drop (2 + r * 4)).take 4).drop 2).length ≤ 65536 := by
        have : (((l.drop (2 + r * 4)).take 4).drop 2).length = 0 ∨ (((l.drop (2 + r * 4)).take 4).drop 2).length = 1 ∨ (((l.drop (2 + r * 4)).take 4).drop 2).length = 2 := by omega
        rcases this with h | h | h <;> rw [h] <;> decide
      show (-9223372036854775808 ≤ (Pl.getB _) ∧ (Pl.getB _) ≤ 9223372036854775807) ∧ (-9223372036854775808 ≤ (Pl.getB _) ∧ (Pl.getB _) ≤ 9223372036854775807)
      omega
    have HPR := Lib.hid (prK_prs r2 hPN)
    obtain ⟨o5, c5, rfl, -⟩ := prs_read HPR.out
    have g0 : W.cell? ⟨L0, 0, none⟩ = some (.slice o5 (Pl.prsOf l).length c5) := obj_cell r1 rfl
    have HBZ := Lib.hid h.bz
    have HBX := Lib.hid h.bx
    have HKW := Lib.hid (KBY.out.trans h.kb)
    have HDK := Lib.hid hK
    have HHD := Lib.hid hD
    clear r1 r2 hPN hmap hxs h hK hD ST HSI
    have HWN := Lib.hid (show N ≤ W.heap.size from by have q := HKW.out.size; rw [HN.out] at q; exact q)
    have RX := Lib.hid (show ∀ A : List Int, ((Pl.numF (Pl.prsOf l) ≠ 0 ∧ A = []) ∨ (Pl.numF (Pl.prsOf l) = 0 ∧ A.Pairwise (fun x y => x < y) ∧ ∀ i, i ∈ A ↔ i ∈ Pl.numsOf (Pl.prsOf l))) → Pl.RdX l 1 t A 0 from fun A h => ⟨by rw [HX0.out, h1]; rfl, by rw [HX1.out]; exact TT.out.symm, by rw [if_pos rfl]; exact h, by rw [if_neg (by decide)]⟩)
    have NC := Lib.hid (show Calls Tryd.prog 9 #[.slice o5 (Pl.prsOf l).length c5] W fun e w' => ∃ (A : List Int) (oA : Option Addr) (cA : Nat) (er : Value), e = .returned (.tuple #[.slice oA A.length cA, er]) ∧ ((∀ u, Sl encI (w'.setCell ⟨N2, 2, none⟩ u) (.slice oA A.length cA) A) ∧ ∀ b f c, Value.slice oA A.length cA = .slice (some ⟨b, f, none⟩) A.length c → A ≠ [] → W.heap.size ≤ b) ∧ Pl.RdX l 1 t A 0 ∧ Below W.heap.size W w' from by
      by_cases hF : Pl.numF (Pl.prsOf l) = 0
      · refine (backNums_ok _ _ hF W HPR.out).mono fun e w' ⟨R, oR, cR, q1, q2, q3, q4, q5⟩ => ⟨R, oR, cR, _, q1, ⟨fun u => (show IRow (w'.setCell ⟨N2, 2, none⟩ u) W.heap.size _ R from intRow_keep q2 (fun g o _ hM => Below.heap_setCell _ _ _ _ (fun e => by have q := lt_of_block HBX.out; subst e; omega))).sl, fun b f c e _ => (q2.lt b (by rw [e]; rfl)).1⟩, RX.out R (.inr ⟨hF, q3, q4⟩), q5⟩
      · refine (backNums_bad _ _ hF W HPR.out).mono fun e w' ⟨q1, q2⟩ => ⟨[], none, 0, _, q1, ⟨fun u => Sl.nil _, fun b f c e h => absurd rfl h⟩, RX.out [] (.inl ⟨hF, rfl⟩), q2⟩)
    obtain ⟨n5, hn5⟩ : ∃ n5, (Pl.prsOf l).length = n5 := ⟨_, rfl⟩
    rw [hn5] at NC g0
    clear hn5 HPR RX
    gi_upto_region 14 with (gi_at_call 9; refine (callsIn_wide.2 NC.out).mono ?_; rintro e z ⟨A, oA, cA, er, rfl, s1, s2, s3⟩; have SA := Lib.hid s1; have VA := Lib.hid s2; have BX1 := Lib.hid (show BkBox z N2 1 t (.slice none 0 0) 0 from Below.heapAt s3 HBX.out (lt_of_block HBX.out)); have BZ1 := Lib.hid (show BkBox z N 0 0 (.slice none 0 0) 0 from Below.heapAt s3 HBZ.out (lt_of_block HBZ.out)); have KZ1 := Lib.hid (HKW.out.trans (s3.mono HWN.out)); have DK1 := Lib.hid (show z.heap[D]? = some (.deferred (some [])) from Below.heapAt s3 HDK.out (lt_of_block HDK.out)); obtain ⟨y0, y1, y2, y3⟩ := BX1.out.cells; obtain ⟨ff0, ff1, ff2, ff3⟩ := BX1.out.free; clear s1 s2 s3)
    have hDN : D ≠ N2 ∧ D ≠ N := by have q := HHD.out; have := HYS.out; have := HNY.out; omega
    have KS2 : Below N2 z (z.setCell ⟨N2, 2, none⟩ (.slice oA A.length cA)) := Below.setCell (p := ⟨N2, 2, none⟩) (Below.refl N2 z) (Nat.le_refl N2) _
    have BX2 := Lib.hid (show BkBox (z.setCell ⟨N2, 2, none⟩ (.slice oA A.length cA)) N2 1 t (.slice oA A.length cA) 0 from obj_set BX1.out 2 _)
    have BZ2 := Lib.hid (show BkBox (z.setCell ⟨N2, 2, none⟩ (.slice oA A.length cA)) N 0 0 (.slice none 0 0) 0 from Below.heapAt KS2 BZ1.out hNN)
    have KZ2 := Lib.hid (show Below N w (z.setCell ⟨N2, 2, none⟩ (.slice oA A.length cA)) from KZ1.out.trans (KS2.mono (by omega)))
    have DK2 := Lib.hid (show (z.setCell ⟨N2, 2, none⟩ (.slice oA A.length cA)).heap[D]? = some (.deferred (some [])) from (Below.heap_setCell _ _ _ _ hDN.1).trans DK1.out)
    have SA2 := Lib.hid (SA.out.1 (.slice oA A.length cA))
    have SAB := Lib.hid (show ∀ b f c, Value.slice oA A.length cA = .slice (some ⟨b, f, none⟩) A.length c → A ≠ [] → b ≠ N from fun b f c e h => by have q := SA.out.2 b f c e h; have := lt_of_block HBX.out; omega)
    refine abs_iu (fun u => Hid (BkBox u N2 1 t (.slice oA A.length cA) 0) ∧ Hid (BkBox u N 0 0 (.slice none 0 0) 0) ∧ Hid (Below N w u) ∧ Hid (u.heap[D]? = some (.deferred (some []))) ∧ Hid (Sl encI u (.slice oA A.length cA) A)) ⟨BX2, BZ2, KZ2, DK2, SA2⟩ ?_
    clear BX2 BZ2 KZ2 DK2 SA2 KS2 BX1 BZ1 KZ1 DK1 SA y0 y1 y2 y3 ff0 ff1 ff2 ff3 HBZ HBX HKW HDK NC HWN
    rintro z ⟨BX, BZ, KZ, DK, SA⟩
    obtain ⟨c0, c1, c2, c3⟩ := BX.out.cells
    have HNZ := Lib.hid (show N ≤ z.heap.size from by have q := KZ.out.size; rw [HN.out] at q; exact q)
    have HDN := Lib.hid hDN.2
    rcases RdX.cases VA.out with hF | hF
    · as_aux_lemma =>
      have EN := Lib.hid (enc_bad VA.out hF oA cA z SA.out)
      have HF := Lib.hid hF
      clear hF hDN
      gi_wp2_with (gi_at_call 12; refine (callsIn_wide.2 EN.out).mono ?_; rintro e z2 ⟨rfl, k2⟩; have K2 := Lib.hid (KZ.out.trans (k2.mono HNZ.out)); have BZ2 := Lib.hid (show BkBox z2 N 0 0 (.slice none 0 0) 0 from Below.heapAt k2 BZ.out (lt_of_block BZ.out)); have DK2 := Lib.hid (show z2.heap[D]? = some (.deferred (some [])) from Below.heapAt k2 DK.out (lt_of_block DK.out)); obtain ⟨p0, p1, p2, p3⟩ := BZ2.out.cells; obtain ⟨f0, f1, f2, f3⟩ := BZ2.out.free; clear k2)
      have DKF := (set4_ne z2 N D HDN.out (.int .i64 0) (.int .i64 0) (.slice none 0 0) (.int .i64 0)).trans DK2.out
      have BXF := end_box (bk_zero BZ2.out 0 0 (.slice none 0 0) 0) HDN.out (.deferred none)
      have KF := bk_kb K2.out (Nat.le_refl N) (.int .i64 0) (.int .i64 0) (.slice none 0 0) (.int .i64 0)
      obtain ⟨r0, r1, r2, r3⟩ := BXF.cells
      refine ⟨by simp, .inl ⟨_, _, rfl, run_takeDeferred DKF, ?_⟩⟩
      refine ⟨.tuple #[bkV 0 0 (.slice none 0 0) 0, .iface 54 (.int .i64 2)], by simp [results, Tryd.results14, go_sem, r0, r1, r2, r3], ?_⟩
      refine ReadBE.bad HL.out VA.out ?_ (.inl HF.out)
      rw [HN.out]
      exact KF.grown (grownBy_putObj' _ D (.deferred none)) (by have := KF.size; rw [HN.out] at this; exact this) (fun k e => by cases e; have q := HHD.out; have := HYS.out; have := HNY.out; omega)
    · as_aux_lemma =>
      have EN := Lib.hid (enc_good VA.out hF oA cA z SA.out)
      have HF := Lib.hid hF
      clear hF hDN
      gi_upto_region 15 with (gi_at_call 12; refine (callsIn_wide.2 EN.out).mono ?_; rintro e z2 ⟨o1, n1, c1', L, rfl, hL, hB, k2⟩; have K2 := Lib.hid (KZ.out.trans (k2.mono HNZ.out)); have BZ2 := Lib.hid (show BkBox z2 N 0 0 (.slice none 0 0) 0 from Below.heapAt k2 BZ.out (lt_of_block BZ.out)); have BX2 := Lib.hid (show BkBox z2 N2 1 t (.slice oA A.length cA) 0 from Below.heapAt k2 BX.out (lt_of_block BX.out)); have DK2 := Lib.hid (show z2.heap[D]? = some (.deferred (some [])) from Below.heapAt k2 DK.out (lt_of_block DK.out)); have SA2 := Lib.hid (SA.out.below k2); have PO := Lib.hid hL; have EQ := Lib.hid (equal_any _ _ l _ z2 (HV.out.below (by rw [HN.out]; exact K2.out)) hB); have KZ2 := Lib.hid k2.size; clear k2 hL hB)
      clear EN c0 c1 c2 c3 BX BZ KZ DK SA
      rcases RdX.same VA.out L with heq | heq
      · as_aux_lemma =>
        rw [decide_eq_true heq] at EQ
        have HEQ := Lib.hid heq
        clear heq
        gi_wp2_with (gi_at_call 32; refine (callsIn_wide.2 EQ.out).mono ?_; rintro e z3 ⟨rfl, k3⟩; have K3 := Lib.hid (K2.out.trans (k3.mono (Nat.le_trans HNZ.out KZ2.out))); have BZ3 := Lib.hid (show BkBox z3 N 0 0 (.slice none 0 0) 0 from Below.heapAt k3 BZ2.out (lt_of_block BZ2.out)); have BX3 := Lib.hid (show BkBox z3 N2 1 t (.slice oA A.length cA) 0 from Below.heapAt k3 BX2.out (lt_of_block BX2.out)); have DK3 := Lib.hid (show z3.heap[D]? = some (.deferred (some [])) from Below.heapAt k3 DK2.out (lt_of_block DK2.out)); have SA3 := Lib.hid (SA2.out.below k3); obtain ⟨p0, p1, p2, p3⟩ := BZ3.out.cells; obtain ⟨f0, f1, f2, f3⟩ := BZ3.out.free; obtain ⟨y0, y1, y2, y3⟩ := BX3.out.cells; clear k3)
        have DKF := (set4_ne z3 N D HDN.out (.int .i64 1) (.int .i64 t) (.slice oA A.length cA) (.int .i64 0)).trans DK3.out
        have BXF := end_box (bk_zero BZ3.out 1 t (.slice oA A.length cA) 0) HDN.out (.deferred none)
        have KF := bk_kb K3.out (Nat.le_refl N) (.int .i64 1) (.int .i64 t) (.slice oA A.length cA) (.int .i64 0)
        have SF := set4_sl SA3.out SAB.out (.int .i64 1) (.int .i64 t) (.slice oA A.length cA) (.int .i64 0)
        have hg := grownBy_putObj' ((((z3.setCell ⟨N, 0, none⟩ (.int .i64 1)).setCell ⟨N, 1, none⟩ (.int .i64 t)).setCell ⟨N, 2, none⟩ (.slice oA A.length cA)).setCell ⟨N, 3, none⟩ (.int .i64 0)) D (.deferred none)
        obtain ⟨r0, r1, r2, r3⟩ := BXF.cells
        refine ⟨by simp, .inl ⟨_, _, rfl, run_takeDeferred DKF, ?_⟩⟩
        refine ⟨.tuple #[bkV 1 t (.slice oA A.length cA) 0, .nilIface], by simp [results, Tryd.results14, go_sem, r0, r1, r2, r3], ?_⟩
        refine ReadBE.good HL.out VA.out ?_ HF.out PO.out HEQ.out oA cA ?_
        · rw [HN.out]
          exact KF.grown hg (by have := KF.size; rw [HN.out] at this; exact this) (fun k e => by cases e; have q := HHD.out; have := HYS.out; have := HNY.out; omega)
        · rcases SF with h | ⟨b', f', c', e0, h1, h2, h3⟩
          · exact .inl h
          · refine .inr ⟨b', f', c', e0, h1, h2, fun i hi => ?_⟩
            have c := h3 i hi
            have hbD : b' ≠ D := fun e => by
              subst e
              unfold World.cell? at c
              simp only [DKF] at c
              cases c
            rw [World.cell?_of_block (a := ⟨b', f' + i, none⟩) (hg.block b' (Sl.lt c) (by simp; omega))]
            exact c
      · as_aux_lemma =>
        rw [decide_eq_false heq] at EQ
        have HNE := Lib.hid heq
        clear heq
        gi_wp2_with (gi_at_call 32; refine (callsIn_wide.2 EQ.out).mono ?_; rintro e z3 ⟨rfl, k3⟩; have K3 := Lib.hid (K2.out.trans (k3.mono (Nat.le_trans HNZ.out KZ2.out))); have BZ3 := Lib.hid (show BkBox z3 N 0 0 (.slice none 0 0) 0 from Below.heapAt k3 BZ2.out (lt_of_block BZ2.out)); have DK3 := Lib.hid (show z3.heap[D]? = some (.deferred (some [])) from Below.heapAt k3 DK2.out (lt_of_block DK2.out)); obtain ⟨p0, p1, p2, p3⟩ := BZ3.out.cells; obtain ⟨f0, f1, f2, f3⟩ := BZ3.out.free; clear k3)
        have DKF := (set4_ne z3 N D HDN.out (.int .i64 0) (.int .i64 0) (.slice none 0 0) (.int .i64 0)).trans DK3.out
        have BXF := end_box (bk_zero BZ3.out 0 0 (.slice none 0 0) 0) HDN.out (.deferred none)
        have KF := bk_kb K3.out (Nat.le_refl N) (.int .i64 0) (.int .i64 0) (.slice none 0 0) (.int .i64 0)
        obtain ⟨r0, r1, r2, r3⟩ := BXF.cells
        refine ⟨by simp, .inl ⟨_, _, rfl, run_takeDeferred DKF, ?_⟩⟩
        refine ⟨.tuple #[bkV 0 0 (.slice none 0 0) 0, .iface 54 (.int .i64 2)], by simp [results, Tryd.results14, go_sem, r0, r1, r2, r3], ?_⟩
        refine ReadBE.bad HL.out VA.out ?_ (.inr ⟨HF.out, L, PO.out, fun e => HNE.out e.symm⟩)
        rw [HN.out]
        exact KF.grown (grownBy_putObj' _ D (.deferred none)) (by have := KF.size; rw [HN.out] at this; exact this) (fun k e => by cases e; have q := HHD.out; have := HYS.out; have := HNY.out; omega)
  case hstop =>
    rintro D c pre W hD _ hf hK
    exact hf.elim
end Go.Proofs.YthbcdpckckellaaDoor
