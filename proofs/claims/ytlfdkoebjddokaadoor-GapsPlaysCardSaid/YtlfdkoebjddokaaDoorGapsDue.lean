import Derived.Test.YtlfdkoebjddokaaDoorGapsHear
/-! gaps.Due. -/
namespace Go.Proofs.YtlfdkoebjddokaaDoor
open Go.RowKit Go.Maps
set_option linter.unusedVariables false
set_option linter.unusedSimpArgs false
section
variable {P : Program} (w : World) {ops : Array Oper} {rest : List Oper} {o : Oper} {a : Act} {Q : Exit → Act → World → Prop}
/-- 'm[k]' -/
theorem wpList_mlook0 (hg : o.guard = none) (m x : Operand) (t : TypeId) (hop : o.op = Op.lookup t m x false) (k e : TypeId) (K : Keyed P k) (hk : P.underlying k = some (.int .i64)) (ht : P.underlying t = some (.map k e)) {z : Value} (hz : (zeroValue e).run P w = .ok z w) (b c : Nat) (f : Int → Option Value)
    (hm : a.eval m = .map (some b)) (hown : MapAt P k w b c f) (i : Int) (hx : a.eval x = .int .i64 i) (hw : (Lit.int .i64 i).wf = true)
    (hK : wpList P ops Q rest (a.put o.dst ((f i).getD z)) w) : wpList P ops Q (o :: rest) a w := by
  obtain ⟨D, h1, h2, h3⟩ := hown
  obtain ⟨v, ps, hrun, hv⟩ := h1.lookup K ht hz (zd := .held z) (zp := []) rfl (Maps.keyOf_int_mk hk hw)
  have e2 : v = (f i).getD z := by
    rw [h3 i (.held z)] at hv
    simp only [Rv, Option.some.injEq, Prod.mk.injEq] at hv
    cases hf : f i with
    | none => rw [hf] at hv; simp [Rd] at hv; simp [hv.1]
    | some u => rw [hf] at hv; simp [Rd] at hv; simp [hv.1]
  refine wpList_plain hg fun K' hK' => ?_
  unfold Oper.wp
  simp [execOp, hop, hm, hx, hrun, Result.andThen]
  rw [e2]
  exact hK' _ _ hK
end
/-- what becomes of one that is lacking -/
def isWait (again now : Int) (p : Int × Int) : Bool := decide (0 < p.1) && decide (now - p.2 < again)
def dueStep (again tries now : Int) (p : Int × Int) : Option (Int × Int) := if isWait again now p then some p else if p.1 = tries then none else some (p.1 + 1, now)
def isGive (again tries now : Int) (g : Int → Option (Int × Int)) (j : Int) : Bool := match g j with
  | some p => !isWait again now p && decide (p.1 = tries)
  | none => false
def isAsk (again tries now : Int) (g : Int → Option (Int × Int)) (j : Int) : Bool := match g j with
  | some p => !isWait again now p && !decide (p.1 = tries)
  | none => false
def dueG (again tries now : Int) (g : Int → Option (Int × Int)) (S : List Int) (k : Nat) : Int → Option (Int × Int) := fun j => if j ∈ S.take k then (g j).bind (dueStep again tries now) else g j
theorem rises_take {S : List Int} (h : Rises S) {k : Nat} {n : Int} (hn : S[k]? = some n) : n ∉ S.take k := fun hm => by
  obtain ⟨i, hi⟩ := List.getElem?_of_mem hm
  rw [List.getElem?_take] at hi
  split at hi
  · rename_i hik
    obtain ⟨h1, e1⟩ := List.getElem?_eq_some_iff.1 hi
    obtain ⟨h2, e2⟩ := List.getElem?_eq_some_iff.1 hn
    have := List.pairwise_iff_getElem.1 h i k h1 h2 hik
    omega
  · cases hi
theorem take_one {S : List Int} {k : Nat} {n : Int} (hn : S[k]? = some n) : S.take (k + 1) = S.take k ++ [n] := by
  rw [List.take_add_one, hn]; rfl
theorem dueG.start (again tries now : Int) (g : Int → Option (Int × Int)) (S : List Int) : dueG again tries now g S 0 = g := by funext j; simp [dueG]
theorem dueG.at_ {again tries now : Int} {g : Int → Option (Int × Int)} {S : List Int} (hS : Rises S) {k : Nat} {n : Int} (hn : S[k]? = some n) : dueG again tries now g S k n = g n := by
  unfold dueG; rw [if_neg (rises_take hS hn)]
theorem dueG.step {again tries now : Int} {g : Int → Option (Int × Int)} {S : List Int} (hS : Rises S) {k : Nat} {n : Int} (hn : S[k]? = some n) : dueG again tries now g S (k + 1) = fun j => if j = n then (g n).bind (dueStep again tries now) else dueG again tries now g S k j := by
  funext j
  unfold dueG
  rw [take_one hn]
  by_cases e : j = n
  · subst e; simp
  · simp [e]
/-- the loop's memory -/
structure DueSt (gv0 : Value) (M : Nat) (w y : World) (b : Nat) (now again tries top : Int) (bm c : Nat) (g : Int → Option (Int × Int)) (gv : Value) (G : List Int) (vS : Value) (S : List Int) (vo : Value) (O : List Int) : Prop where
  gp : Gp M y b now again tries top bm c g gv G
  rS : y.ownsRow M 3 1 vS S.length (S.map encI)
  rO : y.ownsRow M 3 1 vo O.length (O.map encI)
  a1 : ApartV vS gv
  a2 : ApartV vS vo
  a3 : ApartV vo gv
  o1 : ∀ k, vo.ownBlock = some k → w.heap.size ≤ k
  g1 : ∀ k, gv.ownBlock = some k → gv0.ownBlock = some k ∨ w.heap.size ≤ k
  kb : FG b bm gv0 w y
namespace DueSt
variable {gv0 : Value} {M : Nat} {w y z : World} {b : Nat} {now again tries top : Int} {bm c : Nat} {g : Int → Option (Int × Int)} {gv : Value} {G : List Int} {vS : Value} {S : List Int} {vo : Value} {O : List Int}
theorem below (h : DueSt gv0 M w y b now again tries top bm c g gv G vS S vo O) (hM : M ≤ w.heap.size) (k : Below y.heap.size y z) : DueSt gv0 M w z b now again tries top bm c g gv G vS S vo O :=
  ⟨h.gp.below k, intRow_below h.rS k, intRow_below h.rO k, h.a1, h.a2, h.a3, h.o1, h.g1, Keeps.trans h.kb (Below.toKeeps k (Nat.le_refl _))⟩
theorem drewN (h : DueSt gv0 M w y b now again tries top bm c g gv G vS S vo O) (k : Nat) : DueSt gv0 M w (y.drewN k) b now again tries top bm c g gv G vS S vo O :=
  ⟨h.gp.drewN k, by exact h.rS, by exact h.rO, h.a1, h.a2, h.a3, h.o1, h.g1, Keeps.drewN h.kb _⟩
theorem mapped {c' : Nat} {g' : Int → Option (Int × Int)} (h : DueSt gv0 M w y b now again tries top bm c g gv G vS S vo O) (m : GMap z bm c' g') (q : y.grownBy z (some bm)) : DueSt gv0 M w z b now again tries top bm c' g' gv G vS S vo O := by
  have hm := h.gp.map
  have hk : ∀ k o, y.heap[k]? = some (.cells o 3 (0, 0)) → M ≤ k → z.heap[k]? = y.heap[k]? := fun k o hk _ => q.block k (lt_of_block hk) (by
    rintro e; simp at e; subst e
    obtain ⟨D, ⟨es, clock, q1, _⟩, _⟩ := hm; rw [q1] at hk; cases hk)
  exact ⟨h.gp.mapped m q, intRow_keep h.rS hk, intRow_keep h.rO hk, h.a1, h.a2, h.a3, h.o1, h.g1, Keeps.trans h.kb ⟨q.os, q.tape, q.output, q.size, fun j hj hn => q.block j hj (by rintro e; simp at e; exact hn (.inr (.inl e)))⟩⟩
theorem ask {vN : Value} {x : Int} (h : DueSt gv0 M w y b now again tries top bm c g gv G vS S vo O) (hM : M ≤ w.heap.size) (q : y.grownBy z vo.ownBlock) (ho : z.ownsRow M 3 1 vN (O.length + 1) (O.map encI ++ [.int .i64 x])) (hb : ∀ k, vN.ownBlock = some k → vo.ownBlock = some k ∨ y.heap.size ≤ k) :
    DueSt gv0 M w z b now again tries top bm c g gv G vS S vN (O ++ [x]) := by
  have hm := h.gp.map
  have hlow : ∀ k, vo.ownBlock = some k → M ≤ k ∧ k ≠ b ∧ k ≠ bm := fun k hk => by
    refine ⟨(h.rO.lt k hk).1, ?_⟩
    rcases h.rO.2 with ⟨rfl, _⟩ | ⟨g', cap, cur, rfl, hb, hg, _⟩
    · simp [Value.ownBlock] at hk
    · simp [Value.ownBlock] at hk
      subst hk
      refine ⟨?_, ?_⟩
      · rintro rfl
        have := h.gp.at_; unfold GapsAt at this; rw [this] at hg; simp at hg
      · rintro rfl
        obtain ⟨D, ⟨es, clock, q1, _⟩, _⟩ := hm; rw [q1] at hg; cases hg
  have e1 := q.block b (lt_of_block h.gp.at_) (fun e => (hlow b e.symm).2.1 rfl)
  have e2 := q.block bm h.gp.map.lt (fun e => (hlow bm e.symm).2.2 rfl)
  refine ⟨⟨?_, hm.block e2, h.gp.ne, h.gp.row.kept q h.a3.ne, h.gp.low⟩, h.rS.kept q h.a2.symm.ne, by simpa using ho, h.a1, (ApartV.more h.a2.symm h.rS hb).symm, ApartV.more h.a3 h.gp.row hb, (fun k hk => by rcases hb k hk with e | e; exact h.o1 k e; have := h.kb.size; omega), h.g1, ⟨q.os.trans h.kb.os, q.tape.trans h.kb.tape, q.output.trans h.kb.output, Nat.le_trans h.kb.size q.size, fun k hk hn => (q.block k (Nat.lt_of_lt_of_le hk h.kb.size) (fun e => by have := h.o1 k e.symm; omega)).trans (h.kb.block k hk hn)⟩⟩
  have a := h.gp.at_
  unfold GapsAt at *
  rw [e1]; exact a
theorem give {vN : Value} {x : Int} (h : DueSt gv0 M w y b now again tries top bm c g gv G vS S vo O) (hM : M ≤ w.heap.size) (q : y.grownBy z gv.ownBlock) (ho : z.ownsRow M 3 1 vN (G.length + 1) (G.map encI ++ [.int .i64 x])) (hb : ∀ k, vN.ownBlock = some k → gv.ownBlock = some k ∨ y.heap.size ≤ k) :
    GapsAt z b now again tries top bm gv ∧ DueSt gv0 M w (z.setCell ⟨b, 5, none⟩ vN) b now again tries top bm c g vN (G ++ [x]) vS S vo O := by
  have hm := h.gp.map
  have hlow := h.gp.rowNe
  have e1 := q.block b (lt_of_block h.gp.at_) (fun e => (hlow b e.symm).2.1 rfl)
  have e2 := q.block bm h.gp.map.lt (fun e => (hlow bm e.symm).2.2 rfl)
  have hz : GapsAt z b now again tries top bm gv := by
    have a := h.gp.at_
    unfold GapsAt at *
    rw [e1]; exact a
  have hk : ∀ k o, z.heap[k]? = some (.cells o 3 (0, 0)) → M ≤ k → (z.setCell ⟨b, 5, none⟩ vN).heap[k]? = z.heap[k]? := fun k o hk _ => Below.heap_setCell _ _ _ _ (by
    rintro rfl
    unfold GapsAt at hz; rw [hz] at hk; simp at hk)
  refine ⟨hz, ⟨⟨obj_set hz 5 _, (hm.block e2).block (Below.heap_setCell _ _ _ _ (Ne.symm h.gp.ne)), h.gp.ne, by simpa using intRow_keep ho hk, h.gp.low⟩, intRow_keep (h.rS.kept q h.a1.symm.ne) hk, intRow_keep (h.rO.kept q h.a3.symm.ne) hk, (ApartV.more h.a1.symm h.rS hb).symm, h.a2, (ApartV.more h.a3.symm h.rO hb).symm, h.o1, (fun k hk => by rcases hb k hk with e | e; exact h.g1 k e; have := h.kb.size; exact .inr (by omega)), ?_⟩⟩
  exact Keeps.setCell ⟨q.os.trans h.kb.os, q.tape.trans h.kb.tape, q.output.trans h.kb.output, Nat.le_trans h.kb.size q.size, fun k hk hn => (q.block k (Nat.lt_of_lt_of_le hk h.kb.size) (fun e => by rcases h.g1 k e.symm with q1 | q1; exact hn (.inr (.inr q1)); omega)).trans (h.kb.block k hk hn)⟩ (.inl (.inl rfl)) _
end DueSt
end Go.Proofs.YtlfdkoebjddokaaDoor
