import Derived.Test.YtcicfchpcbfdkaaGreatDoorMapI
import Derived.Maps.RangeWalk
/-! A range over a map keyed by int, as a function: what is still to come. Of whatever program. -/
namespace Go.Proofs.YtcicfchpcbfdkaaGreatDoor
open Go.RowKit Go.ChangeShapes Go.WideShapes
open Go.Maps (Keyed)
set_option linter.unusedVariables false
set_option linter.unusedSimpArgs false
/-- block b is a map keyed by int, of c entries, f tells what lies at a key; block r is an iterator over it; left: is a key's entry still to come? -/
def RangesAt (P : Program) (k : TypeId) (w : World) (b r c : Nat) (f : Int → Option Value) (left : Int → Bool) (cnt : Nat) : Prop :=
  ∃ (n : Nat) (D : DataW Value) (lf : Lit → Bool), w.ranges P k Rv b r n D lf cnt ∧ Maps.size D = c ∧ (∀ (i : Int) (z : DataW Value), D.atKey (.int .i64 i) z = Rd (f i) z) ∧ ∀ i, lf (.int .i64 i) = left i
theorem RangesAt.map {P : Program} {k : TypeId} {w : World} {b r c : Nat} {f : Int → Option Value} {left : Int → Bool} {cnt : Nat} (h : RangesAt P k w b r c f left cnt) : MapAt P k w b c f := by
  obtain ⟨n, D, lf, h1, h2, h3, _⟩ := h
  exact ⟨D, by rw [← h2]; exact owns_tight h1.owns, h2, h3⟩
theorem RangesAt.left_eq {P : Program} {k : TypeId} {w : World} {b r c : Nat} {f : Int → Option Value} {left : Int → Bool} {cnt : Nat} (h : RangesAt P k w b r c f left cnt) : w.rangeLeft b r = cnt := by
  obtain ⟨n, D, lf, h1, _⟩ := h
  exact h1.left_eq
theorem RangesAt.lt {P : Program} {k : TypeId} {w : World} {b r c : Nat} {f : Int → Option Value} {left : Int → Bool} {cnt : Nat} (h : RangesAt P k w b r c f left cnt) : r < w.heap.size := by
  obtain ⟨n, D, lf, h1, _⟩ := h
  exact h1.lt
theorem RangesAt.kept {P : Program} {k : TypeId} {w w' : World} {b r c : Nat} {f : Int → Option Value} {left : Int → Bool} {cnt : Nat} {row : Option Nat} (h : RangesAt P k w b r c f left cnt) (hg : w.grownBy w' row) (h1 : some b ≠ row) (h2 : some r ≠ row) : RangesAt P k w' b r c f left cnt := by
  obtain ⟨n, D, lf, a, b', c', d⟩ := h
  exact ⟨n, D, lf, a.kept hg h1 h2, b', c', d⟩
theorem RangesAt.alloc {P : Program} {k : TypeId} {w : World} {b r c : Nat} {f : Int → Option Value} {left : Int → Bool} {cnt : Nat} (h : RangesAt P k w b r c f left cnt) (o : Obj) : RangesAt P k (w.alloc o) b r c f left cnt := by
  obtain ⟨n, D, lf, a, b', c', d⟩ := h
  exact ⟨n, D, lf, a.alloc o, b', c', d⟩
theorem RangesAt.below {P : Program} {k : TypeId} {w w' : World} {b r c : Nat} {f : Int → Option Value} {left : Int → Bool} {cnt : Nat} (h : RangesAt P k w b r c f left cnt) (hb : Below w.heap.size w w') : RangesAt P k w' b r c f left cnt :=
  h.kept (row := none) ⟨hb.os, hb.tape, hb.output, hb.size, fun i hi _ => hb.block i hi⟩ (by simp) (by simp)
section
variable {P : Program} (w : World) {ops : Array Oper} {rest : List Oper} {o : Oper} {a : Act} {Q : Exit → Act → World → Prop}
/-- 'range m' -/
theorem wpList_mrange (hg : o.guard = none) (m : Operand) (t : TypeId) (hop : o.op = Op.range t m) (k e : TypeId) (K : Keyed P k) (ht : P.underlying t = some (.map k e)) (b c : Nat) (f : Int → Option Value)
    (hm : a.eval m = .map (some b)) (hown : MapAt P k w b c f)
    (hK : ∀ w', RangesAt P k w' b w.heap.size c f (fun i => (f i).isSome) c → w.grownBy w' none → w'.heap.size = w.heap.size + 1 → wpList P ops Q rest (a.put o.dst (.pointer (some ⟨w.heap.size, 0, none⟩))) w') :
    wpList P ops Q (o :: rest) a w := by
  obtain ⟨D, h1, h2, h3⟩ := hown
  refine wpList_range_own w hg m t hop k e K ht Rv b c D hm h1 ?_
  intro w' r1 r2 r3
  rw [h2] at r1
  exact hK w' ⟨c, D, _, r1, h2, h3, fun i => MapAt.has (P := P) (k := k) (w := w) (b := b) (c := c) h3 i⟩ r2 r3
/-- the step -/
theorem wpList_mnext (hg : o.guard = none) (it : Operand) (hop : o.op = Op.next it false) (k : TypeId) (K : Keyed P k) (hk : P.underlying k = some (.int .i64)) (b r c : Nat) (f : Int → Option Value) (left : Int → Bool) (cnt : Nat)
    (hit : a.eval it = .pointer (some ⟨r, 0, none⟩)) (h : RangesAt P k w b r c f left cnt)
    (hDone : cnt = 0 → (∀ i, left i = false) → wpList P ops Q rest (a.put o.dst (.tuple #[.bool false])) w)
    (hMore : ∀ (x : Int) (v : Value) (w' : World) (cnt' : Nat), (Lit.int .i64 x).wf = true → left x = true → f x = some v → RangesAt P k w' b r c f (fun i => left i && !decide (i = x)) cnt' → cnt' < cnt → w.grownBy w' (some r) → w'.heap.size = w.heap.size →
      (Instr.entry (.pointer (some ⟨r, 0, none⟩))).run P w' = .ok (.tuple #[.int .i64 x, v]) w' → wpList P ops Q rest (a.put o.dst (.tuple #[.bool true, .int .i64 x, v])) w') :
    wpList P ops Q (o :: rest) a w := by
  obtain ⟨n, D, lf, h1, h2, h3, h4⟩ := h
  refine wpList_next_ranges (α := Int) (β := Value) w hg it hop k K Rv (fun x => .int .i64 x) (fun v => v) (fun key kl h => by obtain ⟨x, h1, _⟩ := Maps.keyOf_int_inv hk h; exact ⟨x, h1⟩) (fun v y _ => ⟨v, rfl⟩) b r n D lf cnt hit h1 ?_ ?_
  · intro h0 hl
    exact hDone h0 (fun i => by rw [← h4 i]; exact hl _)
  · intro x v kl y w' cnt' hkey hlk hv hat hrg hlt hgr hsz hen
    obtain ⟨x', e1, rfl, hw⟩ := Maps.keyOf_int_inv hk hkey
    simp only [Value.int.injEq, true_and] at e1
    subst e1
    have hfx : f x = some v := by
      have q0 := h3 x .nil
      rw [hat .nil] at q0
      simp only [Rv, Option.some.injEq] at hv
      rw [← hv] at q0
      cases hf : f x with
      | none => rw [hf] at q0; simp [Rd] at q0
      | some u => rw [hf] at q0; simp [Rd] at q0; rw [q0]
    refine hMore x v w' cnt' hw (by rw [← h4 x]; exact hlk) hfx ⟨n, D, _, hrg, h2, h3, fun i => ?_⟩ hlt hgr hsz hen
    show (lf (.int .i64 i) && !(Lit.int .i64 i).sameKey (.int .i64 x)) = _
    rw [h4 i]
    by_cases e : i = x
    · subst e; rw [WideAt.sameKey_self (isKey_int _)]; simp
    · rw [Maps.sameKey_ne (by simpa using e)]; simp [e]
/-- 'delete(m, k)' in the round -/
theorem wpList_mdrop (hg : o.guard = none) (m x : Operand) (t k : TypeId) (hop : o.op = Op.call { callee := Callee.builtin Builtin.delete, args := #[m, x], argTypes := #[t, k] })
    (e : TypeId) (K : Keyed P k) (hk : P.underlying k = some (.int .i64)) (ht : P.underlying t = some (.map k e)) (b r c : Nat) (f : Int → Option Value) (left : Int → Bool) (cnt : Nat)
    (hm : a.eval m = .map (some b)) (h : RangesAt P k w b r c f left cnt) (i : Int) (hx : a.eval x = .int .i64 i) (hw : (Lit.int .i64 i).wf = true)
    (hK : ∀ w' cnt', RangesAt P k w' b r (if (f i).isSome then c - 1 else c) (fun j => if j = i then none else f j) (fun j => left j && !decide (j = i)) cnt' → cnt' ≤ cnt → w.mapTurned w' b → wpList P ops Q rest (a.put o.dst (.tuple #[])) w') :
    wpList P ops Q (o :: rest) a w := by
  obtain ⟨n, D, lf, h1, h2, h3, h4⟩ := h
  have tidy := h1.owns.tidy K
  have e1 := MapAt.has (P := P) (k := k) (w := w) (b := b) (c := c) h3 i
  refine wpList_delete_ranges w hg m x t k hop e K ht Rv b r n D lf cnt hm h1 _ (.int .i64 i) hx (Maps.keyOf_int_mk hk hw) ?_
  intro w' cnt' hrg hle ht'
  have sz : Maps.size (D.del (.int .i64 i)) = if (f i).isSome then c - 1 else c := by
    have q := Maps.size_del (k := .int .i64 i) tidy
    rw [e1, h2] at q
    split <;> simp_all
    omega
  refine hK w' cnt' ⟨n, _, _, hrg, sz, fun j z => ?_, fun j => ?_⟩ hle ht'
  · by_cases hj : j = i
    · subst hj
      rw [Maps.atKey_del_same]
      simp [Rd]
    · rw [Maps.atKey_del_other (by simp [hj]), h3 j z]
      simp [hj]
  · show (lf (.int .i64 j) && !(Lit.int .i64 j).sameKey (.int .i64 i)) = _
    rw [h4 j]
    by_cases e : j = i
    · subst e; rw [WideAt.sameKey_self (isKey_int _)]; simp
    · rw [Maps.sameKey_ne (by simpa using e)]; simp [e]
end
end Go.Proofs.YtcicfchpcbfdkaaGreatDoor
