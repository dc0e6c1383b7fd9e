import Derived.Test.YthbcdpckckellaaDoorWorld
import Derived.Maps.OwnSet
import Derived.Maps.Views
import Derived.ChangeAlike
/-! Maps with integer keys as functions: what lies at each key. Of whatever program. -/
namespace Go.Proofs.YthbcdpckckellaaDoor
open Go.RowKit Go.ChangeShapes Go.WideShapes
open Go.Maps (Keyed)
set_option linter.unusedVariables false
set_option linter.unusedSimpArgs false

/-- a value as it is -/
def Rv (v : Value) : Option (DataW Value × List MemPlace) := some (.held v, [])
/-- what is read, or z -/
def Rd (o : Option Value) (z : DataW Value) : DataW Value := match o with
  | some v => .held v
  | none => z
/-- block b is a map keyed by int: f tells what lies at a key, c how many there are -/
def MapAt (P : Program) (k : TypeId) (w : World) (b c : Nat) (f : Int → Option Value) : Prop :=
  ∃ D : DataW Value, w.ownsMap P k Rv b c D ∧ Maps.size D = c ∧ ∀ (i : Int) (z : DataW Value), D.atKey (.int .i64 i) z = Rd (f i) z
theorem owns_tight {P : Program} {k : TypeId} {w : World} {b n : Nat} {D : DataW Value} (h : w.ownsMap P k Rv b n D) : w.ownsMap P k Rv b (Maps.size D) D := by
  obtain ⟨es, clock, h1, F, hn, rfl⟩ := h
  refine ⟨es, clock, h1, F, ?_, rfl⟩
  simp [Maps.size_eq, length_sorted]
theorem MapAt.made (P : Program) (k : TypeId) (w : World) : MapAt P k (w.alloc (.map #[] 0)) w.heap.size 0 (fun _ => none) :=
  ⟨.map [], World.ownsMap_made _ _ _ _, rfl, fun i z => by simp [DataW.atKey, Rd]⟩
theorem MapAt.kept {P : Program} {k : TypeId} {w w' : World} {b c : Nat} {f : Int → Option Value} {row : Option Nat} (h : MapAt P k w b c f) (hg : w.grownBy w' row) (hne : some b ≠ row) : MapAt P k w' b c f := by
  obtain ⟨D, h1, h2, h3⟩ := h
  exact ⟨D, h1.kept hg hne, h2, h3⟩
theorem MapAt.block {P : Program} {k : TypeId} {w w' : World} {b c : Nat} {f : Int → Option Value} (h : MapAt P k w b c f) (hb : w'.heap[b]? = w.heap[b]?) : MapAt P k w' b c f := by
  obtain ⟨D, ⟨es, clock, q1, F, hn, e⟩, h2, h3⟩ := h
  exact ⟨D, ⟨es, clock, by rw [hb]; exact q1, F, hn, e⟩, h2, h3⟩
theorem MapAt.lt {P : Program} {k : TypeId} {w : World} {b c : Nat} {f : Int → Option Value} (h : MapAt P k w b c f) : b < w.heap.size := by
  obtain ⟨D, h1, _⟩ := h; exact h1.lt
theorem MapAt.below {P : Program} {k : TypeId} {w w' : World} {b c M : Nat} {f : Int → Option Value} (h : MapAt P k w b c f) (hb : Below M w w') (hM : b < M) : MapAt P k w' b c f := h.block (hb.block b hM)
theorem MapAt.has {P : Program} {k : TypeId} {w : World} {b c : Nat} {f : Int → Option Value} {D : DataW Value} (h3 : ∀ (i : Int) (z : DataW Value), D.atKey (.int .i64 i) z = Rd (f i) z) (i : Int) : Maps.has D (.int .i64 i) = (f i).isSome := by
  cases hf : f i with
  | none => exact Maps.has_false_of_atKey (fun z => by rw [h3 i z, hf]; rfl)
  | some v => exact Maps.has_true_of_atKey (y := .held v) (fun z => by rw [h3 i z, hf]; rfl)
theorem isKey_int (i : Int) : WideAt.IsKeyLit (.int .i64 i) := by simp [WideAt.IsKeyLit]

theorem MapAt.drew {P : Program} {k : TypeId} {w : World} {b c : Nat} {f : Int → Option Value} (h : MapAt P k w b c f) : MapAt P k w.drew b c f := h
/-- 'v, ok := m[k]', run -/
theorem MapAt.look_run {P : Program} {k e t : TypeId} {w : World} {b c : Nat} {f : Int → Option Value} (hown : MapAt P k w b c f) (K : Keyed P k) (hk : P.underlying k = some (.int .i64)) (ht : P.underlying t = some (.map k e)) {z : Value} (hz : (zeroValue e).run P w = .ok z w) (i : Int) (hw : (Lit.int .i64 i).wf = true) :
    (Instr.lookup t (.map (some b)) (.int .i64 i) true).run P w = .ok (.tuple #[(f i).getD z, .bool (f i).isSome]) w := by
  obtain ⟨D, h1, h2, h3⟩ := hown
  obtain ⟨v, ps, hrun, hv⟩ := h1.look_ok K ht hz (zd := .held z) (zp := []) rfl (Maps.keyOf_int_mk hk hw)
  rw [hrun, MapAt.has (P := P) (k := k) (w := w) (b := b) (c := c) h3 i]
  have e2 : v = (f i).getD z := by
    rw [h3 i (.held z)] at hv
    simp only [Rv, Option.some.injEq, Prod.mk.injEq] at hv
    cases hf : f i with
    | none => rw [hf] at hv; simp [Rd] at hv; simp [hv.1]
    | some u => rw [hf] at hv; simp [Rd] at hv; simp [hv.1]
  rw [e2]
/-- 'm[k] = v', run -/
theorem MapAt.put_run {P : Program} {k e t : TypeId} {w : World} {b c : Nat} {f : Int → Option Value} (hown : MapAt P k w b c f) (K : Keyed P k) (hk : P.underlying k = some (.int .i64)) (ht : P.underlying t = some (.map k e)) (hc : c < maxLen) (i : Int) (val : Value) (hw : (Lit.int .i64 i).wf = true) :
    ∃ w', (Instr.mapUpdate t (.map (some b)) (.int .i64 i) val).run P w = .ok () w' ∧ MapAt P k w' b (if (f i).isSome then c else c + 1) (fun j => if j = i then some val else f j) ∧ w.grownBy w' (some b) := by
  obtain ⟨D, h1, h2, h3⟩ := hown
  have tidy := h1.tidy K
  have e1 := MapAt.has (P := P) (k := k) (w := w) (b := b) (c := c) h3 i
  obtain ⟨w', hrun, hown', hgr⟩ := h1.update K ht hc (Maps.keyOf_int_mk hk hw) (val := val) (d := .held val) (ps := []) rfl
  have sz : Maps.size (D.put (.int .i64 i) (.held val)) = if (f i).isSome then c else c + 1 := by rw [Maps.size_put tidy, e1, h2]
  refine ⟨w', hrun, ⟨_, by rw [← sz]; exact owns_tight hown', sz, fun j z => ?_⟩, hgr⟩
  by_cases hj : j = i
  · subst hj
    rw [Maps.atKey_put_same tidy.isMap (isKey_int _)]
    simp [Rd]
  · rw [Maps.atKey_put_other (by simp [hj]), h3 j z]
    simp [hj]
section
variable {P : Program} (w : World) {ops : Array Oper} {rest : List Oper} {o : Oper} {a : Act} {Q : Exit → Act → World → Prop}
/-- 'v, ok := m[k]' -/
theorem wpList_mlook (hg : o.guard = none) (m x : Operand) (t : TypeId) (hop : o.op = Op.lookup t m x true) (k e : TypeId) (K : Keyed P k) (hk : P.underlying k = some (.int .i64)) (ht : P.underlying t = some (.map k e)) {z : Value} (hz : (zeroValue e).run P w = .ok z w) (b c : Nat) (f : Int → Option Value)
    (hm : a.eval m = .map (some b)) (hown : MapAt P k w b c f) (i : Int) (hx : a.eval x = .int .i64 i) (hw : (Lit.int .i64 i).wf = true)
    (hK : wpList P ops Q rest (a.put o.dst (.tuple #[(f i).getD z, .bool (f i).isSome])) w) : wpList P ops Q (o :: rest) a w := by
  obtain ⟨D, h1, h2, h3⟩ := hown
  refine wpList_lookup_own_ok w hg m x t hop k e K ht Rv hz (.held z) [] rfl b c D hm h1 _ (.int .i64 i) hx (Maps.keyOf_int_mk hk hw) ?_
  intro v ps hv
  have e1 := MapAt.has (P := P) (k := k) (w := w) (b := b) (c := c) h3 i
  have e2 : v = (f i).getD z := by
    rw [h3 i (.held z)] at hv
    simp only [Rv, Option.some.injEq, Prod.mk.injEq] at hv
    cases hf : f i with
    | none => rw [hf] at hv; simp [Rd] at hv; simp [hv.1]
    | some u => rw [hf] at hv; simp [Rd] at hv; simp [hv.1]
  rw [e1, e2]
  exact hK
/-- 'm[k] = v' -/
theorem wpList_mput (hg : o.guard = none) (m x v : Operand) (t : TypeId) (hop : o.op = Op.mapUpdate t m x v) (k e : TypeId) (K : Keyed P k) (hk : P.underlying k = some (.int .i64)) (ht : P.underlying t = some (.map k e)) (b c : Nat) (f : Int → Option Value)
    (hm : a.eval m = .map (some b)) (hown : MapAt P k w b c f) (hc : c < maxLen) (i : Int) (val : Value) (hx : a.eval x = .int .i64 i) (hv : a.eval v = val) (hw : (Lit.int .i64 i).wf = true)
    (hK : ∀ w', MapAt P k w' b (if (f i).isSome then c else c + 1) (fun j => if j = i then some val else f j) → w.grownBy w' (some b) → wpList P ops Q rest (a.put o.dst undef) w') : wpList P ops Q (o :: rest) a w := by
  obtain ⟨D, h1, h2, h3⟩ := hown
  have tidy := h1.tidy K
  have e1 := MapAt.has (P := P) (k := k) (w := w) (b := b) (c := c) h3 i
  refine wpList_mapUpdate_own w hg m x v t hop k e K ht Rv b c D hm h1 hc _ val (.int .i64 i) hx hv (Maps.keyOf_int_mk hk hw) (.held val) [] rfl ?_
  intro w' hown' hgr
  have sz : Maps.size (D.put (.int .i64 i) (.held val)) = if (f i).isSome then c else c + 1 := by rw [Maps.size_put tidy, e1, h2]
  refine hK w' ⟨_, by rw [← sz]; exact owns_tight hown', sz, fun j z => ?_⟩ hgr
  by_cases hj : j = i
  · subst hj
    rw [Maps.atKey_put_same tidy.isMap (isKey_int _)]
    simp [Rd]
  · rw [Maps.atKey_put_other (by simp [hj]), h3 j z]
    simp [hj]
/-- 'len(m)' -/
theorem wpList_mlen (hg : o.guard = none) (m : Operand) (t : TypeId) (hop : o.op = Op.call { callee := Callee.builtin Builtin.len, args := #[m], argTypes := #[t] })
    (k e : TypeId) (ht : P.underlying t = some (.map k e)) (b c : Nat) (f : Int → Option Value) (hm : a.eval m = .map (some b)) (hown : MapAt P k w b c f)
    (hK : wpList P ops Q rest (a.put o.dst (.int .i64 c)) w) : wpList P ops Q (o :: rest) a w := by
  obtain ⟨D, h1, h2, h3⟩ := hown
  refine wpList_len_own w hg m t hop k e ht Rv b c D hm h1 ?_
  rw [h2]
  exact hK
/-- 'delete(m, k)' -/
theorem wpList_mdel (hg : o.guard = none) (m x : Operand) (t k : TypeId) (hop : o.op = Op.call { callee := Callee.builtin Builtin.delete, args := #[m, x], argTypes := #[t, k] })
    (e : TypeId) (K : Keyed P k) (hk : P.underlying k = some (.int .i64)) (ht : P.underlying t = some (.map k e)) (b c : Nat) (f : Int → Option Value)
    (hm : a.eval m = .map (some b)) (hown : MapAt P k w b c f) (i : Int) (hx : a.eval x = .int .i64 i) (hw : (Lit.int .i64 i).wf = true)
    (hK : ∀ w', MapAt P k w' b (if (f i).isSome then c - 1 else c) (fun j => if j = i then none else f j) → w.mapTurned w' b → wpList P ops Q rest (a.put o.dst (.tuple #[])) w') : wpList P ops Q (o :: rest) a w := by
  obtain ⟨D, h1, h2, h3⟩ := hown
  have tidy := h1.tidy K
  have e1 := MapAt.has (P := P) (k := k) (w := w) (b := b) (c := c) h3 i
  refine wpList_delete_own w hg m x t k hop e K ht Rv b c D hm h1 _ (.int .i64 i) hx (Maps.keyOf_int_mk hk hw) ?_
  intro w' hown' ht'
  have sz : Maps.size (D.del (.int .i64 i)) = if (f i).isSome then c - 1 else c := by
    have q := Maps.size_del (k := .int .i64 i) tidy
    rw [e1, h2] at q
    split <;> simp_all
    omega
  refine hK w' ⟨_, by rw [← sz]; exact owns_tight hown', sz, fun j z => ?_⟩ ht'
  by_cases hj : j = i
  · subst hj
    rw [Maps.atKey_del_same]
    simp [Rd]
  · rw [Maps.atKey_del_other (by simp [hj]), h3 j z]
    simp [hj]
end
end Go.Proofs.YthbcdpckckellaaDoor
