import Derived.Test.YtggfhcidmnageaaDoorPAuditBk
import Derived.Test.YtggfhcidmnageaaDoorIRow
/-! The rows of the law AuditBack in memory. -/
namespace Go.Proofs.YtggfhcidmnageaaDoor
open Go.RowKit
set_option linter.unusedVariables false
set_option linter.unusedSimpArgs false
/-- a row's block, as it stands -/
theorem RecK.Own.blk {α : Type} {R : RecK α} {w : World} {M : Nat} {v : Value} {L : List α} (h : R.Own w M v L) {g : Nat} (e : v.ownBlock = some g) : M ≤ g ∧ ∃ cur, w.heap[g]? = some (.cells cur R.el (0, 0)) := by
  rcases h.2 with ⟨rfl, _⟩ | ⟨g', cap, cur, rfl, hb, hg, _⟩
  · cases e
  · have : g' = g := by simpa [Value.ownBlock] using e
    subst this
    exact ⟨hb, cur, hg⟩
theorem IRow.blk {w : World} {M : Nat} {v : Value} {A : List Int} (h : IRow w M v A) {g : Nat} (e : v.ownBlock = some g) : M ≤ g ∧ ∃ cur, w.heap[g]? = some (.cells cur 3 (0, 0)) := by
  rcases h.2 with ⟨rfl, _⟩ | ⟨g', cap, cur, rfl, hb, hg, _⟩
  · cases e
  · have : g' = g := by simpa [Value.ownBlock] using e
    subst this
    exact ⟨hb, cur, hg⟩
theorem take_rows {α : Type} {R : RecK α} (h : R.Ok) (L : List α) (i : Nat) : (R.all L).take (i * R.n) = R.all (L.take i) := by
  induction L generalizing i with
  | nil => simp [RecK.all]
  | cons x r ih =>
    have e : ∀ (z : α) (s : List α), R.all (z :: s) = R.cells z ++ R.all s := fun z s => by simp [RecK.all]
    cases i with
    | zero => simp [RecK.all]
    | succ i =>
      have hl := h.len x
      rw [e, List.take_succ_cons, e, List.take_append, hl, List.take_of_length_le (by rw [hl, Nat.add_mul]; omega), show (i + 1) * R.n - R.n = i * R.n by rw [Nat.add_mul]; omega, ih]
theorem drop_rows {α : Type} {R : RecK α} (h : R.Ok) (L : List α) (i : Nat) : (R.all L).drop (i * R.n) = R.all (L.drop i) := by
  induction L generalizing i with
  | nil => simp [RecK.all]
  | cons x r ih =>
    have e : ∀ (z : α) (s : List α), R.all (z :: s) = R.cells z ++ R.all s := fun z s => by simp [RecK.all]
    cases i with
    | zero => simp
    | succ i =>
      have hl := h.len x
      rw [e, List.drop_succ_cons, List.drop_append, hl, List.drop_of_length_le (by rw [hl, Nat.add_mul]; omega), show (i + 1) * R.n - R.n = i * R.n by rw [Nat.add_mul]; omega, ih]
      rfl
def ByAt (y : World) (k i : Nat) : Prop := y.heap[k]? = some (.cells #[.int .u8 i] 5 (0, 0))
structure ABk (w : World) (vS vG vH : Value) (P Q : List PX) (J : List Nat) (H : List Int) (y : World) : Prop where
  rS : pbK.Own y w.heap.size vS P
  rG : pbK.Own y w.heap.size vG Q
  rH : IRow y w.heap.size vH H
  ap : ∀ k, vS.ownBlock = some k → vG.ownBlock ≠ some k
  pb : PB P
  bd : ∀ (i : Nat) (x : PX), P[i]? = some x → ∀ k, x.1.oa = some ⟨k, 0, none⟩ → ByAt y k i
  qj : QJ P J Q
  jr : J.Pairwise (· < ·)
  jl : ∀ j ∈ J, j < P.length
  kb : Below w.heap.size w y
namespace ABk
variable {w : World} {vS vG vH : Value} {P Q : List PX} {J : List Nat} {H : List Int} {y z : World}
theorem keep (h : ABk w vS vG vH P Q J H y) (k : Below y.heap.size y z) : ABk w vS vG vH P Q J H z :=
  ⟨h.rS.below k, h.rG.below k, h.rH.below k, h.ap, h.pb, fun i x hx b hb => Below.heapAt k (h.bd i x hx b hb) (lt_of_block (h.bd i x hx b hb)), h.qj, h.jr, h.jl, h.kb.trans (k.mono h.kb.size)⟩
theorem good (h : ABk w vS vG vH P Q J H y) {i : Nat} {x : PX} (hx : P[i]? = some x) : (pbP x).Good y := by
  have a := h.pb i x hx
  obtain ⟨k, hk⟩ := a.oa
  have b := h.bd i x hx k hk
  have hl := a.lt
  refine ⟨?_, ?_, ?_, ?_, ?_⟩
  · show -9223372036854775808 ≤ x.1.s ∧ x.1.s ≤ 9223372036854775807
    rw [a.s]; omega
  · show -9223372036854775808 ≤ x.1.t ∧ x.1.t ≤ 9223372036854775807
    rw [a.t]; omega
  · show -9223372036854775808 ≤ x.1.l ∧ x.1.l ≤ 9223372036854775807
    rw [a.l]; omega
  · show -9223372036854775808 ≤ x.1.lv ∧ x.1.lv ≤ 9223372036854775807
    rw [a.lv]; omega
  · show IsBytes y (.slice x.1.oa x.1.bn x.1.bc) x.2
    rw [hk, a.bn, a.bc, a.by_]
    refine .inr ⟨k, 0, 1, rfl, Nat.le_refl _, by unfold maxLen; omega, fun j hj => ?_⟩
    obtain rfl : j = 0 := by simp at hj; omega
    refine obj_cell b ?_
    have e : i % 256 = i := by omega
    simp [e]
theorem sent (h : ABk w vS vG vH P Q J H y) : IsPks y vS (P.map pbP) :=
  pbK_pks h.rS fun x hx => by
    obtain ⟨i, hi⟩ := List.getElem?_of_mem hx
    exact h.good hi
theorem inP (h : ABk w vS vG vH P Q J H y) {x : PX} (hx : x ∈ Q) : ∃ j : Nat, P[j]? = some x := by
  obtain ⟨k, hk⟩ := List.getElem?_of_mem hx
  have hl := (List.getElem?_eq_some_iff.1 hk).1
  obtain ⟨x', h1, h2⟩ := h.qj.2 k _ (List.getElem?_eq_getElem (by rw [← h.qj.1]; exact hl))
  rw [hk] at h2
  cases h2
  exact ⟨_, h1⟩
theorem row (h : ABk w vS vG vH P Q J H y) {v : Value} {M : Nat} {L : List PX} (hv : pbK.Own y M v L) (hL : ∀ x ∈ L, ∃ j : Nat, P[j]? = some x) : IsPks y v (L.map pbP) :=
  pbK_pks hv fun x hx => by
    obtain ⟨j, hj⟩ := hL x hx
    exact h.good hj
theorem got (h : ABk w vS vG vH P Q J H y) : IsPks y vG (Q.map pbP) := h.row h.rG fun x hx => h.inP hx
theorem diff {y : World} {g : Nat} {c c' : Array Value} {t t' : TypeId} {f f' : Nat × Nat} (h : y.heap[g]? = some (.cells c t f)) (h' : y.heap[g]? = some (.cells c' t' f')) : t = t' := by
  rw [h] at h'; cases h'; rfl
/-- one more that is sent -/
theorem moreS (h : ABk w vS vG vH P Q J H y) (x : PX) (hx : BkAt x P.length) (hb : ∀ k, x.1.oa = some ⟨k, 0, none⟩ → ByAt y k P.length) :
    ∃ g c w', (Builtin.append_ #[30, 30] 30 #[vS, .slice (some ⟨y.heap.size, 0, none⟩) 1 1]).run Tryd.prog (y.alloc (.cells (PkR.cells x.1).toArray 29)) = .ok (.slice (some ⟨g, 0, none⟩) (P.length + 1) c) w' ∧ ABk w (.slice (some ⟨g, 0, none⟩) (P.length + 1) c) vG vH (P ++ [x]) Q J H w' ∧ ∀ j o, y.heap[j]? = some o → vS.ownBlock ≠ some j → w'.heap[j]? = some o := by
  have hl := hx.lt
  have kA : Below y.heap.size y (y.alloc (.cells (PkR.cells x.1).toArray 29)) := (Below.refl _ _).alloc (Nat.le_refl _) _
  obtain ⟨v', w', hr, ho, hg, hbk⟩ := RecK.run_one pbK_ok (y.alloc (.cells (PkR.cells x.1).toArray 29)) w.heap.size vS x P (h.rS.below kA) y.heap.size (obj_new _ _) (by omega) (by have := h.kb.size; simp; omega)
  have ho' := ho
  obtain ⟨g, c, rfl⟩ := Joins.ownsRow_form ho (by simp)
  have e : (P ++ [x]).length = P.length + 1 := by simp
  rw [e] at hr ho'
  have hold : ∀ j o, y.heap[j]? = some o → vS.ownBlock ≠ some j → w'.heap[j]? = some o := fun j o hj hn =>
    ((hg.block j (by have := lt_of_block hj; simp; omega) (fun q => hn q.symm)).trans (kA.block j (lt_of_block hj))).trans hj
  have hnb : g = y.heap.size + 1 ∨ vS.ownBlock = some g := by
    rcases hbk with q | q
    · right; rw [← q]; rfl
    · left; simp [Value.ownBlock] at q; omega
  refine ⟨g, c, w', hr, ⟨?_, ?_, ?_, ?_, ?_, ?_, h.qj.more x, h.jr, fun j hj => by have := h.jl j hj; simp; omega, ?_⟩, hold⟩
  · unfold RecK.Own at ho' ⊢; rw [e]; simpa using ho'
  · refine h.rG.keep fun k hk _ hlt => ?_
    obtain ⟨_, cur, hc⟩ := h.rG.blk hk
    rw [hold k _ hc (fun q => h.ap k q hk), hc]
  · refine intRow_keep h.rH fun k cur hc _ => ?_
    rw [hold k _ hc (fun q => by
      obtain ⟨_, cur', hc'⟩ := h.rS.blk q
      exact absurd (diff hc hc') (by decide)), hc]
  · intro k hk hk2
    have : k = g := by simpa [Value.ownBlock] using hk.symm
    subst this
    rcases hnb with q | q
    · have := (h.rG.lt _ hk2).2; omega
    · exact h.ap _ q hk2
  · intro i u hu
    rcases Nat.lt_trichotomy i P.length with q | q | q
    · rw [List.getElem?_append_left q] at hu; exact h.pb i u hu
    · subst q; simp at hu; subst hu; exact hx
    · rw [List.getElem?_eq_none (by simp; omega)] at hu; cases hu
  · intro i u hu k hk
    have old : ByAt y k i := by
      rcases Nat.lt_trichotomy i P.length with q | q | q
      · rw [List.getElem?_append_left q] at hu; exact h.bd i u hu k hk
      · subst q; simp at hu; subst hu; exact hb k hk
      · rw [List.getElem?_eq_none (by simp; omega)] at hu; cases hu
    exact hold k _ old (fun q => by
      obtain ⟨_, cur', hc'⟩ := h.rS.blk q
      exact absurd (diff old hc') (by decide))
  · have k2 := h.kb
    exact ⟨hg.os.trans (kA.os.trans k2.os), hg.tape.trans (kA.tape.trans k2.tape), hg.output.trans (kA.output.trans k2.output), Nat.le_trans k2.size (Nat.le_trans kA.size hg.size), fun j hj => (hg.block j (by have := k2.size; simp; omega) (fun q => by have := (h.rS.lt j q.symm).1; omega)).trans ((kA.block j (by have := k2.size; omega)).trans (k2.block j hj))⟩
/-- one more that is got -/
theorem moreG (h : ABk w vS vG vH P Q J H y) (x : PX) {j : Nat} (hx : P[j]? = some x) (hj : ∀ i ∈ J, i < j) (hQ : Q.length ≤ 999) :
    ∃ g c w', (Builtin.append_ #[30, 30] 30 #[vG, .slice (some ⟨y.heap.size, 0, none⟩) 1 1]).run Tryd.prog (y.alloc (.cells (PkR.cells x.1).toArray 29)) = .ok (.slice (some ⟨g, 0, none⟩) (Q.length + 1) c) w' ∧ ABk w vS (.slice (some ⟨g, 0, none⟩) (Q.length + 1) c) vH P (Q ++ [x]) (J ++ [j]) H w' ∧ ∀ j o, y.heap[j]? = some o → vG.ownBlock ≠ some j → w'.heap[j]? = some o := by
  have kA : Below y.heap.size y (y.alloc (.cells (PkR.cells x.1).toArray 29)) := (Below.refl _ _).alloc (Nat.le_refl _) _
  obtain ⟨v', w', hr, ho, hg, hbk⟩ := RecK.run_one pbK_ok (y.alloc (.cells (PkR.cells x.1).toArray 29)) w.heap.size vG x Q (h.rG.below kA) y.heap.size (obj_new _ _) (by omega) (by have := h.kb.size; simp; omega)
  have ho' := ho
  obtain ⟨g, c, rfl⟩ := Joins.ownsRow_form ho (by simp)
  have e : (Q ++ [x]).length = Q.length + 1 := by simp
  rw [e] at hr ho'
  have hold : ∀ j o, y.heap[j]? = some o → vG.ownBlock ≠ some j → w'.heap[j]? = some o := fun j o hj hn =>
    ((hg.block j (by have := lt_of_block hj; simp; omega) (fun q => hn q.symm)).trans (kA.block j (lt_of_block hj))).trans hj
  have hnb : g = y.heap.size + 1 ∨ vG.ownBlock = some g := by
    rcases hbk with q | q
    · right; rw [← q]; rfl
    · left; simp [Value.ownBlock] at q; omega
  refine ⟨g, c, w', hr, ⟨?_, ?_, ?_, ?_, h.pb, ?_, h.qj.take hx, ?_, ?_, ?_⟩, hold⟩
  · refine h.rS.keep fun k hk _ hlt => ?_
    obtain ⟨_, cur, hc⟩ := h.rS.blk hk
    rw [hold k _ hc (h.ap k hk), hc]
  · unfold RecK.Own at ho' ⊢; rw [e]; simpa using ho'
  · refine intRow_keep h.rH fun k cur hc _ => ?_
    rw [hold k _ hc (fun q => by
      obtain ⟨_, cur', hc'⟩ := h.rG.blk q
      exact absurd (diff hc hc') (by decide)), hc]
  · intro k hk hk2
    have : k = g := by simpa [Value.ownBlock] using hk2.symm
    subst this
    rcases hnb with q | q
    · have := (h.rS.lt _ hk).2; omega
    · exact h.ap _ hk q
  · intro i u hu k hk
    exact hold k _ (h.bd i u hu k hk) (fun q => by
      obtain ⟨_, cur', hc'⟩ := h.rG.blk q
      exact absurd (diff (h.bd i u hu k hk) hc') (by decide))
  · exact List.pairwise_append.2 ⟨h.jr, by simp, fun a ha b hb => by
      have : b = j := by simpa using hb
      subst this; exact hj a ha⟩
  · intro i hi
    rcases List.mem_append.1 hi with hi | hi
    · exact h.jl i hi
    · have : i = j := by simpa using hi
      subst this
      exact (List.getElem?_eq_some_iff.1 hx).1
  · have k2 := h.kb
    exact ⟨hg.os.trans (kA.os.trans k2.os), hg.tape.trans (kA.tape.trans k2.tape), hg.output.trans (kA.output.trans k2.output), Nat.le_trans k2.size (Nat.le_trans kA.size hg.size), fun j hj => (hg.block j (by have := k2.size; simp; omega) (fun q => by have := (h.rG.lt j q.symm).1; omega)).trans ((kA.block j (by have := k2.size; omega)).trans (k2.block j hj))⟩
/-- one more hole -/
theorem moreH (h : ABk w vS vG vH P Q J H y) (x : Int) (hn : H.length ≤ 1000) :
    ∃ g c w', (Builtin.append_ #[22, 22] 22 #[vH, .slice (some ⟨y.heap.size, 0, none⟩) 1 1]).run Tryd.prog (y.alloc (.cells #[.int .i64 x] 3)) = .ok (.slice (some ⟨g, 0, none⟩) (H.length + 1) c) w' ∧ ABk w vS vG (.slice (some ⟨g, 0, none⟩) (H.length + 1) c) P Q J (H ++ [x]) w' ∧ ∀ j o, y.heap[j]? = some o → vH.ownBlock ≠ some j → w'.heap[j]? = some o := by
  have kA : Below y.heap.size y (y.alloc (.cells #[.int .i64 x] 3)) := (Below.refl _ _).alloc (Nat.le_refl _) _
  obtain ⟨v', w', hr, ho, hg, hbk⟩ := run_moreInt2 (y.alloc (.cells #[.int .i64 x] 3)) w.heap.size vH x H.length (H.map encI) (h.rH.below kA) y.heap.size (obj_new _ _) (by omega) (by have := h.kb.size; simp; omega)
  have ho' := ho
  obtain ⟨g, c, rfl⟩ := Joins.ownsRow_form ho (by omega)
  have hold : ∀ j o, y.heap[j]? = some o → vH.ownBlock ≠ some j → w'.heap[j]? = some o := fun j o hj hn =>
    ((hg.block j (by have := lt_of_block hj; simp; omega) (fun q => hn q.symm)).trans (kA.block j (lt_of_block hj))).trans hj
  refine ⟨g, c, w', hr, ⟨?_, ?_, ?_, h.ap, h.pb, ?_, h.qj, h.jr, h.jl, ?_⟩, hold⟩
  · refine h.rS.keep fun k hk _ hlt => ?_
    obtain ⟨_, cur, hc⟩ := h.rS.blk hk
    rw [hold k _ hc (fun q => by
      obtain ⟨_, cur', hc'⟩ := h.rH.blk q
      exact absurd (diff hc hc') (by decide)), hc]
  · refine h.rG.keep fun k hk _ hlt => ?_
    obtain ⟨_, cur, hc⟩ := h.rG.blk hk
    rw [hold k _ hc (fun q => by
      obtain ⟨_, cur', hc'⟩ := h.rH.blk q
      exact absurd (diff hc hc') (by decide)), hc]
  · unfold IRow; rw [List.map_append, List.length_append]; exact ho'
  · intro i u hu k hk
    exact hold k _ (h.bd i u hu k hk) (fun q => by
      obtain ⟨_, cur', hc'⟩ := h.rH.blk q
      exact absurd (diff (h.bd i u hu k hk) hc') (by decide))
  · have k2 := h.kb
    exact ⟨hg.os.trans (kA.os.trans k2.os), hg.tape.trans (kA.tape.trans k2.tape), hg.output.trans (kA.output.trans k2.output), Nat.le_trans k2.size (Nat.le_trans kA.size hg.size), fun j hj => (hg.block j (by have := k2.size; simp; omega) (fun q => by have := (h.rH.lt j q.symm).1; omega)).trans ((kA.block j (by have := k2.size; omega)).trans (k2.block j hj))⟩
/-- where another row of packets is written -/
theorem keepBut (h : ABk w vS vG vH P Q J H y) {b : Nat} {cur : Array Value} (hb : y.heap[b]? = some (.cells cur 29 (0, 0))) (hw : w.heap.size ≤ b) (h1 : vS.ownBlock ≠ some b) (h2 : vG.ownBlock ≠ some b) (k : KeepsBut b y z) : ABk w vS vG vH P Q J H z := by
  refine ⟨?_, ?_, ?_, h.ap, h.pb, ?_, h.qj, h.jr, h.jl, h.kb.trans (k.below h.kb.size hw)⟩
  · exact h.rS.keep fun g hg _ hl => k.block g hl (fun q => h1 (by rw [hg, q]))
  · exact h.rG.keep fun g hg _ hl => k.block g hl (fun q => h2 (by rw [hg, q]))
  · exact intRow_keep h.rH fun g o hg _ => k.block g (lt_of_block hg) (fun q => by subst q; exact absurd (diff hg hb) (by decide))
  · intro i u hu g hg
    have := h.bd i u hu g hg
    exact Keeps.heap k this (fun q => by subst q; exact absurd (diff this hb) (by decide))
end ABk
theorem set3p (l : List Value) (k : Nat) (a b c : Value) (h : k + 3 ≤ l.length) : ((l.set k a).set (k + 1) b).set (k + 2) c = l.take k ++ [a, b, c] ++ l.drop (k + 3) := by
  apply List.ext_getElem?
  intro j
  have hm : min k l.length = k := by omega
  simp only [List.getElem?_set, List.getElem?_append, List.getElem?_take, List.length_take, List.length_append, List.length_set, List.getElem?_drop, hm, List.length_cons, List.length_nil]
  rcases Nat.lt_trichotomy j k with q | q | q
  · rw [if_neg (by omega), if_neg (by omega), if_neg (by omega), if_pos (by omega), if_pos q, if_pos q]
  · subst q
    rw [if_neg (by omega), if_neg (by omega), if_pos rfl, if_pos (by omega), if_pos (by omega), if_neg (by omega), Nat.sub_self]; rfl
  · by_cases q1 : j = k + 1
    · subst q1
      rw [if_neg (by omega), if_pos rfl, if_pos (by omega), if_pos (by omega), if_neg (by omega), show k + 1 - k = 1 by omega]; rfl
    · by_cases q2 : j = k + 2
      · subst q2
        rw [if_pos rfl, if_pos (by omega), if_pos (by omega), if_neg (by omega), show k + 2 - k = 2 by omega]; rfl
      · rw [if_neg (by omega), if_neg (by omega), if_neg (by omega), if_neg (by omega), show k + 3 + (j - (k + (0 + 1 + 1 + 1))) = j by omega]
theorem set6p (l : List Value) (k : Nat) (a b c d e f : Value) (h : k + 6 ≤ l.length) : (((((l.set k a).set (k + 1) b).set (k + 2) c).set (k + 3) d).set (k + 4) e).set (k + 5) f = l.take k ++ [a, b, c, d, e, f] ++ l.drop (k + 6) := by
  rw [set3p l k a b c (by omega)]
  have lt : (l.take k).length = k := by rw [List.length_take]; omega
  have l3 : (l.take k ++ [a, b, c]).length = k + 3 := by rw [List.length_append, lt]; rfl
  have ld : (l.drop (k + 3)).length = l.length - (k + 3) := List.length_drop
  have q := set3p (l.take k ++ [a, b, c] ++ l.drop (k + 3)) (k + 3) d e f (by rw [List.length_append, l3, ld]; omega)
  rw [show k + 4 = k + 3 + 1 from rfl, show k + 5 = k + 3 + 2 from rfl, q]
  rw [List.take_left' l3, List.drop_append, List.drop_of_length_le (by rw [l3]; omega), l3, show k + 3 + 3 - (k + 3) = 3 by omega, List.drop_drop]
  simp
/-- a packet is put into a row -/
theorem pb_set {w : World} {M g c i : Nat} {L : List PX} (x : PX) (h : pbK.Own w M (.slice (some ⟨g, 0, none⟩) L.length c) L) (hi : i < L.length) :
    pbK.Own ((((((w.setCell ⟨g, i * 6, none⟩ (.int .i64 x.1.s)).setCell ⟨g, i * 6 + 1, none⟩ (.int .i64 x.1.t)).setCell ⟨g, i * 6 + 2, none⟩ (.int .i64 x.1.l)).setCell ⟨g, i * 6 + 3, none⟩ (.int .i64 x.1.lv)).setCell ⟨g, i * 6 + 4, none⟩ (.bool x.1.st)).setCell ⟨g, i * 6 + 5, none⟩ (.slice x.1.oa x.1.bn x.1.bc)) M (.slice (some ⟨g, 0, none⟩) L.length c) (L.set i x) := by
  rcases h.2 with ⟨e, _⟩ | ⟨g', c', cur, e, h1, hg, h3, h4, h5, h6⟩
  · cases e
  cases e
  have k1 := obj_set (obj_set (obj_set (obj_set (obj_set (obj_set hg (i * 6) (.int .i64 x.1.s)) (i * 6 + 1) (.int .i64 x.1.t)) (i * 6 + 2) (.int .i64 x.1.l)) (i * 6 + 3) (.int .i64 x.1.lv)) (i * 6 + 4) (.bool x.1.st)) (i * 6 + 5) (.slice x.1.oa x.1.bn x.1.bc)
  have hall : ∀ S : List PX, (pbK.all S).length = S.length * 6 := fun S => RecK.all_len pbK pbK_ok S
  have hcl : L.length * 6 ≤ cur.toList.length := by
    have : cur.size = c * 6 := h5
    simp [this]; omega
  refine ⟨by rw [hall]; simp; rfl, .inr ⟨g, c, _, by rw [List.length_set], h1, k1, by rw [List.length_set]; exact h3, h4, by simp; exact h5, ?_⟩⟩
  simp only [Array.toList_setIfInBounds]
  have e6 : (((((cur.toList.set (i * 6) (.int .i64 x.1.s)).set (i * 6 + 1) (.int .i64 x.1.t)).set (i * 6 + 2) (.int .i64 x.1.l)).set (i * 6 + 3) (.int .i64 x.1.lv)).set (i * 6 + 4) (.bool x.1.st)).set (i * 6 + 5) (.slice x.1.oa x.1.bn x.1.bc) = cur.toList.take (i * 6) ++ PkR.cells x.1 ++ cur.toList.drop (i * 6 + 6) := by
    exact set6p _ _ _ _ _ _ _ _ (by omega)
  rw [e6]
  have hset : L.set i x = L.take i ++ x :: L.drop (i + 1) := by rw [List.set_eq_take_append_cons_drop, if_pos hi]
  have e1 : cur.toList.take (i * 6) = pbK.all (L.take i) := by
    have h6' : cur.toList.take (L.length * 6) = pbK.all L := h6
    have hh : (pbK.all L).take (i * 6) = pbK.all (L.take i) := take_rows pbK_ok L i
    rw [← h6', List.take_take, Nat.min_eq_left (by omega)] at hh
    exact hh
  have e2 : cur.toList.drop (i * 6 + 6) = pbK.all (L.drop (i + 1)) ++ cur.toList.drop (L.length * 6) := by
    have h6' : cur.toList.take (L.length * 6) = pbK.all L := h6
    have hh : (pbK.all L).drop ((i + 1) * 6) = pbK.all (L.drop (i + 1)) := drop_rows pbK_ok L (i + 1)
    rw [← hh, ← h6']
    rw [show cur.toList.drop (i * 6 + 6) = (cur.toList.take (L.length * 6) ++ cur.toList.drop (L.length * 6)).drop (i * 6 + 6) by rw [List.take_append_drop], List.drop_append, List.length_take]
    rw [show i * 6 + 6 - min (L.length * 6) cur.toList.length = 0 by omega, List.drop_zero, show (i + 1) * 6 = i * 6 + 6 by omega]
  have e3 : pbK.all (L.set i x) = pbK.all (L.take i) ++ (PkR.cells x.1 ++ pbK.all (L.drop (i + 1))) := by
    rw [hset, RecK.all_app]; rfl
  rw [e3, e1, e2]
  have ht := hall (L.take i)
  have hd := hall (L.drop (i + 1))
  rw [← List.append_assoc, ← List.append_assoc]
  refine List.take_left' ?_
  simp only [List.length_append, ht, hd, List.length_take, List.length_drop, List.length_set]
  show _ = L.length * 6
  simp [PkR.cells]
  omega
end Go.Proofs.YtggfhcidmnageaaDoor
