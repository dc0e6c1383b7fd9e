import Derived.Test.YtlfdkoebjddokaaDoorRefOrderR
import Derived.Test.YtlfdkoebjddokaaDoorOrderBad
import Derived.Test.YtlfdkoebjddokaaDoorPRow
import Derived.Test.YtlfdkoebjddokaaDoorSameIt
import Derived.Test.YtlfdkoebjddokaaDoorByteKeep
import Derived.Test.YtlfdkoebjddokaaDoorArr3
import Derived.Test.YtlfdkoebjddokaaDoorMapCnt
/-! What the law OrderPlays keeps: both orders side by side. -/
namespace Go.Proofs.YtlfdkoebjddokaaDoor
open Go.RowKit
set_option linter.unusedVariables false
set_option linter.unusedSimpArgs false
/-- what is kept of both -/
def KOk (M : Nat) (y : World) (B : Nat → Prop) (f : Int → Option Value) (x : KI) : Prop :=
  ∃ (oa : Option Addr) (bc : Nat) (body : List UInt8), f x.num = some (keptV x.num x.gone x.s x.t x.l x.lv x.st (.slice oa body.length bc) x.at_) ∧ IsBytes y (.slice oa body.length bc) body ∧ IsBytes y (.slice x.oa x.bn x.bc) body ∧ body.length ≤ 1000 ∧ (∀ a, oa = some a → body ≠ [] → B a.block) ∧ (∀ a, x.oa = some a → body ≠ [] → a.block < M)
theorem KOk.keep {M : Nat} {y z : World} {B B' : Nat → Prop} {f f' : Int → Option Value} {x : KI} (h : KOk M y B f x) (k : ∀ j, (B j ∨ j < M) → z.heap[j]? = y.heap[j]?) (hB : ∀ j, B j → B' j) (hf : f' x.num = f x.num) : KOk M z B' f' x := by
  obtain ⟨oa, bc, body, h1, h2, h3, h4, h5, h6⟩ := h
  exact ⟨oa, bc, body, hf.trans h1, bytes_keep h2 h5 (fun j hj => k j (.inl hj)), bytes_keep h3 h6 (fun j hj => k j (.inr hj)), h4, fun a e hl => hB _ (h5 a e hl), h6⟩
structure QO (M A X : Nat) (w0 : World) (a : Nat → Int) (s t l lv : Int) (st : Bool) (bv : Value) (wait : Int) (b bm rb : Nat) (now next : Int) (c : Nat) (f : Int → Option Value) (now' next' : Int) (v : Value) (L : List KI) (Lv : List KI) (B : Nat → Prop) (y : World) : Prop where
  p : Ord y b now wait next bm c f
  r : ROrd M y rb wait now' next' v L
  arr : Arr3 y A a
  box : PkIn y X s t l lv st bv
  val : ∀ x ∈ Lv, KOk M y B f x
  low : M ≤ b ∧ M ≤ bm
  sep : ∀ k, B k → k < y.heap.size ∧ k ≠ b ∧ k ≠ bm ∧ k ≠ rb ∧ v.ownBlock ≠ some k
  kb : Below M w0 y
namespace QO
variable {M A X : Nat} {w0 : World} {a : Nat → Int} {s t l lv : Int} {st : Bool} {bv : Value} {wait : Int} {b bm rb : Nat} {now next : Int} {c : Nat} {f : Int → Option Value} {now' next' : Int} {v : Value} {L Lv : List KI} {B : Nat → Prop} {y y' : World}
theorem size (h : QO M A X w0 a s t l lv st bv wait b bm rb now next c f now' next' v L Lv B y) (hM : M ≤ w0.heap.size) : M ≤ y.heap.size := Nat.le_trans hM h.kb.size
theorem below (h : QO M A X w0 a s t l lv st bv wait b bm rb now next c f now' next' v L Lv B y) (hM : M ≤ w0.heap.size) (k : Below y.heap.size y y') : QO M A X w0 a s t l lv st bv wait b bm rb now next c f now' next' v L Lv B y' := by
  have hs := h.size hM
  refine ⟨h.p.below k, h.r.below k, Below.heapAt k h.arr (lt_of_block h.arr), Below.heapAt k h.box (lt_of_block h.box), fun x hx => (h.val x hx).keep (fun j hj => k.block j ?_) (fun _ e => e) rfl, h.low, fun j hj => ?_, h.kb.trans (k.mono hs)⟩
  · rcases hj with hj | hj
    · exact (h.sep j hj).1
    · omega
  · obtain ⟨s1, s2⟩ := h.sep j hj
    exact ⟨Nat.lt_of_lt_of_le s1 k.size, s2⟩
theorem drewN (h : QO M A X w0 a s t l lv st bv wait b bm rb now next c f now' next' v L Lv B y) (n : Nat) : QO M A X w0 a s t l lv st bv wait b bm rb now next c f now' next' v L Lv B (y.drewN n) :=
  ⟨⟨by exact h.p.at_, by exact h.p.map, h.p.ne⟩, h.r.drewN n, by exact h.arr, by exact h.box, fun x hx => (h.val x hx).keep (fun j _ => rfl) (fun _ e => e) rfl, h.low, h.sep, Below.drewN h.kb n⟩
theorem neP (h : QO M A X w0 a s t l lv st bv wait b bm rb now next c f now' next' v L Lv B y) : ∀ (j : Nat) (cs : Array Value) (T : TypeId), (j = b ∨ j = bm) → T ≠ 75 → y.heap[j]? ≠ some (.cells cs T (0, 0)) := fun j cs T hj hT e => by
  rcases hj with rfl | rfl
  · have a := h.p.at_
    unfold OrderAt at a
    rw [a] at e; simp at e; exact hT e.2.symm
  · exact h.p.map.ne_cells _ _ _ e
theorem neR (h : QO M A X w0 a s t l lv st bv wait b bm rb now next c f now' next' v L Lv B y) : ∀ (j : Nat) (cs : Array Value) (T : TypeId), (j = rb ∨ v.ownBlock = some j) → T ≠ 33 → T ≠ 83 → y.heap[j]? ≠ some (.cells cs T (0, 0)) := fun j cs T hj hT hT2 e => by
  rcases hj with rfl | hj
  · have a := h.r.at_
    unfold ROrdAt at a
    rw [a] at e; simp at e; exact hT e.2.symm
  · obtain ⟨cs', e'⟩ := krow_kind h.r.row hj
    rw [e'] at e; simp at e; exact hT2 e.2.symm
theorem keptP (h : QO M A X w0 a s t l lv st bv wait b bm rb now next c f now' next' v L Lv B y) (hM : M ≤ w0.heap.size) (k : KB2 b bm y y') : ∀ j, (B j ∨ j < M) → y'.heap[j]? = y.heap[j]? := fun j hj => by
  have hs := h.size hM
  rcases hj with hj | hj
  · obtain ⟨s1, s2, s3, _⟩ := h.sep j hj
    exact k.block j s1 (fun e => Or.elim e s2 s3)
  · exact k.block j (by omega) (fun e => by have := h.low; rcases e with e | e <;> omega)
theorem keptR (h : QO M A X w0 a s t l lv st bv wait b bm rb now next c f now' next' v L Lv B y) (hM : M ≤ w0.heap.size) (k : ROFP rb v y y') : ∀ j, (B j ∨ j < M) → y'.heap[j]? = y.heap[j]? := fun j hj => by
  have hs := h.size hM
  rcases hj with hj | hj
  · obtain ⟨s1, s2, s3, s4, s5⟩ := h.sep j hj
    exact k.block j s1 (fun e => Or.elim e s4 s5)
  · exact k.block j (by omega) (fun e => by
      rcases e with e | e
      · have := h.r.low; omega
      · have := (h.r.row.lt j e).1; omega)
/-- the program's order has turned -/
theorem prog {now2 next2 : Int} {c2 : Nat} {f2 : Int → Option Value} {Lv2 : List KI} {B2 : Nat → Prop} (h : QO M A X w0 a s t l lv st bv wait b bm rb now next c f now' next' v L Lv B y) (hM : M ≤ w0.heap.size) (p : Ord y' b now2 wait next2 bm c2 f2) (k : KB2 b bm y y') (hv : ∀ x ∈ Lv2, KOk M y' B2 f2 x) (hB : ∀ j, B2 j → B j ∨ (y.heap.size ≤ j ∧ j < y'.heap.size)) : QO M A X w0 a s t l lv st bv wait b bm rb now2 next2 c2 f2 now' next' v L Lv2 B2 y' := by
  have hs := h.size hM
  refine ⟨p, ⟨Keeps.heap k h.r.at_ (fun e => h.neP rb _ _ e (by decide) h.r.at_), h.r.row.keep (fun j hj _ hl => k.block j hl (fun e => ?_)), h.r.low⟩, Keeps.heap k h.arr (fun e => h.neP A _ _ e (by decide) h.arr), Keeps.heap k h.box (fun e => h.neP X _ _ e (by decide) h.box), hv, h.low, fun j hj => ?_, h.kb.trans (Keeps.below k hs (fun j hj e => by have := h.low; rcases e with e | e <;> omega))⟩
  · obtain ⟨cs', e'⟩ := krow_kind h.r.row hj
    exact h.neP j _ _ e (by decide) e'
  · rcases hB j hj with hj | hj
    · obtain ⟨s1, s2⟩ := h.sep j hj
      exact ⟨Nat.lt_of_lt_of_le s1 k.size, s2⟩
    · refine ⟨hj.2, fun e => ?_, fun e => ?_, fun e => ?_, fun e => ?_⟩
      · have := lt_of_block h.p.at_; omega
      · have := h.p.map.lt; omega
      · have := lt_of_block h.r.at_; omega
      · have := (h.r.row.lt j e).2; omega
/-- the reference's has -/
theorem ref {now2 next2 : Int} {v2 : Value} {L2 : List KI} (h : QO M A X w0 a s t l lv st bv wait b bm rb now next c f now' next' v L Lv B y) (hM : M ≤ w0.heap.size) (r : ROrd M y' rb wait now2 next2 v2 L2) (k : ROFP rb v y y') (hv : ∀ j, v2.ownBlock = some j → v.ownBlock = some j ∨ y.heap.size ≤ j) : QO M A X w0 a s t l lv st bv wait b bm rb now next c f now2 next2 v2 L2 Lv B y' := by
  have hs := h.size hM
  refine ⟨⟨Keeps.heap k h.p.at_ (fun e => h.neR b _ _ e (by decide) (by decide) h.p.at_), h.p.map.block (k.block bm h.p.map.lt (fun e => ?_)), h.p.ne⟩, r, Keeps.heap k h.arr (fun e => h.neR A _ _ e (by decide) (by decide) h.arr), Keeps.heap k h.box (fun e => h.neR X _ _ e (by decide) (by decide) h.box), fun x hx => (h.val x hx).keep (h.keptR hM k) (fun _ e => e) rfl, h.low, fun j hj => ?_, h.kb.trans (k.below h.r hs)⟩
  · rcases e with e | e
    · have a := h.r.at_
      rw [← e] at a
      exact h.p.map.ne_cells _ _ _ a
    · obtain ⟨cs', e'⟩ := krow_kind h.r.row e
      exact h.p.map.ne_cells _ _ _ e'
  · obtain ⟨s1, s2, s3, s4, s5⟩ := h.sep j hj
    refine ⟨Nat.lt_of_lt_of_le s1 k.size, s2, s3, s4, fun e => ?_⟩
    rcases hv j e with e' | e'
    · exact s5 e'
    · omega
end QO
/-- the list and the map -/
structure PO (f : Int → Option Value) (L : List KI) (next : Int) : Prop where
  uni : (L.map KI.num).Nodup
  dom : ∀ j, (f j).isSome = true ↔ j ∈ L.map KI.num
  rng : ∀ x ∈ L, next ≤ x.num ∧ x.num < next + 200 ∧ 0 ≤ x.num ∧ x.num ≤ 1099511627776 ∧ 0 ≤ x.at_ ∧ x.at_ ≤ 1000000
  nx : -1 ≤ next ∧ next ≤ 1099511627777
  emp : next < 0 → L = []
/-- what holds between the steps -/
structure StO (M A X : Nat) (w0 : World) (a : Nat → Int) (s t l lv : Int) (st : Bool) (bv : Value) (wait : Int) (b bm rb i : Nat) (now next : Int) (c : Nat) (f : Int → Option Value) (v : Value) (L : List KI) (B : Nat → Prop) (y : World) : Prop where
  q : QO M A X w0 a s t l lv st bv wait b bm rb now next c f now next v L L B y
  rel : PO f L next
  len : L.length ≤ i
  clk : 0 ≤ now ∧ now ≤ 1000000
def StA (M A X : Nat) (w0 : World) (a : Nat → Int) (s t l lv : Int) (st : Bool) (bv : Value) (wait : Int) (b bm rb i : Nat) (y : World) : Prop := ∃ now next c f v L B, StO M A X w0 a s t l lv st bv wait b bm rb i now next c f v L B y
theorem QO.all {M A X : Nat} {w0 : World} {a : Nat → Int} {s t l lv : Int} {st : Bool} {bv : Value} {wait : Int} {b bm rb : Nat} {now next : Int} {c : Nat} {f : Int → Option Value} {now' next' : Int} {v : Value} {L Lv : List KI} {B : Nat → Prop} {y : World} (h : QO M A X w0 a s t l lv st bv wait b bm rb now next c f now' next' v L Lv B y) (rel : PO f Lv next) : AllKept f := fun j u hu => by
  obtain ⟨x, hx, rfl⟩ := List.mem_map.1 ((rel.dom j).1 (by rw [hu]; rfl))
  obtain ⟨oa, bc, body, h1, _⟩ := h.val x hx
  rw [hu] at h1
  have := rel.rng x hx
  exact ⟨_, _, _, _, _, _, _, _, _, _, _, Option.some.inj h1, by omega, by omega⟩
theorem QO.cnt {M A X : Nat} {w0 : World} {a : Nat → Int} {s t l lv : Int} {st : Bool} {bv : Value} {wait : Int} {b bm rb : Nat} {now next : Int} {c : Nat} {f : Int → Option Value} {now' next' : Int} {v : Value} {L Lv : List KI} {B : Nat → Prop} {y : World} (h : QO M A X w0 a s t l lv st bv wait b bm rb now next c f now' next' v L Lv B y) (rel : PO f Lv next) : c = Lv.length := by
  have := h.p.map.count mlaw Tryd.underlying3 (Lv.map KI.num) rel.uni rel.dom
  rw [this, List.length_map]
end Go.Proofs.YtlfdkoebjddokaaDoor
