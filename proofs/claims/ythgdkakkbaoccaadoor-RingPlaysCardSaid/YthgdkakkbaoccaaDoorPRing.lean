import Derived.Test.YthgdkakkbaoccaaDoorRefRingP
import Derived.Test.YthgdkakkbaoccaaDoorRingPut
import Derived.Test.YthgdkakkbaoccaaDoorRingGet
import Derived.Test.YthgdkakkbaoccaaDoorRingLow
import Derived.Test.YthgdkakkbaoccaaDoorSame
import Derived.Test.YthgdkakkbaoccaaDoorErrV
/-! What the law RingPlays keeps: both rings side by side. -/
namespace Go.Proofs.YthgdkakkbaoccaaDoor
open Go.RowKit
set_option linter.unusedVariables false
set_option linter.unusedSimpArgs false
/-- bytes that outlive whatever becomes of the blocks below p0 lie above -/
theorem bytes_fix {p0 : Nat} {w : World} {oa : Option Addr} {n c : Nat} {l : List UInt8} (H : ∀ W, Keeps (fun k => k < p0) w W → IsBytes W (.slice oa n c) l) : IsBytes w (.slice oa n c) l ∧ ∀ a, oa = some a → l ≠ [] → p0 ≤ a.block ∧ a.block < w.heap.size := by
  have h0 := H w (Keeps.refl _ _)
  refine ⟨h0, fun a ha hl => ?_⟩
  rcases h0 with ⟨e, _⟩ | ⟨b, off, cap, e, h1, h2, h3⟩
  · exact absurd e hl
  · cases e
    cases ha
    have hp : 0 < l.length := List.length_pos_iff.2 hl
    have hc := h3 0 hp
    refine ⟨?_, Sl.lt hc⟩
    rcases Nat.lt_or_ge b p0 with hlt | hge
    · exfalso
      have k : Keeps (fun k => k < p0) w (w.setCell ⟨b, off, none⟩ .nilIface) := by
        have k0 := KeepsBut.set (KeepsBut.refl b w) off .nilIface
        exact ⟨k0.os, k0.tape, k0.output, k0.size, fun j hj hn => k0.block j hj (fun e => hn (by omega))⟩
      rcases H _ k with ⟨e, _⟩ | ⟨b', off', cap', e, _, _, h3'⟩
      · exact hl e
      · cases e
        have q : (w.setCell ⟨b, off, none⟩ .nilIface).cell? ⟨b, off, none⟩ = some (encB l[0]) := h3' 0 hp
        have hc0 : w.cell? ⟨b, off, none⟩ = some (encB l[0]) := hc
        have same : (w.setCell ⟨b, off, none⟩ .nilIface).cell? ⟨b, off, none⟩ = some .nilIface := World.cell?_setCell_same' _ _ _ (by rw [hc0]; rfl)
        rw [same] at q
        cases q
    · exact hge
/-- blocks of packets are as they were -/
def KF (y z : World) : Prop := ∀ (k : Nat) (cs : Array Value) (fz : Nat × Nat), y.heap[k]? = some (Obj.cells cs 36 fz) → z.heap[k]? = y.heap[k]?
theorem KF.refl (y : World) : KF y y := fun _ _ _ _ => rfl
theorem KF.below {y z : World} (k : Below y.heap.size y z) : KF y z := fun j cs fz h => k.block j (lt_of_block h)
theorem KF.trans {x y z : World} (h : KF x y) (k : KF y z) : KF x z := fun j cs fz e => (k j cs fz (by rw [h j cs fz e]; exact e)).trans (h j cs fz e)
/-- the program's blocks are written: the packets' boxes are not -/
theorem KF.prog {y z : World} {b : Nat} {n top : Int} {bm c : Nat} {f : Int → Option Value} (h : Rng y b n top bm c f) (k : KR2 b bm y z) : KF y z := fun j cs fz e => k.block j (lt_of_block e) (fun e' => by
  rcases e' with rfl | rfl
  · have a := h.at_; unfold RingAt at a; rw [a] at e; simp at e
  · obtain ⟨D, ⟨es, clock, q1, _⟩, _⟩ := h.map; rw [q1] at e; cases e)
/-- what a byte block keeps reads as it did -/
theorem bytes_keep {y z : World} {oa : Option Addr} {n c : Nat} {l : List UInt8} {P : Nat → Prop} (h : IsBytes y (.slice oa n c) l) (hP : ∀ a, oa = some a → l ≠ [] → P a.block) (k : ∀ j, P j → z.heap[j]? = y.heap[j]?) : IsBytes z (.slice oa n c) l := by
  rcases h with h | ⟨b, off, cap, e, h1, h2, h3⟩
  · exact .inl h
  · refine .inr ⟨b, off, cap, e, h1, h2, fun i hi => ?_⟩
    cases e
    have hl : l ≠ [] := fun e => by rw [e] at hi; simp at hi
    rw [World.cell?_of_block (w := y) (w' := z) (a := ⟨b, off + i, none⟩) (k b (hP _ rfl hl))]
    exact h3 i hi
/-- an item of both rings -/
def ItemOk (M : Nat) (y : World) (B : Nat → Prop) (f : Int → Option Value) (x : Itm) : Prop :=
  ∃ (oa : Option Addr) (bc : Nat) (body : List UInt8), f x.num = some (pkV x.s x.t x.l x.lv x.st (.slice oa body.length bc)) ∧ IsBytes y (.slice oa body.length bc) body ∧ IsBytes y (.slice x.oa x.bn x.bc) body ∧ body.length ≤ 1000 ∧ (∀ a, oa = some a → body ≠ [] → B a.block) ∧ (∀ a, x.oa = some a → body ≠ [] → a.block < M)
theorem ItemOk.keep {M : Nat} {y z : World} {B B' : Nat → Prop} {f f' : Int → Option Value} {x : Itm} (h : ItemOk M y B f x) (k : ∀ j, (B j ∨ j < M) → z.heap[j]? = y.heap[j]?) (hB : ∀ j, B j → B' j) (hf : f' x.num = f x.num) : ItemOk M z B' f' x := by
  obtain ⟨oa, bc, body, h1, h2, h3, h4, h5, h6⟩ := h
  exact ⟨oa, bc, body, hf.trans h1, bytes_keep h2 h5 (fun j hj => k j (.inl hj)), bytes_keep h3 h6 (fun j hj => k j (.inr hj)), h4, fun a e hl => hB _ (h5 a e hl), h6⟩
/-- both rings -/
structure StR (M : Nat) (w0 : World) (n : Int) (b bm rb i : Nat) (top : Int) (c : Nat) (f : Int → Option Value) (v : Value) (L : List Itm) (B : Nat → Prop) (y : World) : Prop where
  p : Rng y b n top bm c f
  r : RRng M y rb n top v L
  uni : (L.map Itm.num).Nodup
  dom : ∀ j, (f j).isSome = true ↔ j ∈ L.map Itm.num
  val : ∀ x ∈ L, ItemOk M y B f x
  rng : ∀ x ∈ L, 0 ≤ x.num ∧ x.num ≤ 1099511627776
  len : L.length ≤ i
  top_ : -1 ≤ top ∧ top ≤ 1099511627776
  low : M ≤ b ∧ M ≤ bm
  sep : ∀ k, B k → k < y.heap.size ∧ k ≠ b ∧ k ≠ bm ∧ k ≠ rb ∧ v.ownBlock ≠ some k
  kb : Below M w0 y
def StRE (M : Nat) (w0 : World) (n : Int) (b bm rb i : Nat) (y : World) : Prop := ∃ top c f v L B, StR M w0 n b bm rb i top c f v L B y
namespace StR
variable {M : Nat} {w0 : World} {n : Int} {b bm rb i : Nat} {top : Int} {c : Nat} {f : Int → Option Value} {v : Value} {L : List Itm} {B : Nat → Prop} {y z : World}
theorem below (h : StR M w0 n b bm rb i top c f v L B y) (hM : M ≤ w0.heap.size) (k : Below y.heap.size y z) : StR M w0 n b bm rb i top c f v L B z := by
  have hs := Nat.le_trans hM h.kb.size
  refine ⟨h.p.below k, h.r.below k, h.uni, h.dom, fun x hx => (h.val x hx).keep (fun j hj => k.block j ?_) (fun _ e => e) rfl, h.rng, h.len, h.top_, h.low, fun j hj => ?_, h.kb.trans (k.mono hs)⟩
  · rcases hj with hj | hj
    · exact (h.sep j hj).1
    · omega
  · obtain ⟨s1, s2⟩ := h.sep j hj
    exact ⟨Nat.lt_of_lt_of_le s1 k.size, s2⟩
theorem drew (h : StR M w0 n b bm rb i top c f v L B y) : StR M w0 n b bm rb i top c f v L B y.drew :=
  ⟨h.p.drewN 1, ⟨by exact h.r.at_, by exact h.r.row, h.r.low⟩, h.uni, h.dom, fun x hx => (h.val x hx).keep (fun j _ => rfl) (fun _ e => e) rfl, h.rng, h.len, h.top_, h.low, h.sep, Below.drewN h.kb 1⟩
/-- the count -/
theorem cnt (h : StR M w0 n b bm rb i top c f v L B y) : c = L.length := by
  have := h.p.map.count rlaw Tryd.underlying3 (L.map Itm.num) h.uni h.dom
  rw [this, List.length_map]
theorem all (h : StR M w0 n b bm rb i top c f v L B y) : AllPk f := fun j u hu => by
  have := (h.dom j).1 (by rw [hu]; rfl)
  obtain ⟨x, hx, rfl⟩ := List.mem_map.1 this
  obtain ⟨oa, bc, body, h1, _⟩ := h.val x hx
  rw [hu] at h1
  cases h1
  exact ⟨_, _, _, _, _, _, _, _, rfl⟩
theorem kfP (h : StR M w0 n b bm rb i top c f v L B y) (k : KR2 b bm y z) : KF y z := KF.prog h.p k
theorem kfR (h : StR M w0 n b bm rb i top c f v L B y) (k : RRFP rb v y z) : KF y z := fun j cs fz e => k.block j (lt_of_block e) (fun e' => by
  rcases e' with rfl | e'
  · have a := h.r.at_; unfold RRingAt at a; rw [a] at e; simp at e
  · rcases h.r.row.2 with ⟨rfl, _⟩ | ⟨g', cap, cur, rfl, hb, hg', _⟩
    · cases e'
    · simp [Value.ownBlock] at e'
      subst e'
      rw [hg'] at e; simp [itemK] at e)
end StR
end Go.Proofs.YthgdkakkbaoccaaDoor
