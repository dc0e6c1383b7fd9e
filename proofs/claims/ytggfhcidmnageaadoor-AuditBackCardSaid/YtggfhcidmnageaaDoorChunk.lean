import Derived.RangeFuncNested
import Derived.RangeFuncBound
import Derived.RangeFuncCalls
import Derived.RangeFuncLeaves
import Derived.RangeFuncBox
import Derived.Shelf.Abstract
import Derived.Shelf.RegionOpen
import Derived.WalkKit
import Derived.OwnWalkIn
import Derived.TacticsInMore
import Derived.LoopNIn
import Derived.LoopIn
import Derived.Test.YtggfhcidmnageaaDoorSlice
import Derived.Test.YtggfhcidmnageaaDoorCheck
/-! slices.Chunk at bytes: its iterator's contract. -/
namespace Go.Proofs.YtggfhcidmnageaaDoor
open Go.RowKit Go.Shelf
set_option linter.unusedVariables false
set_option linter.unusedSimpArgs false
attribute [local go_sem] Oper.semAt_some
/-- the parts of bytes -/
def chunkN (k len : Nat) : Nat := (len + k - 1) / k
theorem chunkN_lt {k len r : Nat} (hk : 0 < k) : r < chunkN k len ↔ r * k < len := by
  unfold chunkN
  rw [Nat.lt_div_iff_mul_lt hk]
  omega
def chunkAt (k : Nat) (bs : List UInt8) (r : Nat) : List UInt8 := (bs.drop (r * k)).take k
theorem chunkAt_len {k : Nat} {bs : List UInt8} {r : Nat} : (chunkAt k bs r).length = min k (bs.length - r * k) := by unfold chunkAt; rw [List.length_take, List.length_drop]
/-- a part: its value, and what it reads as wherever what lay below n₀ lies on -/
def ChunkX (n₀ : Nat) (w : World) := { x : Value × List UInt8 // x.2.length ≤ 1000 ∧ ∀ W', Below n₀ w W' → Sl encB W' x.1 x.2 }
/-- what a round keeps: what lay below n₀, and the iterator's two boxes -/
structure KpC (n₀ Bs Bn : Nat) (A B : World) : Prop where
  below : Below n₀ A B
  s : B.heap[Bs]? = A.heap[Bs]?
  n : B.heap[Bn]? = A.heap[Bn]?
theorem KpC.refl (n₀ Bs Bn : Nat) (A : World) : KpC n₀ Bs Bn A A := ⟨Below.refl _ _, rfl, rfl⟩
theorem KpC.trans {n₀ Bs Bn : Nat} {A B C : World} (h : KpC n₀ Bs Bn A B) (k : KpC n₀ Bs Bn B C) : KpC n₀ Bs Bn A C := ⟨h.below.trans k.below, k.s.trans h.s, k.n.trans h.n⟩
theorem KpC.drew {n₀ Bs Bn : Nat} {A B : World} (h : KpC n₀ Bs Bn A B) : KpC n₀ Bs Bn A B.drew := ⟨Below.drewN h.below 1, h.s, h.n⟩
end Go.Proofs.YtggfhcidmnageaaDoor
