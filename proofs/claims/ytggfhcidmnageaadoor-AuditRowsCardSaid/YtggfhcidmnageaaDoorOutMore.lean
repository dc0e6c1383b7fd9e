import Derived.Test.YtggfhcidmnageaaDoorOut
import Derived.Test.YtggfhcidmnageaaDoorRefPk
/-! Package out: what its laws share. -/
namespace Go.Proofs.YtggfhcidmnageaaDoor
open Go.RowKit
set_option linter.unusedVariables false
set_option linter.unusedSimpArgs false

/-- an argument's bytes outlive a method's writing -/
theorem arg_bytes {W w w' : World} {b : Nat} {v : Value} {l : List UInt8} (h : IsBytes W v l) (k : Below W.heap.size W w) (hb : W.heap.size ≤ b) (k2 : KeepsBut b w w') : IsBytes w' v l := h.below (k.trans (k2.below k.size hb))
theorem keeps_past {S : Nat → Prop} {a c d : World} {N : Nat} (h : Keeps S a c) (k : KeepsBut N c d) (hN : S N ∨ a.heap.size ≤ N) : Keeps S a d :=
  ⟨k.os.trans h.os, k.tape.trans h.tape, k.output.trans h.output, Nat.le_trans h.size k.size, fun i hi hs => (k.block i (Nat.lt_of_lt_of_le hi h.size) (fun e => by subst e; rcases hN with hN | hN; exact hs hN; omega)).trans (h.block i hi hs)⟩
theorem OutAt.old {w : World} {b : Nat} {seq time sent lt ll : Int} (h : OutAt w b seq time sent lt ll) (o : Obj) : OutAt (w.alloc o) b seq time sent lt ll := obj_old h o
theorem PkAt.new (w : World) (s t l lv : Int) (st : Bool) (bv : Value) : PkAt (w.alloc (.cells #[.int .i64 s, .int .i64 t, .int .i64 l, .int .i64 lv, .bool st, bv] 29)) w.heap.size s t l lv st bv := obj_new w _
theorem PkAt.old {w : World} {b : Nat} {s t l lv : Int} {st : Bool} {bv : Value} (h : PkAt w b s t l lv st bv) (o : Obj) : PkAt (w.alloc o) b s t l lv st bv := obj_old h o
theorem PkAt.other {a c : World} {b N : Nat} {s t l lv : Int} {st : Bool} {bv : Value} (h : PkAt a b s t l lv st bv) (k : KeepsBut N a c) (hn : b ≠ N) : PkAt c b s t l lv st bv := Keeps.heap k h hn
theorem PkAt.below {a c : World} {b B : Nat} {s t l lv : Int} {st : Bool} {bv : Value} (h : PkAt a b s t l lv st bv) (k : Below B a c) (hn : b < B) : PkAt c b s t l lv st bv := Below.heapAt k h hn
theorem OutAt.below {a c : World} {b B : Nat} {seq time sent lt ll : Int} (h : OutAt a b seq time sent lt ll) (k : Below B a c) (hn : b < B) : OutAt c b seq time sent lt ll := Below.heapAt k h hn
namespace Pl
theorem outSeq_bd (sent s : Int) (h : Pl.seq s = true) : Pl.seq (outSeq sent s) = true := by
  rw [seq_iff] at *; unfold outSeq; split <;> omega
theorem outTime_bd (sent time lt ll t l : Int) (h : word time) : word (outTime sent time lt ll t l) := by
  unfold word at *; unfold outTime; split <;> omega
end Pl

theorem PkAt.sets {w : World} {g : Nat} {s t l lv s' t' l' lv' : Int} {st st' : Bool} {bv bv' : Value} (h : PkAt w g s t l lv st bv) :
    PkAt ((((((w.setCell ⟨g, 0, none⟩ (.int .i64 s')).setCell ⟨g, 1, none⟩ (.int .i64 t')).setCell ⟨g, 2, none⟩ (.int .i64 l')).setCell ⟨g, 3, none⟩ (.int .i64 lv')).setCell ⟨g, 4, none⟩ (.bool st')).setCell ⟨g, 5, none⟩ bv') g s' t' l' lv' st' bv' :=
  obj_set (obj_set (obj_set (obj_set (obj_set (obj_set h 0 _) 1 _) 2 _) 3 _) 4 _) 5 _
theorem keeps_sets (w : World) (g : Nat) (v0 v1 v2 v3 v4 v5 : Value) : KeepsBut g w ((((((w.setCell ⟨g, 0, none⟩ v0).setCell ⟨g, 1, none⟩ v1).setCell ⟨g, 2, none⟩ v2).setCell ⟨g, 3, none⟩ v3).setCell ⟨g, 4, none⟩ v4).setCell ⟨g, 5, none⟩ v5) :=
  KeepsBut.set (KeepsBut.set (KeepsBut.set (KeepsBut.set (KeepsBut.set (KeepsBut.set (KeepsBut.refl _ _) _ _) _ _) _ _) _ _) _ _) _ _
end Go.Proofs.YtggfhcidmnageaaDoor
