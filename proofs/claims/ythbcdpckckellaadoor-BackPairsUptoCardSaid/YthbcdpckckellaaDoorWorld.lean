import Derived.WalkKit
import Derived.Below
import Derived.OneCell
import Derived.Lib.Hide
import Derived.Deep.QuietTactic
import Derived.BigQuiet
/-! Worlds: what a call that writes into some blocks keeps. Of whatever program. -/
namespace Go.Proofs.YthbcdpckckellaaDoor
open Go.RowKit
set_option linter.unusedVariables false
set_option linter.unusedSimpArgs false

/-- Of the blocks that were there, those outside S are as they were; the streams are as they were. -/
structure Keeps (S : Nat → Prop) (w w' : World) : Prop where
  os : w'.os = w.os
  tape : w'.tape = w.tape
  output : w'.output = w.output
  size : w.heap.size ≤ w'.heap.size
  block : ∀ k, k < w.heap.size → ¬ S k → w'.heap[k]? = w.heap[k]?

namespace Keeps
theorem refl (S : Nat → Prop) (w : World) : Keeps S w w := ⟨rfl, rfl, rfl, Nat.le_refl _, fun _ _ _ => rfl⟩
theorem trans {S : Nat → Prop} {a b c : World} (h : Keeps S a b) (k : Keeps S b c) : Keeps S a c :=
  ⟨k.os.trans h.os, k.tape.trans h.tape, k.output.trans h.output, Nat.le_trans h.size k.size, fun i hi hs => (k.block i (Nat.lt_of_lt_of_le hi h.size) hs).trans (h.block i hi hs)⟩
theorem mono {S S' : Nat → Prop} {a b : World} (h : Keeps S a b) (hs : ∀ k, k < a.heap.size → S k → S' k) : Keeps S' a b :=
  ⟨h.os, h.tape, h.output, h.size, fun i hi hn => h.block i hi (fun hh => hn (hs i hi hh))⟩
theorem drew {S : Nat → Prop} {a w : World} (h : Keeps S a w) : Keeps S a w.drew := ⟨h.os, h.tape, h.output, h.size, h.block⟩
theorem alloc {S : Nat → Prop} {a w : World} (h : Keeps S a w) (o : Obj) : Keeps S a (w.alloc o) :=
  h.trans ⟨rfl, rfl, rfl, by simp, fun k hk _ => Below.heap_alloc _ _ _ hk⟩
theorem setCell {S : Nat → Prop} {a w : World} (h : Keeps S a w) {p : Addr} (hp : S p.block ∨ a.heap.size ≤ p.block) (u : Value) : Keeps S a (w.setCell p u) := by
  refine ⟨h.os, h.tape, h.output, by simpa [World.setCell] using h.size, fun k hk hs => ?_⟩
  rw [Below.heap_setCell _ _ _ _ (fun e => by subst e; rcases hp with hp | hp; exact hs hp; omega)]
  exact h.block k hk hs
theorem below {S : Nat → Prop} {a b : World} (h : Keeps S a b) {B : Nat} (hB : B ≤ a.heap.size) (hs : ∀ k, k < B → ¬ S k) : Below B a b :=
  ⟨h.os, h.tape, h.output, h.size, fun k hk => h.block k (by omega) (hs k hk)⟩
theorem ofBelow {S : Nat → Prop} {B : Nat} {a b : World} (h : Below B a b) (hs : ∀ k, B ≤ k → k < a.heap.size → S k) : Keeps S a b :=
  ⟨h.os, h.tape, h.output, h.size, fun k hk hn => h.block k (Nat.lt_of_not_le (fun hh => hn (hs k hh hk)))⟩
theorem heap {S : Nat → Prop} {a b : World} (h : Keeps S a b) {k : Nat} {o : Obj} (ho : a.heap[k]? = some o) (hn : ¬ S k) : b.heap[k]? = some o := by
  rw [h.block k (lt_of_block ho) hn]; exact ho
theorem cell {S : Nat → Prop} {a b : World} (h : Keeps S a b) {p : Addr} (hp : p.block < a.heap.size) (hn : ¬ S p.block) : b.cell? p = a.cell? p := World.cell?_of_block (w := a) (h.block p.block hp hn)
end Keeps

/-- only block b is written -/
abbrev KeepsBut (b : Nat) (w w' : World) : Prop := Keeps (fun k => k = b) w w'
theorem KeepsBut.below {b : Nat} {a c : World} (h : KeepsBut b a c) {B : Nat} (hB : B ≤ a.heap.size) (hb : B ≤ b) : Below B a c :=
  Keeps.below h hB (fun k hk e => by subst e; omega)
theorem KeepsBut.heap {b : Nat} {a c : World} (h : KeepsBut b a c) {k : Nat} {o : Obj} (ho : a.heap[k]? = some o) (hn : k ≠ b) : c.heap[k]? = some o := Keeps.heap h ho hn

theorem KeepsBut.set {b : Nat} {a w : World} (h : KeepsBut b a w) (k : Nat) (v : Value) : KeepsBut b a (w.setCell ⟨b, k, none⟩ v) := Keeps.setCell h (.inl rfl) v
theorem KeepsBut.refl (b : Nat) (w : World) : KeepsBut b w w := Keeps.refl _ _

theorem Below.toKeeps {B : Nat} {S : Nat → Prop} {a c : World} (h : Below B a c) (hB : a.heap.size ≤ B) : Keeps S a c := Keeps.ofBelow h (fun k h1 h2 => by omega)
theorem Below.heapAt {B : Nat} {a c : World} (h : Below B a c) {k : Nat} {o : Obj} (ho : a.heap[k]? = some o) (hk : k < B) : c.heap[k]? = some o := by
  rw [h.block k hk]; exact ho

/-- a callee that draws nothing, in a region whose operations only read -/
theorem Calls.quietS {P : Program} {f : FuncId} {args : Array Value} {w : World} {n : Nat} {v : Value}
    (h : Calls P f args (w.drewN n) fun e w' => e = .returned v ∧ w.drewN n = w') : Calls P f args (w.drewN n) fun e w'' => e = .returned v ∧ ∃ m, w'' = w.drewN m :=
  h.mono fun _ _ ⟨he, hm⟩ => ⟨he, n, hm.symm⟩
theorem Below.drewN {B : Nat} {a w : World} (h : Below B a w) (n : Nat) : Below B a (w.drewN n) := ⟨h.os, h.tape, h.output, h.size, h.block⟩
theorem Keeps.drewN {S : Nat → Prop} {a w : World} (h : Keeps S a w) (n : Nat) : Keeps S a (w.drewN n) := ⟨h.os, h.tape, h.output, h.size, h.block⟩

section obj
variable {w : World} {b : Nat} {cs : Array Value} {T : TypeId}
theorem obj_cell (h : w.heap[b]? = some (.cells cs T (0, 0))) {k : Nat} {v : Value} (hv : cs[k]? = some v) : w.cell? ⟨b, k, none⟩ = some v := by simp [World.cell?, h, hv]
theorem obj_free (h : w.heap[b]? = some (.cells cs T (0, 0))) (k : Nat) : w.frozen? ⟨b, k, none⟩ = false := by simp [World.frozen?, h]
theorem obj_set (h : w.heap[b]? = some (.cells cs T (0, 0))) (k : Nat) (v : Value) : (w.setCell ⟨b, k, none⟩ v).heap[b]? = some (.cells (cs.setIfInBounds k v) T (0, 0)) := by
  have hlt := lt_of_block h
  have h' : w.heap[b] = .cells cs T (0, 0) := by simpa [Array.getElem?_eq_getElem hlt] using h
  show (w.heap.modify b _)[b]? = _
  rw [Array.getElem?_eq_getElem (by simpa using hlt), Array.getElem_modify_self, h']
  rfl
theorem obj_new (w : World) (o : Obj) : (w.alloc o).heap[w.heap.size]? = some o := by
  show (w.heap.push o)[w.heap.size]? = _
  simp
theorem obj_new2 (w : World) (o1 o2 : Obj) : ((w.alloc o1).alloc o2).heap[w.heap.size + 1]? = some o2 := by
  show ((w.heap.push o1).push o2)[w.heap.size + 1]? = some o2
  rw [Array.getElem?_push, if_pos (by simp)]
theorem obj_old (h : w.heap[b]? = some (.cells cs T (0, 0))) (o : Obj) : (w.alloc o).heap[b]? = some (.cells cs T (0, 0)) := by
  rw [Below.heap_alloc _ _ _ (lt_of_block h)]; exact h
theorem obj_other (h : w.heap[b]? = some (.cells cs T (0, 0))) {a : Addr} (ha : a.block ≠ b) (v : Value) : (w.setCell a v).heap[b]? = some (.cells cs T (0, 0)) := by
  rw [Below.heap_setCell _ _ _ _ (Ne.symm ha)]; exact h
theorem obj_drew (h : w.heap[b]? = some (.cells cs T (0, 0))) : w.drew.heap[b]? = some (.cells cs T (0, 0)) := h
end obj

/-- an integer of 64 bits, its bounds -/
theorem wf_i64 {a : Int} (h : (Lit.int .i64 a).wf = true) : -9223372036854775808 ≤ a ∧ a ≤ 9223372036854775807 := by
  simpa [Lit.wf, IntKind.min, IntKind.max, IntKind.signed, IntKind.bits] using h
theorem ret_int {k : IntKind} {a b : Int} (h : a = b) : Ending.returned (.int k a) = .returned (.int k b) := by rw [h]
theorem ret_bool {a b : Bool} (h : a = b) : Ending.returned (.bool a) = .returned (.bool b) := by rw [h]
end Go.Proofs.YthbcdpckckellaaDoor
