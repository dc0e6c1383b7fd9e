import Derived.Test.YtbjanihblffmoaaDoorPJoin
import Derived.Test.YtbjanihblffmoaaDoorCrc
import Derived.Deep.MidRow
import Derived.Deep.DeepCutAuto
/-! crc's matrices: in memory, and what one says of a word. -/
namespace Go.Proofs.YtbjanihblffmoaaDoor
open Go.RowKit
set_option linter.unusedVariables false
set_option linter.unusedSimpArgs false
theorem abs_m {P : Program} {c : Code} {Q : Exit → Act → World → Prop} {a : Act} {W : World} (S : World → Prop) (h : S W) (k : ∀ wq, S wq → c.wp P Q a wq) : c.wp P Q a W := k W h
def encU (s : BitVec 32) : Value := .int .u32 (s.toNat : Int)
def matL (f : Nat → BitVec 32) : List Value := (List.range 32).map (fun i => encU (f i))
theorem matL_length (f : Nat → BitVec 32) : (matL f).length = 32 := by simp [matL]
theorem matL_at (f : Nat → BitVec 32) (i : Nat) (h : i < 32) : (matL f)[i]? = some (encU (f i)) := by simp [matL, h]
theorem matL_one (f : Nat → BitVec 32) : (matL f).toArray.all (·.oneCell') = true := all_oneCell_toArray (fun v hv => by
  obtain ⟨i, _, rfl⟩ := List.mem_map.1 hv; rfl)
/-- a matrix in memory -/
structure Mat (w : World) (G : Nat) (f : Nat → BitVec 32) : Prop where
  r : w.rangeAt G 0 (matL f)
  t : w.there G 0 32
theorem Mat.cell {w : World} {G : Nat} {f : Nat → BitVec 32} (h : Mat w G f) (k : Nat) (hk : k < 32) : w.cell? ⟨G, k, none⟩ = some (encU (f k)) := by
  have := h.r k _ (matL_at f k hk); rwa [Nat.zero_add] at this
theorem Mat.free {w : World} {G : Nat} {f : Nat → BitVec 32} (h : Mat w G f) (k : Nat) (hk : k < 32) : w.frozen? ⟨G, k, none⟩ = false := by
  have := (h.t k hk).2; rwa [Nat.zero_add] at this
theorem Mat.lt {w : World} {G : Nat} {f : Nat → BitVec 32} (h : Mat w G f) : G < w.heap.size := Sl.lt (a := ⟨G, 0, none⟩) (h.cell 0 (by omega))
theorem Mat.below {w w' : World} {B G : Nat} {f : Nat → BitVec 32} (h : Mat w G f) (k : Below B w w') (hB : G < B) : Mat w' G f :=
  ⟨fun j v hv => (k.cell hB).trans (h.r j v hv), fun j hj => ⟨by rw [k.cell (p := ⟨G, 0 + j, none⟩) hB]; exact (h.t j hj).1, by rw [World.frozen?_of_block (k.block G hB)]; exact (h.t j hj).2⟩⟩
theorem Mat.ext {w : World} {G : Nat} {f g : Nat → BitVec 32} (h : Mat w G f) (e : ∀ i, i < 32 → f i = g i) : Mat w G g := by
  have e2 : matL f = matL g := by unfold matL; exact List.map_congr_left (fun i hi => by rw [e i (List.mem_range.1 hi)])
  exact ⟨by rw [← e2]; exact h.r, h.t⟩
def upd (f : Nat → BitVec 32) (k : Nat) (v : BitVec 32) : Nat → BitVec 32 := fun i => if i = k then v else f i
theorem Mat.set {w : World} {G : Nat} {f : Nat → BitVec 32} (h : Mat w G f) (k : Nat) (hk : k < 32) (v : BitVec 32) : Mat (w.setCell ⟨G, k, none⟩ (encU v)) G (upd f k v) := by
  refine ⟨fun j u hj => ?_, fun j hj => ?_⟩
  · have hj32 : j < 32 := by have := (List.getElem?_eq_some_iff.1 hj).1; rw [matL_length] at this; exact this
    rw [matL_at _ j hj32] at hj
    cases hj
    rw [Nat.zero_add]
    by_cases e : j = k
    · subst e
      rw [World.cell?_setCell_same _ _ _ (h.cell j hj32), upd, if_pos rfl]
    · rw [World.cell?_setCell_other _ _ _ _ (by intro e2; cases e2; exact e rfl), h.cell j hj32, upd, if_neg e]
  · have h1 := h.t j hj
    refine ⟨?_, ?_⟩
    · obtain ⟨u, hu⟩ := Option.isSome_iff_exists.1 h1.1
      by_cases e : (⟨G, k, none⟩ : Addr) = ⟨G, 0 + j, none⟩
      · rw [← e, World.cell?_setCell_same _ _ _ (h.cell k hk)]; rfl
      · rw [World.cell?_setCell_other _ _ _ _ e, hu]; rfl
    · rw [World.frozen?_setCell]; exact h1.2
theorem Mat.store {w : World} {G : Nat} {f : Nat → BitVec 32} (h : Mat w G f) (g : Nat → BitVec 32) : Mat (w.setCells G 0 (matL g)) G g :=
  ⟨World.rangeAt_setCells_same w G 0 _ (by rw [matL_length]; exact h.t), World.there_setCells h.t G 0 _⟩
theorem Below.setCells {B : Nat} {a : World} (b : Nat) (hb : B ≤ b) : ∀ (vs : List Value) (o : Nat) (w : World), Below B a w → Below B a (w.setCells b o vs)
  | [], _, _, h => h
  | v :: r, o, w, h => Below.setCells b hb r (o + 1) _ (Below.setCell h hb v)
theorem Mat.of {w : World} {G : Nat} {f : Nat → BitVec 32} {cs : Array Value} {T : TypeId} (h : w.heap[G]? = some (.cells cs T (0, 0))) (e : cs.toList = matL f) : Mat w G f := by
  have hs : cs.size = 32 := by rw [← Array.length_toList, e, matL_length]
  refine ⟨fun j v hj => ?_, fun j hj => ⟨?_, obj_free h _⟩⟩
  · rw [Nat.zero_add]; exact obj_cell h (by rw [← e] at hj; simpa using hj)
  · rw [Nat.zero_add, obj_cell h (show cs[j]? = some cs[j] by simp [hs, hj])]; rfl
theorem infoU32 : (Tryd.prog.info? 94).map (·.size) = some 1 := by kernel_rfl
theorem shr_u32 (B : BitVec 32) (k : Nat) : ((B >>> k).toNat : Int) = (B.toNat : Int) / 2 ^ k := by
  have h : ((2 : Int) ^ k) = ((2 ^ k : Nat) : Int) := by simp
  rw [h, BitVec.toNat_ushiftRight, Nat.shiftRight_eq_div_pow]; simp
theorem shr_bit (B : BitVec 32) (k : Nat) : (B >>> k).getLsbD 0 = B.getLsbD k := by rw [BitVec.getLsbD_ushiftRight, Nat.add_zero]
theorem Pl.ofK_hi (f : Nat → BitVec 32) (s : BitVec 32) (k : Nat) (h : s.getLsbD k = true) : Pl.ofK f s (k + 1) = Pl.ofK f s k ^^^ f k := by rw [Pl.ofK, if_pos h]
theorem Pl.ofK_lo (f : Nat → BitVec 32) (s : BitVec 32) (k : Nat) (h : s.getLsbD k = false) : Pl.ofK f s (k + 1) = Pl.ofK f s k := by rw [Pl.ofK, if_neg (by rw [h]; decide)]
end Go.Proofs.YtbjanihblffmoaaDoor
