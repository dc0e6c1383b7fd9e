import Derived.Shelf.SlIterI.Nil
import Derived.Shelf.SortM.Plain
import Derived.Shelf.SortM.SortNone
import Derived.Ground.GgzProg
import Derived.Sort.OwnSortedInts
import Derived.Ground.SlgmProg
import Derived.Test.YtefhbjkhmfmkaaaDoorRows
import Derived.Test.YtefhbjkhmfmkaaaDoorMapCnt
import Derived.Test.YtefhbjkhmfmkaaaDoorKeysMem
import Derived.Test.YtefhbjkhmfmkaaaDoorIntRow
/-! The keys of a map, sorted: the shelf's contracts, laid (printed by shelfgen.py), and what they say of a map as a function. -/
namespace Go.Proofs.YtefhbjkhmfmkaaaDoor
open Go.RowKit Go.Maps Go.Sort Go.Shelf Go.Proofs
set_option linter.unusedVariables false
set_option linter.unusedSimpArgs false
def sortA_ren : Go.Shelf.Ren := ⟨fun | 5 => 21 | 8 => 28 | 7 => 27 | 19 => 44 | 20 => 45 | 10 => 35 | 11 => 36 | 12 => 37 | 13 => 38 | 14 => 39 | 15 => 40 | 16 => 41 | 17 => 42 | 18 => 43 | 30 => 57 | 31 => 58 | 32 => 59 | 33 => 60 | 34 => 61 | 35 => 34 | 40 => 65 | n => n, fun | 23 => 36 | 25 => 3 | 3 => 3 | 32 => 65 | 22 => 36 | 0 => 0 | 44 => 89 | 46 => 91 | 4 => 4 | 36 => 83 | 35 => 82 | 41 => 55 | 5 => 5 | 9 => 9 | 53 => 111 | 57 => 115 | 63 => 119 | 64 => 120 | n => n, fun  | n => n⟩
theorem sortA : Go.Proofs.SlLaysM.n5 Tryd.prog sortA_ren := {
  mixed := by kernel_rfl
  f5 := ⟨Tryd.f21.name, by decide, Tryd.func21.trans (congrArg some (by kernel_rfl))⟩
  f7 := ⟨Tryd.f27.name, by decide, Tryd.func27.trans (congrArg some (by kernel_rfl))⟩
  f8 := Tryd.func28.trans (congrArg some (by kernel_rfl))
  f10 := ⟨Tryd.f35.name, by decide, Tryd.func35.trans (congrArg some (by kernel_rfl))⟩
  f11 := ⟨Tryd.f36.name, by decide, Tryd.func36.trans (congrArg some (by kernel_rfl))⟩
  f12 := ⟨Tryd.f37.name, by decide, Tryd.func37.trans (congrArg some (by kernel_rfl))⟩
  f13 := ⟨Tryd.f38.name, by decide, Tryd.func38.trans (congrArg some (by kernel_rfl))⟩
  f14 := ⟨Tryd.f39.name, by decide, Tryd.func39.trans (congrArg some (by kernel_rfl))⟩
  f15 := ⟨Tryd.f40.name, by decide, Tryd.func40.trans (congrArg some (by kernel_rfl))⟩
  f16 := ⟨Tryd.f41.name, by decide, Tryd.func41.trans (congrArg some (by kernel_rfl))⟩
  f17 := ⟨Tryd.f42.name, by decide, Tryd.func42.trans (congrArg some (by kernel_rfl))⟩
  f18 := ⟨Tryd.f43.name, by decide, Tryd.func43.trans (congrArg some (by kernel_rfl))⟩
  f19 := Tryd.func44.trans (congrArg some (by kernel_rfl))
  f20 := Tryd.func45.trans (congrArg some (by kernel_rfl))
  f30 := ⟨Tryd.f57.name, by decide, Tryd.func57.trans (congrArg some (by kernel_rfl))⟩
  f31 := Tryd.func58.trans (congrArg some (by kernel_rfl))
  f32 := Tryd.func59.trans (congrArg some (by kernel_rfl))
  f33 := ⟨Tryd.f60.name, by decide, Tryd.func60.trans (congrArg some (by kernel_rfl))⟩
  f34 := ⟨Tryd.f61.name, by decide, Tryd.func61.trans (congrArg some (by kernel_rfl))⟩
  f35 := ⟨Tryd.f34.name, by decide, Tryd.func34.trans (congrArg some (by kernel_rfl))⟩
  f40 := ⟨Tryd.f65.name, by decide, Tryd.func65.trans (congrArg some (by kernel_rfl))⟩
  t0 := Tryd.underlying0
  a0 := Tryd.isAgg0
  z0 := Tryd.sizeOf0
  v0 := Tryd.zeroValue0
  t3 := Tryd.underlying3
  a3 := Tryd.isAgg3
  z3 := Tryd.sizeOf3
  v3 := Tryd.zeroValue3
  t4 := Tryd.underlying4
  a4 := Tryd.isAgg4
  z4 := Tryd.sizeOf4
  v4 := Tryd.zeroValue4
  t5 := Tryd.underlying5
  a5 := Tryd.isAgg5
  z5 := Tryd.sizeOf5
  v5 := Tryd.zeroValue5
  t9 := Tryd.underlying9
  a9 := Tryd.isAgg9
  z9 := Tryd.sizeOf9
  v9 := Tryd.zeroValue9
  t22 := Tryd.underlying36
  a22 := Tryd.isAgg36
  z22 := Tryd.sizeOf36
  v22 := Tryd.zeroValue36
  t23 := Tryd.underlying36
  a23 := Tryd.isAgg36
  z23 := Tryd.sizeOf36
  v23 := Tryd.zeroValue36
  t25 := Tryd.underlying3
  a25 := Tryd.isAgg3
  z25 := Tryd.sizeOf3
  v25 := Tryd.zeroValue3
  t32 := Tryd.underlying65
  a32 := Tryd.isAgg65
  z32 := Tryd.sizeOf65
  v32 := Tryd.zeroValue65
  t35 := Tryd.underlying82
  a35 := Tryd.isAgg82
  z35 := Tryd.sizeOf82
  v35 := Tryd.zeroValue82
  t36 := Tryd.underlying83
  a36 := Tryd.isAgg83
  z36 := Tryd.sizeOf83
  v36 := Tryd.zeroValue83
  t41 := Tryd.underlying55
  a41 := Tryd.isAgg55
  z41 := Tryd.sizeOf55
  v41 := Tryd.zeroValue55
  t44 := Tryd.underlying89
  a44 := Tryd.isAgg89
  z44 := Tryd.sizeOf89
  v44 := Tryd.zeroValue89
  t46 := Tryd.underlying91
  a46 := Tryd.isAgg91
  z46 := Tryd.sizeOf91
  v46 := Tryd.zeroValue91
  t53 := Tryd.underlying111
  a53 := Tryd.isAgg111
  z53 := Tryd.sizeOf111
  v53 := Tryd.zeroValue111
  t57 := Tryd.underlying115
  a57 := Tryd.isAgg115
  z57 := Tryd.sizeOf115
  v57 := Tryd.zeroValue115
  t63 := Tryd.underlying119
  a63 := Tryd.isAgg119
  z63 := Tryd.sizeOf119
  v63 := Tryd.zeroValue119
  t64 := Tryd.underlying120
  a64 := Tryd.isAgg120
  z64 := Tryd.sizeOf120
  v64 := Tryd.zeroValue120 }
theorem World.grownBy_refl' (w : World) (row : Option Nat) : w.grownBy w row := ⟨rfl, rfl, rfl, Nat.le_refl _, fun _ _ _ => rfl⟩
/-- slices.Sort at a row of ints of the call's own -/
theorem sortInts_own (M : Nat) (v : Value) (A : List Int) (w : World) (hA : A.length ≤ 1000000) (h : w.ownsRow M 3 1 v A.length (A.map encI)) :
    Calls Tryd.prog 21 #[v] w fun e w' => e = .returned (.tuple #[]) ∧ w'.ownsRow M 3 1 v A.length ((A.mergeSort fun x y => decide (x ≤ y)).map encI) ∧ w.grownBy w' v.ownBlock := by
  have hnone : ∀ p cap (w : World), Calls Tryd.prog 21 #[.slice p 0 cap] w fun e w' => e = .returned (.tuple #[]) ∧ w' = w := fun p cap w => AnyM.slices_Sort_int_none sortA p cap w
  rcases h.2 with ⟨rfl, h0⟩ | ⟨g, cap, cur, rfl, hb, hg, hc, hm, hs, ht⟩
  · have hA0 : A = [] := List.eq_nil_of_length_eq_zero h0
    subst hA0
    refine (hnone none 0 w).mono ?_
    rintro e w' ⟨rfl, rfl⟩
    exact ⟨rfl, by simpa using h, World.grownBy_refl' _ _⟩
  · by_cases h0 : A.length = 0
    · have hA0 : A = [] := List.eq_nil_of_length_eq_zero h0
      subst hA0
      refine (hnone _ cap w).mono ?_
      rintro e w' ⟨rfl, rfl⟩
      exact ⟨rfl, by simpa using h, World.grownBy_refl' _ _⟩
    · have hc' : Calls Tryd.prog 21 #[.slice (some ⟨g, 0, none⟩) A.length cap] w fun e w' => e = .returned (.tuple #[]) ∧ ∃ n os, w' = grow (putRow (Value.int .i64) (Sort.ahead w n) g 0 (A.mergeSort fun x y => decide (x ≤ y)).toArray) os :=
        AnyM.slices_Sort_int sortA g 0 cap A w (holds_of_blockI hg (by simpa using ht)) (lt_of_block hg) (by omega)
      refine hc'.mono ?_
      rintro e w' ⟨rfl, n, os, rfl⟩
      exact ⟨rfl, ownsRow_sortedI (by rw [List.length_mergeSort]) hb hg hc hm hs, grownBy_sortedI _⟩
end Go.Proofs.YtefhbjkhmfmkaaaDoor
