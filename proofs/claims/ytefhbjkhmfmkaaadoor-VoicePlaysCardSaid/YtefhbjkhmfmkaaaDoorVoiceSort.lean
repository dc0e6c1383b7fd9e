import Derived.Test.YtefhbjkhmfmkaaaDoorVoiceC
import Derived.Shelf.SlSortCmp.NoneTotal
import Derived.Ground.SlsfProg
import Derived.Sort.OwnSortedInts
import Derived.Test.YtefhbjkhmfmkaaaDoorRows
/-! slices.SortFunc at voices: the shelf's contract, laid (printed by shelfgen.py), and what it says of a row of the call's own. -/
namespace Go.Proofs.YtefhbjkhmfmkaaaDoor
open Go Go.RowKit Go.Maps Go.Sort Go.Shelf Go.Proofs
set_option linter.unusedVariables false
set_option linter.unusedSimpArgs false
def sortVA_ren : Go.Shelf.Ren := ⟨fun | 6 => 23 | 15 => 28 | 14 => 33 | 28 => 44 | 29 => 45 | 20 => 49 | 21 => 50 | 22 => 51 | 23 => 52 | 24 => 53 | 25 => 54 | 26 => 55 | 27 => 56 | 46 => 62 | 47 => 58 | 48 => 59 | 49 => 63 | 50 => 64 | 57 => 66 | n => n, fun | 22 => 30 | 24 => 38 | 25 => 62 | 3 => 3 | 39 => 65 | 0 => 0 | 53 => 89 | 55 => 91 | 4 => 4 | 46 => 83 | 45 => 82 | 50 => 55 | 5 => 5 | 9 => 9 | 66 => 111 | 70 => 115 | 76 => 119 | 77 => 120 | n => n, fun  | n => n⟩
theorem sortVA : Go.Proofs.SlLaysF0.n6 Tryd.prog sortVA_ren := {
  mixed := by kernel_rfl
  f6 := ⟨Tryd.f23.name, by decide, Tryd.func23.trans (congrArg some (by kernel_rfl))⟩
  f14 := ⟨Tryd.f33.name, by decide, Tryd.func33.trans (congrArg some (by kernel_rfl))⟩
  f15 := Tryd.func28.trans (congrArg some (by kernel_rfl))
  f20 := ⟨Tryd.f49.name, by decide, Tryd.func49.trans (congrArg some (by kernel_rfl))⟩
  f21 := ⟨Tryd.f50.name, by decide, Tryd.func50.trans (congrArg some (by kernel_rfl))⟩
  f22 := ⟨Tryd.f51.name, by decide, Tryd.func51.trans (congrArg some (by kernel_rfl))⟩
  f23 := ⟨Tryd.f52.name, by decide, Tryd.func52.trans (congrArg some (by kernel_rfl))⟩
  f24 := ⟨Tryd.f53.name, by decide, Tryd.func53.trans (congrArg some (by kernel_rfl))⟩
  f25 := ⟨Tryd.f54.name, by decide, Tryd.func54.trans (congrArg some (by kernel_rfl))⟩
  f26 := ⟨Tryd.f55.name, by decide, Tryd.func55.trans (congrArg some (by kernel_rfl))⟩
  f27 := ⟨Tryd.f56.name, by decide, Tryd.func56.trans (congrArg some (by kernel_rfl))⟩
  f28 := Tryd.func44.trans (congrArg some (by kernel_rfl))
  f29 := Tryd.func45.trans (congrArg some (by kernel_rfl))
  f46 := ⟨Tryd.f62.name, by decide, Tryd.func62.trans (congrArg some (by kernel_rfl))⟩
  f47 := Tryd.func58.trans (congrArg some (by kernel_rfl))
  f48 := Tryd.func59.trans (congrArg some (by kernel_rfl))
  f49 := ⟨Tryd.f63.name, by decide, Tryd.func63.trans (congrArg some (by kernel_rfl))⟩
  f50 := ⟨Tryd.f64.name, by decide, Tryd.func64.trans (congrArg some (by kernel_rfl))⟩
  f57 := ⟨Tryd.f66.name, by decide, Tryd.func66.trans (congrArg some (by kernel_rfl))⟩
  t0 := Tryd.underlying0
  a0 := Tryd.isAgg0
  z0 := Tryd.sizeOf0
  v0 := Tryd.zeroValue0
  t3 := Tryd.underlying3
  a3 := Tryd.isAgg3
  z3 := Tryd.sizeOf3
  v3 := Tryd.zeroValue3
  t4 := Tryd.underlying4
  a4 := Tryd.isAgg4
  z4 := Tryd.sizeOf4
  v4 := Tryd.zeroValue4
  t5 := Tryd.underlying5
  a5 := Tryd.isAgg5
  z5 := Tryd.sizeOf5
  v5 := Tryd.zeroValue5
  t9 := Tryd.underlying9
  a9 := Tryd.isAgg9
  z9 := Tryd.sizeOf9
  v9 := Tryd.zeroValue9
  t22 := Tryd.underlying30
  a22 := Tryd.isAgg30
  z22 := Tryd.sizeOf30
  v22 := Tryd.zeroValue30
  t25 := Tryd.underlying62
  a25 := Tryd.isAgg62
  z25 := Tryd.sizeOf62
  v25 := Tryd.zeroValue62
  t39 := Tryd.underlying65
  a39 := Tryd.isAgg65
  z39 := Tryd.sizeOf65
  v39 := Tryd.zeroValue65
  t45 := Tryd.underlying82
  a45 := Tryd.isAgg82
  z45 := Tryd.sizeOf82
  v45 := Tryd.zeroValue82
  t46 := Tryd.underlying83
  a46 := Tryd.isAgg83
  z46 := Tryd.sizeOf83
  v46 := Tryd.zeroValue83
  t50 := Tryd.underlying55
  a50 := Tryd.isAgg55
  z50 := Tryd.sizeOf55
  v50 := Tryd.zeroValue55
  t53 := Tryd.underlying89
  a53 := Tryd.isAgg89
  z53 := Tryd.sizeOf89
  v53 := Tryd.zeroValue89
  t55 := Tryd.underlying91
  a55 := Tryd.isAgg91
  z55 := Tryd.sizeOf91
  v55 := Tryd.zeroValue91
  t66 := Tryd.underlying111
  a66 := Tryd.isAgg111
  z66 := Tryd.sizeOf111
  v66 := Tryd.zeroValue111
  t70 := Tryd.underlying115
  a70 := Tryd.isAgg115
  z70 := Tryd.sizeOf115
  v70 := Tryd.zeroValue115
  t76 := Tryd.underlying119
  a76 := Tryd.isAgg119
  z76 := Tryd.sizeOf119
  v76 := Tryd.zeroValue119
  t77 := Tryd.underlying120
  a77 := Tryd.isAgg120
  z77 := Tryd.sizeOf120
  v77 := Tryd.zeroValue120 }

theorem swoV : SWO (ltOf Pl.vcmp) where
  irrefl := fun x => by
    unfold ltOf
    exact decide_eq_false (fun h => by have := (Pl.vcmp_lt x x).1 h; unfold Pl.vBef at this; omega)
  trans := fun x y z h1 h2 => by
    unfold ltOf at *
    have a := (Pl.vcmp_lt x y).1 (of_decide_eq_true h1)
    have b := (Pl.vcmp_lt y z).1 (of_decide_eq_true h2)
    exact decide_eq_true ((Pl.vcmp_lt x z).2 (by unfold Pl.vBef at *; omega))
  ntrans := fun x y z h1 h2 => by
    unfold ltOf at *
    have a : ¬ Pl.vBef x y := fun q => of_decide_eq_false h1 ((Pl.vcmp_lt x y).2 q)
    have b : ¬ Pl.vBef y z := fun q => of_decide_eq_false h2 ((Pl.vcmp_lt y z).2 q)
    exact decide_eq_false (fun h => by
      have := (Pl.vcmp_lt x z).1 h
      unfold Pl.vBef at *
      omega)
theorem totV (x y : Vc) (h1 : ltOf Pl.vcmp x y = false) (h2 : ltOf Pl.vcmp y x = false) : x = y := by
  unfold ltOf at *
  have a : ¬ Pl.vBef x y := fun q => of_decide_eq_false h1 ((Pl.vcmp_lt x y).2 q)
  have b : ¬ Pl.vBef y x := fun q => of_decide_eq_false h2 ((Pl.vcmp_lt y x).2 q)
  obtain ⟨n, v⟩ := x
  obtain ⟨n', v'⟩ := y
  unfold Pl.vBef at *
  simp only at a b
  have e1 : n = n' := by omega
  have e2 : v = v' := by omega
  rw [e1, e2]
theorem vc_len (L : List Vc) : (vcK.all L).length = L.length * 2 := RecK.all_len vcK vcK_ok L
theorem flatV (L : List Vc) : (flatK Vc.cells 2 L.toArray).toList = vcK.all L := by
  apply List.ext_getElem?
  intro t
  by_cases ht : t < L.length * 2
  · have hq : t / 2 < L.length := by omega
    have e := RecK.all_at vcK vcK_ok L (t / 2) L[t / 2] (List.getElem?_eq_getElem hq) (t % 2) (Nat.mod_lt _ (by decide))
    rw [show vcK.n = 2 from rfl, show t / 2 * 2 + t % 2 = t by omega] at e
    rw [e, Array.getElem?_toList]
    have hs : t < (flatK Vc.cells 2 L.toArray).size := by simpa using ht
    rw [Array.getElem?_eq_getElem hs, ← getElem!_pos (flatK Vc.cells 2 L.toArray) t hs, get_flatK _ _ _ t (by simpa using ht)]
    have : L.toArray[t / 2]! = L[t / 2] := by
      rw [getElem!_pos L.toArray (t / 2) (by simpa using hq)]; simp
    rw [this]
    show some ((Vc.cells L[t / 2])[t % 2]!) = (Vc.cells L[t / 2])[t % 2]?
    have h2 : t % 2 < (Vc.cells L[t / 2]).length := by show t % 2 < 2; omega
    rw [List.getElem?_eq_getElem h2]
    simp [getElem!_def, List.getElem?_eq_getElem h2]
  · rw [List.getElem?_eq_none (by simp; omega), List.getElem?_eq_none (by rw [vc_len]; omega)]
/-- the list that the sort leaves -/
def Pl.vsort (L : List Vc) : List Vc := L.mergeSort fun x y => !(ltOf Pl.vcmp) y x
theorem Pl.vsort_perm (L : List Vc) : (Pl.vsort L).Perm L := List.mergeSort_perm _ _
theorem Pl.vsort_len (L : List Vc) : (Pl.vsort L).length = L.length := (Pl.vsort_perm L).length_eq
theorem Pl.vsort_pw (L : List Vc) : (Pl.vsort L).Pairwise fun x y => ¬ Pl.vBef y x := by
  have h := List.pairwise_mergeSort (le := fun x y => !(ltOf Pl.vcmp) y x) (fun a b c h1 h2 => by
    simp only [Bool.not_eq_true'] at *
    exact swoV.ntrans c b a h2 h1) (fun a b => by
    simp only [Bool.or_eq_true, Bool.not_eq_true']
    cases e : ltOf Pl.vcmp b a with
    | false => exact .inl rfl
    | true =>
      right
      cases e2 : ltOf Pl.vcmp a b with
      | false => rfl
      | true =>
        have := swoV.trans _ _ _ e e2
        rw [swoV.irrefl] at this; cases this) L
  refine h.imp fun {x y} hxy q => ?_
  simp only [Bool.not_eq_true'] at hxy
  unfold ltOf at hxy
  exact of_decide_eq_false hxy ((Pl.vcmp_lt y x).2 q)
/-- slices.SortFunc at a row of voices of the call's own -/
theorem sortVoices_own (M : Nat) (v : Value) (L : List Vc) (w : World) (hl : L.length ≤ 1000) (h : vcK.Own w M v L) :
    Calls Tryd.prog 23 #[v, .func (.func 24) #[] #[]] w fun e w' => e = .returned (.tuple #[]) ∧ vcK.Own w' M v (Pl.vsort L) ∧ w.grownBy w' v.ownBlock := by
  have hnone : ∀ p cap (w : World), Calls Tryd.prog 23 #[.slice p 0 cap, .func (.func 24) #[] #[]] w fun e w' => e = .returned (.tuple #[]) ∧ w' = w := fun p cap w => AnyF.slices_SortFunc_none sortVA p cap _ w
  have refl : ∀ (w : World) (row : Option Nat), w.grownBy w row := fun w row => ⟨rfl, rfl, rfl, Nat.le_refl _, fun _ _ _ => rfl⟩
  rcases h.2 with ⟨rfl, h0⟩ | ⟨g, cap, cur, rfl, hb, hg, hc, hm, hs, ht⟩
  · have hA0 : L = [] := List.eq_nil_of_length_eq_zero h0
    subst hA0
    refine (hnone none 0 w).mono ?_
    rintro e w' ⟨rfl, rfl⟩
    exact ⟨rfl, by simpa [Pl.vsort] using h, refl _ _⟩
  · by_cases h0 : L.length = 0
    · have hA0 : L = [] := List.eq_nil_of_length_eq_zero h0
      subst hA0
      refine (hnone _ cap w).mono ?_
      rintro e w' ⟨rfl, rfl⟩
      exact ⟨rfl, by simpa [Pl.vsort] using h, refl _ _⟩
    · have hg : w.heap[g]? = some (.cells cur 38 (0, 0)) := hg
      have hcs : cur.size = cap * 2 := hs
      have htk : cur.toList.take (L.length * 2) = vcK.all L := ht
      have hH : HoldsK Vc.cells 2 w g 0 L.toArray := by
        intro j hj
        have hj2 : j < L.length * 2 := by simpa using hj
        refine ⟨?_, obj_free hg _⟩
        rw [Nat.zero_add]
        refine obj_cell hg ?_
        have e1 : (vcK.all L)[j]? = some ((flatK Vc.cells 2 L.toArray)[j]!) := by
          rw [← flatV, Array.getElem?_toList, Array.getElem?_eq_getElem hj, getElem!_pos _ j hj]
        rw [← htk, List.getElem?_take, if_pos hj2] at e1
        simpa using e1
      have hc' := AnyQ.slices_SortFunc_total sortVA 2 (fun w => Tryd.isAgg38 w) (fun w => Tryd.sizeOf38 w) Vc.cells (fun _ => rfl) (fun x v hv => by simp [Vc.cells] at hv; rcases hv with rfl | rfl <;> rfl) Pl.vcmp swoV 24 #[] g 0 cap L.toArray w (enters_of Tryd.func24 (by kernel_rfl) rfl) (fun _ _ _ _ x y => vclosure x y _) hH (lt_of_block hg) (by simp; omega) totV
      refine Calls.mono hc' ?_
      rintro e w' ⟨rfl, n, os, rfl⟩
      have e1 : ((L.toArray.toList.mergeSort fun x y => !(ltOf Pl.vcmp) y x).toArray) = (Pl.vsort L).toArray := rfl
      rw [e1]
      have hgl := lt_of_block hg
      refine ⟨rfl, ?_, ?_⟩
      · have hw1 : (sortWorldK Vc.cells 2 w g 0 n (Pl.vsort L).toArray os).heap[g]? = some (.cells (putCells id 0 (flatK Vc.cells 2 (Pl.vsort L).toArray) cur) 38 (0, 0)) := by
          unfold sortWorldK putRowK
          rw [heap_grow_old _ _ (by simpa using hgl)]
          simp [putRow, mapBlock, Sort.ahead, Array.getElem?_modify, hg, onCells]
        refine ⟨by rw [vc_len]; rfl, .inr ⟨g, cap, _, by rw [Pl.vsort_len], hb, hw1, by rw [Pl.vsort_len]; exact hc, hm, by simp [putCells]; exact hs, ?_⟩⟩
        rw [Pl.vsort_len, show L.length * vcK.n = L.length * 2 from rfl, ← flatV]
        apply List.ext_getElem?
        intro j
        have hfl : (flatK Vc.cells 2 (Pl.vsort L).toArray).size = L.length * 2 := by simp [Pl.vsort_len]
        by_cases hj : j < L.length * 2
        · rw [List.getElem?_take_of_lt hj, Array.getElem?_toList, Array.getElem?_toList]
          have hj2 : j < (flatK Vc.cells 2 (Pl.vsort L).toArray).size := by rw [hfl]; exact hj
          simp [putCells, hfl, hj, show j < cur.size by omega, hj2]
        · rw [List.getElem?_take_eq_none (by omega), List.getElem?_eq_none (by simp [Pl.vsort_len]; omega)]
      · refine ⟨rfl, rfl, rfl, by simp [sortWorldK, putRowK, putRow, mapBlock, Sort.ahead, grow], fun k hk hne => ?_⟩
        unfold sortWorldK putRowK
        rw [heap_grow_old _ _ (by simpa using hk)]
        have : g ≠ k := fun e => hne (by rw [← e]; rfl)
        simp [putRow, mapBlock, Sort.ahead, Array.getElem?_modify, this]
end Go.Proofs.YtefhbjkhmfmkaaaDoor
