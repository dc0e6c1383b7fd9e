import Derived.Test.YtefhbjkhmfmkaaaVoiceC
import Derived.Shelf.SlSortCmp.NoneTotal
import Derived.Ground.SlsfProg
import Derived.Sort.OwnSortedInts
import Derived.Test.YtefhbjkhmfmkaaaRows
/-! slices.SortFunc at voices: the shelf's contract, laid (printed by shelfgen.py), and what it says of a row of the call's own. -/
namespace Go.Proofs.Ytefhbjkhmfmkaaa
open Go Go.RowKit Go.Maps Go.Sort Go.Shelf Go.Proofs
set_option linter.unusedVariables false
set_option linter.unusedSimpArgs false
def sortVA_ren : Go.Shelf.Ren := ⟨fun | 6 => 16 | 15 => 21 | 14 => 22 | 28 => 33 | 29 => 34 | 20 => 35 | 21 => 36 | 22 => 37 | 23 => 38 | 24 => 39 | 25 => 40 | 26 => 41 | 27 => 42 | 46 => 48 | 47 => 44 | 48 => 45 | 49 => 49 | 50 => 50 | 57 => 52 | n => n, fun | 22 => 30 | 24 => 29 | 25 => 52 | 3 => 3 | 39 => 55 | 0 => 0 | 53 => 66 | 55 => 68 | 4 => 4 | 46 => 60 | 45 => 59 | 50 => 47 | 5 => 5 | 9 => 9 | 66 => 74 | 70 => 78 | 76 => 82 | 77 => 83 | n => n, fun  | n => n⟩
theorem sortVA : Go.Proofs.SlLaysF0.n6 Try.prog sortVA_ren := {
  mixed := by kernel_rfl
  f6 := ⟨Try.f16.name, by decide, Try.func16.trans (congrArg some (by kernel_rfl))⟩
  f14 := ⟨Try.f22.name, by decide, Try.func22.trans (congrArg some (by kernel_rfl))⟩
  f15 := Try.func21.trans (congrArg some (by kernel_rfl))
  f20 := ⟨Try.f35.name, by decide, Try.func35.trans (congrArg some (by kernel_rfl))⟩
  f21 := ⟨Try.f36.name, by decide, Try.func36.trans (congrArg some (by kernel_rfl))⟩
  f22 := ⟨Try.f37.name, by decide, Try.func37.trans (congrArg some (by kernel_rfl))⟩
  f23 := ⟨Try.f38.name, by decide, Try.func38.trans (congrArg some (by kernel_rfl))⟩
  f24 := ⟨Try.f39.name, by decide, Try.func39.trans (congrArg some (by kernel_rfl))⟩
  f25 := ⟨Try.f40.name, by decide, Try.func40.trans (congrArg some (by kernel_rfl))⟩
  f26 := ⟨Try.f41.name, by decide, Try.func41.trans (congrArg some (by kernel_rfl))⟩
  f27 := ⟨Try.f42.name, by decide, Try.func42.trans (congrArg some (by kernel_rfl))⟩
  f28 := Try.func33.trans (congrArg some (by kernel_rfl))
  f29 := Try.func34.trans (congrArg some (by kernel_rfl))
  f46 := ⟨Try.f48.name, by decide, Try.func48.trans (congrArg some (by kernel_rfl))⟩
  f47 := Try.func44.trans (congrArg some (by kernel_rfl))
  f48 := Try.func45.trans (congrArg some (by kernel_rfl))
  f49 := ⟨Try.f49.name, by decide, Try.func49.trans (congrArg some (by kernel_rfl))⟩
  f50 := ⟨Try.f50.name, by decide, Try.func50.trans (congrArg some (by kernel_rfl))⟩
  f57 := ⟨Try.f52.name, by decide, Try.func52.trans (congrArg some (by kernel_rfl))⟩
  t0 := Try.underlying0
  a0 := Try.isAgg0
  z0 := Try.sizeOf0
  v0 := Try.zeroValue0
  t3 := Try.underlying3
  a3 := Try.isAgg3
  z3 := Try.sizeOf3
  v3 := Try.zeroValue3
  t4 := Try.underlying4
  a4 := Try.isAgg4
  z4 := Try.sizeOf4
  v4 := Try.zeroValue4
  t5 := Try.underlying5
  a5 := Try.isAgg5
  z5 := Try.sizeOf5
  v5 := Try.zeroValue5
  t9 := Try.underlying9
  a9 := Try.isAgg9
  z9 := Try.sizeOf9
  v9 := Try.zeroValue9
  t22 := Try.underlying30
  a22 := Try.isAgg30
  z22 := Try.sizeOf30
  v22 := Try.zeroValue30
  t25 := Try.underlying52
  a25 := Try.isAgg52
  z25 := Try.sizeOf52
  v25 := Try.zeroValue52
  t39 := Try.underlying55
  a39 := Try.isAgg55
  z39 := Try.sizeOf55
  v39 := Try.zeroValue55
  t45 := Try.underlying59
  a45 := Try.isAgg59
  z45 := Try.sizeOf59
  v45 := Try.zeroValue59
  t46 := Try.underlying60
  a46 := Try.isAgg60
  z46 := Try.sizeOf60
  v46 := Try.zeroValue60
  t50 := Try.underlying47
  a50 := Try.isAgg47
  z50 := Try.sizeOf47
  v50 := Try.zeroValue47
  t53 := Try.underlying66
  a53 := Try.isAgg66
  z53 := Try.sizeOf66
  v53 := Try.zeroValue66
  t55 := Try.underlying68
  a55 := Try.isAgg68
  z55 := Try.sizeOf68
  v55 := Try.zeroValue68
  t66 := Try.underlying74
  a66 := Try.isAgg74
  z66 := Try.sizeOf74
  v66 := Try.zeroValue74
  t70 := Try.underlying78
  a70 := Try.isAgg78
  z70 := Try.sizeOf78
  v70 := Try.zeroValue78
  t76 := Try.underlying82
  a76 := Try.isAgg82
  z76 := Try.sizeOf82
  v76 := Try.zeroValue82
  t77 := Try.underlying83
  a77 := Try.isAgg83
  z77 := Try.sizeOf83
  v77 := Try.zeroValue83 }

theorem swoV : SWO (ltOf Pl.vcmp) where
  irrefl := fun x => by
    unfold ltOf
    exact decide_eq_false (fun h => by have := (Pl.vcmp_lt x x).1 h; unfold Pl.vBef at this; omega)
  trans := fun x y z h1 h2 => by
    unfold ltOf at *
    have a := (Pl.vcmp_lt x y).1 (of_decide_eq_true h1)
    have b := (Pl.vcmp_lt y z).1 (of_decide_eq_true h2)
    exact decide_eq_true ((Pl.vcmp_lt x z).2 (by unfold Pl.vBef at *; omega))
  ntrans := fun x y z h1 h2 => by
    unfold ltOf at *
    have a : ¬ Pl.vBef x y := fun q => of_decide_eq_false h1 ((Pl.vcmp_lt x y).2 q)
    have b : ¬ Pl.vBef y z := fun q => of_decide_eq_false h2 ((Pl.vcmp_lt y z).2 q)
    exact decide_eq_false (fun h => by
      have := (Pl.vcmp_lt x z).1 h
      unfold Pl.vBef at *
      omega)
theorem totV (x y : Vc) (h1 : ltOf Pl.vcmp x y = false) (h2 : ltOf Pl.vcmp y x = false) : x = y := by
  unfold ltOf at *
  have a : ¬ Pl.vBef x y := fun q => of_decide_eq_false h1 ((Pl.vcmp_lt x y).2 q)
  have b : ¬ Pl.vBef y x := fun q => of_decide_eq_false h2 ((Pl.vcmp_lt y x).2 q)
  obtain ⟨n, v⟩ := x
  obtain ⟨n', v'⟩ := y
  unfold Pl.vBef at *
  simp only at a b
  have e1 : n = n' := by omega
  have e2 : v = v' := by omega
  rw [e1, e2]
theorem vc_len (L : List Vc) : (vcK.all L).length = L.length * 2 := RecK.all_len vcK vcK_ok L
theorem flatV (L : List Vc) : (flatK Vc.cells 2 L.toArray).toList = vcK.all L := by
  apply List.ext_getElem?
  intro t
  by_cases ht : t < L.length * 2
  · have hq : t / 2 < L.length := by omega
    have e := RecK.all_at vcK vcK_ok L (t / 2) L[t / 2] (List.getElem?_eq_getElem hq) (t % 2) (Nat.mod_lt _ (by decide))
    rw [show vcK.n = 2 from rfl, show t / 2 * 2 + t % 2 = t by omega] at e
    rw [e, Array.getElem?_toList]
    have hs : t < (flatK Vc.cells 2 L.toArray).size := by simpa using ht
    rw [Array.getElem?_eq_getElem hs, ← getElem!_pos (flatK Vc.cells 2 L.toArray) t hs, get_flatK _ _ _ t (by simpa using ht)]
    have : L.toArray[t / 2]! = L[t / 2] := by
      rw [getElem!_pos L.toArray (t / 2) (by simpa using hq)]; simp
    rw [this]
    show some ((Vc.cells L[t / 2])[t % 2]!) = (Vc.cells L[t / 2])[t % 2]?
    have h2 : t % 2 < (Vc.cells L[t / 2]).length := by show t % 2 < 2; omega
    rw [List.getElem?_eq_getElem h2]
    simp [getElem!_def, List.getElem?_eq_getElem h2]
  · rw [List.getElem?_eq_none (by simp; omega), List.getElem?_eq_none (by rw [vc_len]; omega)]
/-- the list that the sort leaves -/
def Pl.vsort (L : List Vc) : List Vc := L.mergeSort fun x y => !(ltOf Pl.vcmp) y x
theorem Pl.vsort_perm (L : List Vc) : (Pl.vsort L).Perm L := List.mergeSort_perm _ _
theorem Pl.vsort_len (L : List Vc) : (Pl.vsort L).length = L.length := (Pl.vsort_perm L).length_eq
theorem Pl.vsort_pw (L : List Vc) : (Pl.vsort L).Pairwise fun x y => ¬ Pl.vBef y x := by
  have h := List.pairwise_mergeSort (le := fun x y => !(ltOf Pl.vcmp) y x) (fun a b c h1 h2 => by
    simp only [Bool.not_eq_true'] at *
    exact swoV.ntrans c b a h2 h1) (fun a b => by
    simp only [Bool.or_eq_true, Bool.not_eq_true']
    cases e : ltOf Pl.vcmp b a with
    | false => exact .inl rfl
    | true =>
      right
      cases e2 : ltOf Pl.vcmp a b with
      | false => rfl
      | true =>
        have := swoV.trans _ _ _ e e2
        rw [swoV.irrefl] at this; cases this) L
  refine h.imp fun {x y} hxy q => ?_
  simp only [Bool.not_eq_true'] at hxy
  unfold ltOf at hxy
  exact of_decide_eq_false hxy ((Pl.vcmp_lt y x).2 q)
/-- slices.SortFunc at a row of voices of the call's own -/
theorem sortVoices_own (M : Nat) (v : Value) (L : List Vc) (w : World) (hl : L.length ≤ 1000) (h : vcK.Own w M v L) :
    Calls Try.prog 16 #[v, .func (.func 17) #[] #[]] w fun e w' => e = .returned (.tuple #[]) ∧ vcK.Own w' M v (Pl.vsort L) ∧ w.grownBy w' v.ownBlock := by
  have hnone : ∀ p cap (w : World), Calls Try.prog 16 #[.slice p 0 cap, .func (.func 17) #[] #[]] w fun e w' => e = .returned (.tuple #[]) ∧ w' = w := fun p cap w => AnyF.slices_SortFunc_none sortVA p cap _ w
  have refl : ∀ (w : World) (row : Option Nat), w.grownBy w row := fun w row => ⟨rfl, rfl, rfl, Nat.le_refl _, fun _ _ _ => rfl⟩
  rcases h.2 with ⟨rfl, h0⟩ | ⟨g, cap, cur, rfl, hb, hg, hc, hm, hs, ht⟩
  · have hA0 : L = [] := List.eq_nil_of_length_eq_zero h0
    subst hA0
    refine (hnone none 0 w).mono ?_
    rintro e w' ⟨rfl, rfl⟩
    exact ⟨rfl, by simpa [Pl.vsort] using h, refl _ _⟩
  · by_cases h0 : L.length = 0
    · have hA0 : L = [] := List.eq_nil_of_length_eq_zero h0
      subst hA0
      refine (hnone _ cap w).mono ?_
      rintro e w' ⟨rfl, rfl⟩
      exact ⟨rfl, by simpa [Pl.vsort] using h, refl _ _⟩
    · have hg : w.heap[g]? = some (.cells cur 29 (0, 0)) := hg
      have hcs : cur.size = cap * 2 := hs
      have htk : cur.toList.take (L.length * 2) = vcK.all L := ht
      have hH : HoldsK Vc.cells 2 w g 0 L.toArray := by
        intro j hj
        have hj2 : j < L.length * 2 := by simpa using hj
        refine ⟨?_, obj_free hg _⟩
        rw [Nat.zero_add]
        refine obj_cell hg ?_
        have e1 : (vcK.all L)[j]? = some ((flatK Vc.cells 2 L.toArray)[j]!) := by
          rw [← flatV, Array.getElem?_toList, Array.getElem?_eq_getElem hj, getElem!_pos _ j hj]
        rw [← htk, List.getElem?_take, if_pos hj2] at e1
        simpa using e1
      have hc' := AnyQ.slices_SortFunc_total sortVA 2 (fun w => Try.isAgg29 w) (fun w => Try.sizeOf29 w) Vc.cells (fun _ => rfl) (fun x v hv => by simp [Vc.cells] at hv; rcases hv with rfl | rfl <;> rfl) Pl.vcmp swoV 17 #[] g 0 cap L.toArray w (enters_of Try.func17 (by kernel_rfl) rfl) (fun _ _ _ _ x y => vclosure x y _) hH (lt_of_block hg) (by simp; omega) totV
      refine Calls.mono hc' ?_
      rintro e w' ⟨rfl, n, os, rfl⟩
      have e1 : ((L.toArray.toList.mergeSort fun x y => !(ltOf Pl.vcmp) y x).toArray) = (Pl.vsort L).toArray := rfl
      rw [e1]
      have hgl := lt_of_block hg
      refine ⟨rfl, ?_, ?_⟩
      · have hw1 : (sortWorldK Vc.cells 2 w g 0 n (Pl.vsort L).toArray os).heap[g]? = some (.cells (putCells id 0 (flatK Vc.cells 2 (Pl.vsort L).toArray) cur) 29 (0, 0)) := by
          unfold sortWorldK putRowK
          rw [heap_grow_old _ _ (by simpa using hgl)]
          simp [putRow, mapBlock, Sort.ahead, Array.getElem?_modify, hg, onCells]
        refine ⟨by rw [vc_len]; rfl, .inr ⟨g, cap, _, by rw [Pl.vsort_len], hb, hw1, by rw [Pl.vsort_len]; exact hc, hm, by simp [putCells]; exact hs, ?_⟩⟩
        rw [Pl.vsort_len, show L.length * vcK.n = L.length * 2 from rfl, ← flatV]
        apply List.ext_getElem?
        intro j
        have hfl : (flatK Vc.cells 2 (Pl.vsort L).toArray).size = L.length * 2 := by simp [Pl.vsort_len]
        by_cases hj : j < L.length * 2
        · rw [List.getElem?_take_of_lt hj, Array.getElem?_toList, Array.getElem?_toList]
          have hj2 : j < (flatK Vc.cells 2 (Pl.vsort L).toArray).size := by rw [hfl]; exact hj
          simp [putCells, hfl, hj, show j < cur.size by omega, hj2]
        · rw [List.getElem?_take_eq_none (by omega), List.getElem?_eq_none (by simp [Pl.vsort_len]; omega)]
      · refine ⟨rfl, rfl, rfl, by simp [sortWorldK, putRowK, putRow, mapBlock, Sort.ahead, grow], fun k hk hne => ?_⟩
        unfold sortWorldK putRowK
        rw [heap_grow_old _ _ (by simpa using hk)]
        have : g ≠ k := fun e => hne (by rw [← e]; rfl)
        simp [putRow, mapBlock, Sort.ahead, Array.getElem?_modify, this]
end Go.Proofs.Ytefhbjkhmfmkaaa
