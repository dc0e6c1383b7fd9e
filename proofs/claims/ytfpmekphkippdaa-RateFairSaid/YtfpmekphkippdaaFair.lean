import Derived.Test.YtfpmekphkippdaaFairW
/-! rate.Fair. -/
namespace Go.Proofs.Ytfpmekphkippdaa
open Go.RowKit
open Go.Sort hiding Below
set_option linter.unusedVariables false
set_option linter.unusedSimpArgs false
set_option linter.unusedSectionVars false
theorem abs_f {P : Program} {c : Code} {Q : Exit → Act → World → Prop} {a : Act} {W : World} (S : World → Prop) (h : S W) (k : ∀ wq, S wq → c.wp P Q a wq) : c.wp P Q a W := k W h
theorem Holds.block {α : Type} [Inhabited α] {enc : α → Value} {w w' : World} {blk off : Nat} {d : Array α} (h : Holds enc w blk off d) (e : w'.heap[blk]? = w.heap[blk]?) : Holds enc w' blk off d := fun j hj => by
  obtain ⟨h1, h2⟩ := h j hj
  refine ⟨by rw [World.cell?_of_block (w := w) (w' := w') (a := ⟨blk, off + j, none⟩) e]; exact h1, ?_⟩
  unfold World.frozen? at h2 ⊢
  rw [e]; exact h2
theorem kb_putRow {α : Type} [Inhabited α] {enc : α → Value} {M blk off : Nat} {w Z : World} {D : Array α} (h : Below M w Z) (hb : M ≤ blk) : Below M w (putRow enc Z blk off D) := by
  unfold putRow mapBlock
  refine ⟨h.os, h.tape, h.output, by simpa using h.size, fun j hj => ?_⟩
  show (Z.heap.modify blk _)[j]? = _
  rw [Array.getElem?_modify, if_neg (by omega)]
  exact h.block j hj
/-- the order's numbers, and what they stand for -/
theorem fair_keys (A : List Int) (N : Nat) (hN : A.length = N + 1) (D0 D : Array (Fin (N + 1))) (h0 : D0.size = N + 1) (hid : ∀ j, j < N + 1 → D0[j]!.val = j) (hM : Mg (ltK (fKey N A)) 0 (N + 1) D0 D) :
    ∃ K : List Int, K.length = N + 1 ∧ (∀ i (hi : i < K.length), K[i] = A.getD D[i]!.val 0) ∧ A.Perm K ∧ K.Pairwise (fun x y => x ≤ y) ∧ ∀ i, i < N + 1 → ∃ j, j < N + 1 ∧ D[j]!.val = i := by
  have hD : D.size = N + 1 := hM.perm.1.trans h0
  have hp := hM.perm.2.2
  rw [extract_toList _ _ _ (by omega), extract_toList _ _ _ (by omega), Nat.sub_zero] at hp
  have hA : A = ((List.range' 0 (N + 1)).map (fun i => D0[i]!)).map (fKey N A) := by
    refine List.ext_getElem (by simp [hN]) (fun i h1 h2 => ?_)
    have hi : i < N + 1 := by omega
    simp only [List.getElem_map, List.getElem_range', Nat.zero_add, Nat.one_mul]
    show A[i] = A.getD D0[i]!.val 0
    rw [hid i hi, List.getD_eq_getElem?_getD, List.getElem?_eq_getElem h1]; rfl
  refine ⟨((List.range' 0 (N + 1)).map (fun i => D[i]!)).map (fKey N A), by simp, fun i hi => ?_, ?_, ?_, fun i hi => ?_⟩
  · simp only [List.getElem_map, List.getElem_range', Nat.zero_add, Nat.one_mul]
  · have q := (hp.map (fKey N A)).symm
    rw [← hA] at q
    exact q
  · rw [List.pairwise_iff_getElem]
    intro i j hi hj hij
    simp only [List.getElem_map, List.getElem_range', Nat.zero_add, Nat.one_mul]
    simp only [List.length_map, List.length_range'] at hi hj
    have := hM.sort i j (Nat.zero_le _) hij hj
    simp only [ltK, decide_eq_false_iff_not] at this
    omega
  · have hm : D0[i]! ∈ (List.range' 0 (N + 1)).map (fun i => D[i]!) := by
      refine hp.mem_iff.2 (List.mem_map.2 ⟨i, ?_, rfl⟩)
      rw [List.mem_range']; exact ⟨i, hi, by omega⟩
    obtain ⟨j, hj, e⟩ := List.mem_map.1 hm
    rw [List.mem_range'] at hj
    obtain ⟨k, hk, rfl⟩ := hj
    refine ⟨0 + 1 * k, by omega, ?_⟩
    show D[0 + 1 * k]!.val = i
    rw [e, hid i hi]
/-- the memory of Fair's loops -/
structure FW (w : World) (N : Nat) (A : List Int) (B g fo c blk gg : Nat) (D : Array (Fin (N + 1))) (O : Array Int) (z : World) : Prop where
  box : z.cell? ⟨B, 0, none⟩ = some (.slice (some ⟨g, fo, none⟩) A.length c)
  wants : ∀ k, k < A.length → z.cell? ⟨g, fo + k, none⟩ = some (.int .i64 (A.getD k 0))
  ord : Holds (encF (fIdx N)) z blk 0 D
  out : Holds (encF (fun x : Int => x)) z gg 0 O
  kb : Below w.heap.size w z
  nb : w.heap.size ≤ gg ∧ gg ≠ B ∧ gg ≠ g ∧ gg ≠ blk
theorem FW.set {w : World} {N : Nat} {A : List Int} {B g fo c blk gg : Nat} {D : Array (Fin (N + 1))} {O : Array Int} {z : World} (h : FW w N A B g fo c blk gg D O z) (i : Nat) (hi : i < O.size) (x : Int) : FW w N A B g fo c blk gg D (O.setIfInBounds i x) (z.setCell ⟨gg, i, none⟩ (.int .i64 x)) := by
  obtain ⟨n1, n2, n3, n4⟩ := h.nb
  have he : ∀ j, j ≠ gg → (z.setCell ⟨gg, i, none⟩ (.int .i64 x)).heap[j]? = z.heap[j]? := fun j hj => Below.heap_setCell _ _ _ _ hj
  have hs := putRow_self (encF (fun x : Int => x)) z gg 0 O h.out
  have hset := putRow_set (encF (fun x : Int => x)) z gg 0 O i x hi
  rw [hs, Nat.zero_add] at hset
  refine ⟨?_, fun k hk => ?_, Holds.block h.ord (he _ (Ne.symm n4)), ?_, Below.setCell h.kb n1 _, h.nb⟩
  · rw [World.cell?_of_block (w := z) (a := ⟨B, 0, none⟩) (he _ (Ne.symm n2))]; exact h.box
  · rw [World.cell?_of_block (w := z) (a := ⟨g, fo + k, none⟩) (he _ (Ne.symm n3))]; exact h.wants k hk
  · have q := holds_putRow (encF (fun x : Int => x)) z gg 0 O (O.setIfInBounds i x) h.out (by simp)
    rw [← hset] at q
    exact q
theorem FW.outAt {w : World} {N : Nat} {A : List Int} {B g fo c blk gg : Nat} {D : Array (Fin (N + 1))} {O : Array Int} {z : World} (h : FW w N A B g fo c blk gg D O z) (i : Nat) (hi : i < O.size) : z.cell? ⟨gg, i, none⟩ = some (.int .i64 O[i]!) ∧ z.frozen? ⟨gg, i, none⟩ = false := by
  have := h.out i hi
  rw [Nat.zero_add] at this
  exact this
theorem FW.ordAt {w : World} {N : Nat} {A : List Int} {B g fo c blk gg : Nat} {D : Array (Fin (N + 1))} {O : Array Int} {z : World} (h : FW w N A B g fo c blk gg D O z) (i : Nat) (hi : i < D.size) : z.cell? ⟨blk, i, none⟩ = some (.int .i64 (D[i]!.val : Int)) := by
  have := (h.ord i hi).1
  rw [Nat.zero_add] at this
  exact this
def FairE (w : World) (A : List Int) (T : Int) (e : Ending) (w' : World) : Prop := ∃ (s left : Int) (oa : Option Addr) (c' : Nat), e = .returned (.tuple #[.slice oa A.length c', .nilIface]) ∧ Sl encI w' (.slice oa A.length c') (Pl.fairGo s left A) ∧ Pl.FairS A T s left ∧ Below w.heap.size w w'
set_option maxHeartbeats 8000000 in
set_option maxRecDepth 1000000 in
theorem fair_main (T : Int) (A : List Int) (N : Nat) (hN : A.length = N + 1) (h200 : A.length ≤ 200) (hT : Pl.rate T) (hr : ¬ Pl.wrongs A) (g fo c : Nat) (w : World) (hv : Sl encI w (.slice (some ⟨g, fo, none⟩) A.length c) A) :
    Calls Try.prog 4 #[.int .i64 T, .slice (some ⟨g, fo, none⟩) A.length c] w (FairE w A T) := by
  have hr2 : ∀ x ∈ A, 0 ≤ x ∧ x ≤ 1000000 := fun x hx => Classical.byContradiction fun h => hr ⟨x, hx, h⟩
  have HR := Lib.hid hr2
  have HT := Lib.hid hT
  have hwc : ∀ k, k < A.length → w.cell? ⟨g, fo + k, none⟩ = some (.int .i64 (A.getD k 0)) := fun k hk => by
    rcases hv with ⟨h1, _⟩ | ⟨b', off', cap', e, hlc, hm, hc⟩
    · subst h1; simp at hk
    · cases e
      rw [List.getD_eq_getElem?_getD, List.getElem?_eq_getElem hk]; exact hc k hk
  have hgl : g < w.heap.size := Sl.lt (hwc 0 (by omega))
  have HWC := Lib.hid hwc
  have HV := Lib.hid hv
  have k1 : Below w.heap.size w (w.alloc (.cells #[.slice (some ⟨g, fo, none⟩) A.length c] 22)) := (Below.refl _ _).alloc (Nat.le_refl _) _
  have WR := Lib.hid (rateWrong_any _ A _ (hv.below k1) false ⟨(fun h => by cases h), fun h => absurd h hr⟩)
  have hdT : decide (Pl.rate T) = true := decide_eq_true hT
  obtain ⟨n, hn⟩ : ∃ n, A.length = n := ⟨_, rfl⟩
  have HNN := Lib.hid hn
  rw [hn] at h200 k1 WR ⊢
  have e1 : ¬ (200 : Int) < (n : Int) := by omega
  have hmk := make_intsF n (by omega)
  have hmf : ∀ (fn : Fn) (first cap : Array Value) (w : World), (Instr.makeFunc fn first cap).run Try.prog w = .ok (.func fn first cap) w := fun _ _ _ _ => rfl
  clear hr hr2 hwc hv hT
  go_enter Try.func4, Try.ntmps4
  go_upto_region 5 with (first
    | (go_at_call 5; refine (rateRate_any T _).mono ?_; rw [hdT]; rintro e z ⟨rfl, rfl⟩)
    | (go_at_call 6; (with_reducible refine WR.out.mono ?_); rintro e z ⟨rfl, rfl⟩))
  go_upto_region 7 with fail
  obtain ⟨B, hB⟩ : ∃ B, w.heap.size = B := ⟨_, rfl⟩
  obtain ⟨blk, hblk⟩ : ∃ blk, B + 1 = blk := ⟨_, rfl⟩
  have HBB := Lib.hid hB
  have HBK := Lib.hid hblk
  have k2 : Below w.heap.size w ((w.alloc (.cells #[.slice (some ⟨g, fo, none⟩) n c] 22)).alloc (.cells (Array.replicate n (.int .i64 0)) 3)) := k1.alloc (by simp) _
  have z1 := Lib.hid (show ((w.alloc (.cells #[.slice (some ⟨g, fo, none⟩) n c] 22)).alloc (.cells (Array.replicate n (.int .i64 0)) 3)).cell? ⟨B, 0, none⟩ = some (.slice (some ⟨g, fo, none⟩) n c) from by
    rw [← hB]; exact obj_cell (obj_old (obj_new _ _) _) rfl)
  have z2 := Lib.hid (show ∀ k, k < n → ((w.alloc (.cells #[.slice (some ⟨g, fo, none⟩) n c] 22)).alloc (.cells (Array.replicate n (.int .i64 0)) 3)).cell? ⟨g, fo + k, none⟩ = some (.int .i64 (A.getD k 0)) from fun k hk => (k2.cell (p := ⟨g, fo + k, none⟩) hgl).trans (HWC.out k (by rw [hn]; exact hk)))
  have z3 := Lib.hid (show Holds (encF (fIdx N)) ((w.alloc (.cells #[.slice (some ⟨g, fo, none⟩) n c] 22)).alloc (.cells (Array.replicate n (.int .i64 0)) 3)) blk 0 (Array.replicate (N + 1) 0) from fun j hj => by
    have hj' : j < N + 1 := by simpa using hj
    have ho := obj_new (w.alloc (.cells #[.slice (some ⟨g, fo, none⟩) n c] 22)) (.cells (Array.replicate n (.int .i64 0)) 3)
    rw [World.size_alloc, hB, hblk] at ho
    refine ⟨?_, obj_free ho _⟩
    rw [Nat.zero_add]
    refine obj_cell ho ?_
    have e : (Array.replicate (N + 1) (0 : Fin (N + 1)))[j]! = 0 := by simp [hj']
    rw [e]
    have : j < n := by omega
    simp [this]
    show (0 : Int) = (((0 : Fin (N + 1)).val : Nat) : Int)
    simp)
  refine abs_f (fun z => Hid (z.cell? ⟨B, 0, none⟩ = some (.slice (some ⟨g, fo, none⟩) n c)) ∧ Hid (∀ k, k < n → z.cell? ⟨g, fo + k, none⟩ = some (.int .i64 (A.getD k 0))) ∧ Hid (Holds (encF (fIdx N)) z blk 0 (Array.replicate (N + 1) 0)) ∧ Hid (Below w.heap.size w z)) ⟨z1, z2, z3, Lib.hid k2⟩ ?_
  try rw [hB]
  try rw [hblk]
  have HGL := Lib.hid hgl
  clear k1 k2 z1 z2 z3 hmk e1 WR hdT hB hblk hgl
  rintro z ⟨ZB, ZW, ZO, ZK0⟩
  have ZK := Lib.hid (show Below w.heap.size w z from by rw [HBB.out]; exact ZK0.out)
  clear ZK0
  go_loopw [36] (fun s wr => ∃ (i : Nat) (D : Array (Fin (N + 1))), i ≤ n ∧ s = .int .i64 i ∧ Hid (D.size = N + 1) ∧ Hid (∀ j, j < i → D[j]!.val = j) ∧ Hid (wr = putRow (encF (fIdx N)) z blk 0 D)) (fun s _ => n - (intOf s).toNat)
  case atStart => exact ⟨0, _, by omega, rfl, Lib.hid (by simp), Lib.hid (fun j hj => by omega), Lib.hid (putRow_self _ _ _ _ _ ZO.out).symm⟩
  case round =>
    as_aux_lemma =>
    obtain ⟨i, D, hi, rfl, HDs, HDi, HW⟩ := hrel
    have hds := HDs.out
    have hh := holds_putRow (encF (fIdx N)) z blk 0 _ D ZO.out (by rw [hds]; simp)
    by_cases hlt : i < n
    · have e1 : (i : Int) < (n : Int) := by omega
      have i0 : (0 : Int) ≤ (i : Int) := by omega
      obtain ⟨c1, f1⟩ := hh i (by have := HNN.out; omega)
      rw [← HW.out, Nat.zero_add] at c1 f1
      have hlN : i < N + 1 := by have := HNN.out; omega
      have NEXT := Lib.hid (show wr.setCell ⟨blk, i, none⟩ (.int .i64 i) = putRow (encF (fIdx N)) z blk 0 (D.setIfInBounds i ⟨i, hlN⟩) from by
        have := putRow_set (encF (fIdx N)) z blk 0 D i ⟨i, hlN⟩ (by rw [hds]; exact hlN)
        rw [Nat.zero_add] at this
        rw [HW.out]; exact this)
      have DN := Lib.hid (show ∀ j, j < i + 1 → (D.setIfInBounds i ⟨i, hlN⟩)[j]!.val = j from fun j hj => by
        by_cases e : j = i
        · subst e; rw [getElem!_set_same _ _ _ (by omega)]
        · rw [getElem!_set_other _ _ _ _ e]; exact HDi.out j (by omega))
      have DS := Lib.hid (show (D.setIfInBounds i ⟨i, hlN⟩).size = N + 1 from by simp [hds])
      clear hh HW hds
      go_wp2_with fail
      go_roundw
      case measure => simp only [intOf]; omega
      case rel => exact ⟨i + 1, _, by omega, by simp, DS, DN, NEXT⟩
    · have hin : i = n := by omega
      subst hin
      have e1 : ¬ (i : Int) < (i : Int) := by omega
      have hkb := HBB.out
      have hbk := HBK.out
      have hnn := HNN.out
      have hgl := HGL.out
      have y1 : wr.cell? ⟨B, 0, none⟩ = some (.slice (some ⟨g, fo, none⟩) i c) := by
        rw [HW.out, cell?_putRow_other _ _ _ _ _ ⟨B, 0, none⟩ (.inl (show B ≠ blk by omega))]; exact ZB.out
      have y2 : ∀ k, k < i → wr.cell? ⟨g, fo + k, none⟩ = some (.int .i64 (A.getD k 0)) := fun k hk => by
        rw [HW.out, cell?_putRow_other _ _ _ _ _ ⟨g, fo + k, none⟩ (.inl (show g ≠ blk by omega))]; exact ZW.out k hk
      have y3 : Holds (encF (fIdx N)) wr blk 0 D := by rw [HW.out]; exact hh
      have y4 : Below w.heap.size w wr := by rw [HW.out]; exact kb_putRow ZK.out (by omega)
      have CA := fairAll A N hN B g fo c blk 0 wr (by omega) HR.out (by rw [hnn]; exact y1) (by rw [hnn]; exact y2) (by omega) (by omega)
      have SS := Lib.hid (sortStable_any (fIdx N) (fKey N A) B blk 0 i D wr y3 (by rw [hds]; exact CA) (by omega))
      rw [show D.size = i by omega] at SS
      have POST := Lib.hid (show ∀ e x, SymE (fIdx N) (fKey N A) blk 0 0 i D wr e x → e = .returned (.tuple #[]) ∧ ∃ E : Array (Fin (N + 1)), Hid (Mg (ltK (fKey N A)) 0 (N + 1) D E) ∧ x.cell? ⟨B, 0, none⟩ = some (.slice (some ⟨g, fo, none⟩) i c) ∧ Hid (∀ k, k < i → x.cell? ⟨g, fo + k, none⟩ = some (.int .i64 (A.getD k 0))) ∧ Hid (Holds (encF (fIdx N)) x blk 0 E) ∧ Hid (Below w.heap.size w x) from fun e x ⟨h1, E, q, h2, h3⟩ => by
        have hE : E.size = D.size := h3.perm.1
        refine ⟨h1, E, Lib.hid (by rw [show i = N + 1 by omega] at h3; exact h3), ?_, Lib.hid fun k hk => ?_, Lib.hid (Holds.row y3 hE h2), Lib.hid ?_⟩
        · rw [h2]
          show (putRow _ wr blk 0 E).cell? _ = _
          rw [cell?_putRow_other _ _ _ _ _ ⟨B, 0, none⟩ (.inl (show B ≠ blk by omega))]; exact y1
        · rw [h2]
          show (putRow _ wr blk 0 E).cell? _ = _
          rw [cell?_putRow_other _ _ _ _ _ ⟨g, fo + k, none⟩ (.inl (show g ≠ blk by omega))]; exact y2 k hk
        · rw [h2]
          exact Below.drewN (kb_putRow y4 (by omega)) q)
      have HY1 := Lib.hid y1
      clear hh HW hds CA y2 y3 y4 hkb hbk hnn hgl hlt ZB ZW ZO ZK
      go_upto_region 12 with (go_at_call 7; (with_reducible refine SS.out.mono ?_); intro e x hsym; obtain ⟨rfl, E, ME, XB, XW, XO, XK⟩ := POST.out e x hsym; clear hsym)
      clear SS POST y1 HY1
      have KY := Lib.hid (fair_keys A N hN D E HDs.out (fun j hj => HDi.out j (by have := HNN.out; omega)) ME.out)
      obtain ⟨K, k1, k2, k3, k4, k5⟩ := KY.out
      have KL := Lib.hid k1
      have KG := Lib.hid k2
      have KP := Lib.hid k3
      have KS := Lib.hid k4
      have KU := Lib.hid k5
      have HEs := Lib.hid (show E.size = N + 1 from ME.out.perm.1.trans HDs.out)
      clear KY k1 k2 k3 k4 k5 ME HDi HDs
      have hnn := HNN.out
      have CL := Lib.hid (cloneI_own g fo c A x (HV.out.below XK.out) (by omega) (by omega))
      rw [hnn] at CL
      have XBH := Lib.hid XB
      have hsz := XK.out.size
      go_upto_region 14 with (go_at_call 9; (with_reducible refine CL.out.mono ?_); rintro e y ⟨gg, cc, rfl, c1, c2, c3, c4, c5⟩; have G1 := Lib.hid c1; have HC3 := Lib.hid (And.intro c2 c3); have G4 := Lib.hid c4; have G5 := Lib.hid c5; clear c1 c2 c3 c4 c5)
      have FW0 := Lib.hid (show FW w N A B g fo c blk gg E A.toArray y from by
        have hgl := HGL.out
        have hes := HEs.out
        have hbl := Sl.lt XBH.out
        have hol := Sl.lt (XO.out 0 (by omega)).1
        have g1 := G1.out
        have h0 : B < x.heap.size := hbl
        have h1 : blk < x.heap.size := hol
        refine ⟨by rw [hnn]; exact (G5.out.cell (p := ⟨B, 0, none⟩) hbl).trans XBH.out, fun k hk => (G5.out.cell (p := ⟨g, fo + k, none⟩) (show g < x.heap.size by omega)).trans (XW.out k (by omega)), Holds.block XO.out (G5.out.block blk h1), G4.out, XK.out.trans (G5.out.mono hsz), ?_⟩
        omega)
      clear G1 G4 G5
      clear CL XB XBH XW XO XK hsz
      have hdA : ∀ j, j < A.length → A.getD j 0 = A.toArray[j]! := fun j hj => by simp [hj]
      have HDA := Lib.hid hdA
      have HAR := Lib.hid (show ∀ j, j < N + 1 → 0 ≤ A.getD j 0 ∧ A.getD j 0 ≤ 1000000 from fun j hj => by
        have hj' : j < A.length := by omega
        rw [List.getD_eq_getElem?_getD, List.getElem?_eq_getElem hj']
        exact HR.out _ (List.getElem_mem hj'))
      clear hdA
      go_upto_block 3 with fail
      go_cut [9, 10, 11, 12, 13, 14] from 52 to 91 (fun s9 s10 s11 s12 s13 s14 z => ∃ (s left : Int) (O : Array Int), s9 = .int .i64 left ∧ Hid (Pl.FairS A T s left) ∧ Hid (0 ≤ left ∧ left ≤ 1000000) ∧ Hid (O.size = N + 1) ∧ Hid (∀ j, j < N + 1 → O[j]! = if s < A.getD j 0 then s else A.getD j 0) ∧ Hid (FW w N A B g fo c blk gg E O z))
      case first =>
        as_aux_lemma =>
        go_upto_region 15 with fail
        go_loopw [9, 52] (fun s9 s52 wr => ∃ (a : Nat) (left : Int), a ≤ i ∧ s52 = .int .i64 a ∧ s9 = .int .i64 left ∧ Hid (Pl.Served K T a left) ∧ Hid (left ≤ 1000000) ∧ Hid (FW w N A B g fo c blk gg E A.toArray wr)) (fun _ s52 _ => i - (intOf s52).toNat)
        case atStart => exact ⟨0, T, by omega, rfl, rfl, Lib.hid (Pl.Served.start K T HT.out.1), Lib.hid HT.out.2, FW0⟩
        case round =>
          as_aux_lemma =>
          clear FW0
          obtain ⟨a, left, ha, rfl, rfl, SV, LM, FW1⟩ := hrel
          have HN1 := Lib.hid (show i = N + 1 from by have := HNN.out; omega)
          have hl0 := SV.out.l0
          have hl1 := LM.out
          have hB := FW1.out.box
          rw [HNN.out] at hB
          by_cases hlt : a < i
          · have e1 : (a : Int) < (i : Int) := by omega
            have a0 : (0 : Int) ≤ (a : Int) := by omega
            have hN1 := HN1.out
            have q1 := FW1.out.ordAt a (by rw [HEs.out]; omega)
            have hxl := E[a]!.isLt
            have hka : a < K.length := by rw [KL.out]; omega
            have hKa := KG.out a hka
            obtain ⟨x, hx⟩ : ∃ x, E[a]!.val = x := ⟨_, rfl⟩
            rw [hx] at q1 hxl hKa
            have q2 := FW1.out.wants x (by omega)
            have hax := HAR.out x hxl
            obtain ⟨ax, hax'⟩ : ∃ ax, A.getD x 0 = ax := ⟨_, rfl⟩
            rw [hax'] at q2 hax hKa
            obtain ⟨m, hm⟩ : ∃ m, i - a = m := ⟨_, rfl⟩
            have hm0 : 0 < m := by omega
            have hKm : (K.length : Int) - (a : Int) = (m : Int) := by rw [KL.out]; omega
            obtain ⟨sh, hsh⟩ : ∃ sh, left / (m : Int) = sh := ⟨_, rfl⟩
            have hs0 : 0 ≤ sh := by rw [← hsh]; exact Int.ediv_nonneg hl0 (by omega)
            have hs1 : sh ≤ left := by rw [← hsh]; exact Int.ediv_le_self _ hl0
            have hq : left.tdiv (m : Int) = sh := by rw [Int.tdiv_eq_ediv_of_nonneg hl0, hsh]
            have w1 : IntKind.i64.wrap ((i : Int) - (a : Int)) = (m : Int) := by rw [IntKind.wrap_i64]; omega
            have w2 : IntKind.i64.wrap sh = sh := by rw [IntKind.wrap_i64]; omega
            have m0 : ((m : Int) == 0) = false := beq_eq_false_iff_ne.2 (by omega)
            have m1 : ¬ (m : Int) = 0 := by omega
            have x0 : (0 : Int) ≤ (x : Int) := by omega
            have x1 : (x : Int) < (i : Int) := by omega
            have HX := Lib.hid hx
            have HSH := Lib.hid hsh
            have HKM := Lib.hid hKm
            have HKA := Lib.hid (show ∃ h : a < K.length, K[a] = ax from ⟨hka, hKa⟩)
            have HLT := Lib.hid (show i - (a + 1) < i - a from by omega)
            clear hx hsh hKm hKa hka hax' hN1
            by_cases hc : ax ≤ sh
            · have w3 : IntKind.i64.wrap (left - ax) = left - ax := by rw [IntKind.wrap_i64]; omega
              have SV2 := Lib.hid (show Pl.Served K T (a + 1) (left - ax) from by
                obtain ⟨h1, h2⟩ := HKA.out
                have := SV.out.step h1 (by omega) (by rw [h2, HKM.out, HSH.out]; exact hc)
                rw [h2] at this; exact this)
              have LM2 := Lib.hid (show left - ax ≤ 1000000 from by omega)
              clear SV HKA HX HSH hm hs0 hs1 hl0 hl1 hax
              go_wp2_with fail
              go_roundw
              case measure => simp only [intOf]; omega
              case rel => exact ⟨a + 1, left - ax, by omega, by simp, rfl, SV2, LM2, FW1⟩
            · obtain ⟨hka, hKa⟩ := HKA.out
              have BR := SV.out.break hka (by rw [hKa, HKM.out, HSH.out]; exact hc) KS.out A KP.out
              rw [HKM.out, HSH.out] at BR
              have LOW := Lib.hid (show ∀ u, u < a → A.getD E[u]!.val 0 ≤ sh from fun u hu => by
                have hu' : u < K.length := by have := HKA.out.1; omega
                rw [← KG.out u hu']
                have : (K.take a)[u]'(by rw [List.length_take]; omega) = K[u] := List.getElem_take
                exact BR.2.1 _ (this ▸ List.getElem_mem _))
              have HIG := Lib.hid (show ∀ u, a ≤ u → u < N + 1 → sh < A.getD E[u]!.val 0 from fun u hu hu2 => by
                have hu' : u < K.length := by rw [KL.out]; exact hu2
                rw [← KG.out u hu']
                have : (K.drop a)[u - a]'(by rw [List.length_drop]; omega) = K[u] := by
                  rw [List.getElem_drop]; congr 1; omega
                exact BR.2.2 _ (this ▸ List.getElem_mem _))
              have FS := Lib.hid BR.1
              have hN1 := HN1.out
              have hmul : sh * (m : Int) ≤ left := by rw [← HSH.out]; exact Int.ediv_mul_le _ (by omega)
              have HMUL := Lib.hid hmul
              have am : a + m = i := by omega
              have HAM := Lib.hid am
              have w4 : IntKind.i64.wrap ((i : Int) - (a : Int)) = (m : Int) := w1
              have sl1 : ¬ (i : Int) < (a : Int) := by omega
              have sl2 : a ≤ i := ha
              have sl3 : (a : Int) ≤ (i : Int) := by omega
              clear BR SV HKA hKa hka hmul HX HKM am hax hl0 hl1 hN1
              go_upto_region 21 with fail
              clear w1 w4 w2 q1 q2 a0 x0 x1 e1 m0 m1 hq hB
              go_loopw [9, 79] (fun s9 s79 z => ∃ (t : Nat) (lf : Int) (O : Array Int), t ≤ m ∧ s79 = .int .i64 t ∧ s9 = .int .i64 lf ∧ Hid (lf + sh * (t : Int) = left) ∧ Hid (lf ≤ 1000000) ∧ Hid (O.size = N + 1) ∧ Hid (∀ u, a ≤ u → u < a + t → O[E[u]!.val]! = sh) ∧ Hid (∀ j, j < N + 1 → (∀ u, a ≤ u → u < a + t → E[u]!.val ≠ j) → O[j]! = A.getD j 0) ∧ Hid (FW w N A B g fo c blk gg E O z)) (fun _ s79 _ => m - (intOf s79).toNat)
              case atStart => exact ⟨0, left, A.toArray, by omega, rfl, rfl, Lib.hid (by simp), LM, Lib.hid (by simpa using hN), Lib.hid (fun u h1 h2 => by omega), Lib.hid (fun j hj _ => (HDA.out j (by omega)).symm), FW1⟩
              case round =>
                as_aux_lemma =>
                clear FW1
                obtain ⟨t, lf, O, ht, rfl, rfl, HS, HL, HO, HO1, HO2, FW2⟩ := hrel
                by_cases hlt2 : t < m
                · have e1 : (t : Int) < (m : Int) := by omega
                  have t0 : (0 : Int) ≤ (t : Int) := by omega
                  have hN1 := HN1.out
                  have ham := HAM.out
                  have q1 := FW2.out.ordAt (a + t) (by rw [HEs.out]; omega)
                  have hxl := E[a + t]!.isLt
                  obtain ⟨x', hx'⟩ : ∃ x', E[a + t]!.val = x' := ⟨_, rfl⟩
                  rw [hx'] at q1 hxl
                  obtain ⟨q2, q3⟩ := FW2.out.outAt x' (by rw [HO.out]; exact hxl)
                  have x0 : (0 : Int) ≤ (x' : Int) := by omega
                  have x1 : (x' : Int) < (i : Int) := by omega
                  have hge : sh ≤ lf := by
                    have h1 := HMUL.out
                    have h2 := HS.out
                    have h3 : sh * ((t : Int) + 1) ≤ sh * (m : Int) := Int.mul_le_mul_of_nonneg_left (by omega) hs0
                    rw [Int.mul_add, Int.mul_one] at h3
                    omega
                  have hl6 := HL.out
                  have w1 : IntKind.i64.wrap (lf - sh) = lf - sh := by rw [IntKind.wrap_i64]; omega
                  have FW3 := Lib.hid (FW2.out.set x' (by rw [HO.out]; exact hxl) sh)
                  have HO' := Lib.hid (show (O.setIfInBounds x' sh).size = N + 1 from by simp [HO.out])
                  have HS' := Lib.hid (show (lf - sh) + sh * ((t + 1 : Nat) : Int) = left from by
                    have h2 := HS.out
                    rw [show ((t + 1 : Nat) : Int) = (t : Int) + 1 by omega, Int.mul_add, Int.mul_one]; omega)
                  have HL' := Lib.hid (show lf - sh ≤ 1000000 from by omega)
                  have hos : x' < O.size := by rw [HO.out]; exact hxl
                  have HO1' := Lib.hid (show ∀ u, a ≤ u → u < a + (t + 1) → (O.setIfInBounds x' sh)[E[u]!.val]! = sh from fun u h1 h2 => by
                    by_cases e : E[u]!.val = x'
                    · rw [e, getElem!_set_same _ _ _ hos]
                    · rw [getElem!_set_other _ _ _ _ e]
                      refine HO1.out u h1 ?_
                      rcases Nat.lt_or_ge u (a + t) with h | h
                      · exact h
                      · exfalso; apply e; rw [show u = a + t by omega]; exact hx')
                  have HO2' := Lib.hid (show ∀ j, j < N + 1 → (∀ u, a ≤ u → u < a + (t + 1) → E[u]!.val ≠ j) → (O.setIfInBounds x' sh)[j]! = A.getD j 0 from fun j hj h => by
                    have e : j ≠ x' := fun e => h (a + t) (by omega) (by omega) (by rw [hx', e])
                    rw [getElem!_set_other _ _ _ _ e]
                    exact HO2.out j hj fun u h1 h2 => h u h1 (by omega))
                  clear hx' hxl hos HO HO1 HO2 HS HL hge hl6 FW2 hN1 ham
                  go_wp2_with fail
                  go_roundw
                  case measure => simp only [intOf]; omega
                  case rel => exact ⟨t + 1, lf - sh, _, by omega, by simp, rfl, HS', HL', HO', HO1', HO2', FW3⟩
                · have htm : t = m := by omega
                  subst htm
                  have e1 : ¬ (t : Int) < (t : Int) := by omega
                  have hlf : lf = left - sh * (t : Int) := by have := HS.out; omega
                  have FS2 := Lib.hid (show Pl.FairS A T sh lf from by rw [hlf]; exact FS.out)
                  have LF := Lib.hid (show 0 ≤ lf ∧ lf ≤ 1000000 from ⟨FS2.out.l0, HL.out⟩)
                  have OO := Lib.hid (show ∀ j, j < N + 1 → O[j]! = if sh < A.getD j 0 then sh else A.getD j 0 from fun j hj => by
                    have ham := HAM.out
                    have hN1 := HN1.out
                    obtain ⟨u, hu, rfl⟩ := KU.out j hj
                    rcases Nat.lt_or_ge u a with h | h
                    · have h1 := LOW.out u h
                      rw [if_neg (by omega)]
                      refine HO2.out _ hj fun u' h2 h3 e => ?_
                      have h4 := HIG.out u' h2 (by omega)
                      rw [e] at h4
                      omega
                    · have h1 := HIG.out u h hu
                      rw [if_pos h1]
                      exact HO1.out u h (by omega))
                  clear hlf HO1 HO2 HS HL FS hlt2
                  go_wp2_with fail
                  go_meet
                  exact ⟨sh, lf, O, rfl, FS2, LF, HO, OO, FW2⟩
          · have hai : a = i := by omega
            subst hai
            have e1 : ¬ (a : Int) < (a : Int) := by omega
            have FS2 := Lib.hid (show Pl.FairS A T 1000000 left from Pl.Served.all (by have := SV.out; rw [show a = K.length by rw [KL.out]; exact HN1.out] at this; exact this) A KP.out 1000000 (by omega) (fun x hx => (HR.out x hx).2))
            have OO := Lib.hid (show ∀ j, j < N + 1 → A.toArray[j]! = if 1000000 < A.getD j 0 then 1000000 else A.getD j 0 from fun j hj => by
              have h1 := HAR.out j hj
              rw [if_neg (by omega)]
              exact (HDA.out j (by omega)).symm)
            have LF := Lib.hid (show 0 ≤ left ∧ left ≤ 1000000 from ⟨hl0, hl1⟩)
            have HO := Lib.hid (show A.toArray.size = N + 1 from by simpa using hN)
            clear SV hlt hl0 hl1
            go_wp2_with fail
            go_meet
            exact ⟨1000000, left, _, rfl, FS2, LF, HO, OO, FW1⟩
      case rest =>
      clear FW0 KL KG KP KS KU
      obtain ⟨s, left, O, rfl, FS, LF, HO, OO, FW1⟩ := hcut
      have hB := FW1.out.box
      rw [hnn] at hB
      clear hnn
      have RL := Lib.hid (Pl.fairGo_len s A left)
      go_upto_region 28 with fail
      clear hB
      go_loopw [9, 94] (fun s9 s94 wr => ∃ (j : Nat) (lf : Int) (O : Array Int), j ≤ i ∧ s94 = .int .i64 j ∧ s9 = .int .i64 lf ∧ Hid (0 ≤ lf ∧ lf ≤ 1000000) ∧ Hid (O.size = N + 1) ∧ Hid (Pl.fairGo s lf (A.drop j) = (Pl.fairGo s left A).drop j) ∧ Hid (∀ k (hk : k < (Pl.fairGo s left A).length), k < j → O[k]! = (Pl.fairGo s left A)[k]) ∧ Hid (∀ k, j ≤ k → k < N + 1 → O[k]! = if s < A.getD k 0 then s else A.getD k 0) ∧ Hid (FW w N A B g fo c blk gg E O wr)) (fun _ s94 _ => i - (intOf s94).toNat)
      case atStart => exact ⟨0, left, O, by omega, rfl, rfl, LF, HO, Lib.hid rfl, Lib.hid (fun k _ h => by omega), Lib.hid (fun k _ h => OO.out k h), FW1⟩
      case round =>
        as_aux_lemma =>
        clear FW1 HO OO LF
        obtain ⟨j, lf, O, hj, rfl, rfl, LF, HO, HG, HD1, HD2, FW1⟩ := hrel
        have HN1 := Lib.hid (show i = N + 1 from by have := HNN.out; omega)
        by_cases hlt : j < i
        · have e1 : (j : Int) < (i : Int) := by omega
          have j0 : (0 : Int) ≤ (j : Int) := by omega
          have hjA : j < A.length := by rw [HNN.out]; exact hlt
          have hjR : j < (Pl.fairGo s left A).length := by rw [RL.out]; exact hjA
          have hjN : j < N + 1 := by rw [← HN1.out]; exact hlt
          have q2 := FW1.out.wants j hjA
          obtain ⟨q3, q4⟩ := FW1.out.outAt j (by rw [HO.out]; exact hjN)
          have hgd : A.getD j 0 = A[j] := by rw [List.getD_eq_getElem?_getD, List.getElem?_eq_getElem hjA]; rfl
          have hOj := HD2.out j (Nat.le_refl _) hjN
          have har := HAR.out j hjN
          obtain ⟨st1, st2, st3⟩ := Pl.fairGo_step HG.out hjA hjR
          rw [hgd] at q2 hOj har
          obtain ⟨ax, hax⟩ : ∃ ax, A[j] = ax := ⟨_, rfl⟩
          rw [hax] at q2 hOj har st1 st2 st3
          have hl := LF.out
          have hs0 := FS.out.s0
          have STAY := Lib.hid (show O[j]! = (Pl.fairGo s left A)[j] → ∀ k (hk : k < (Pl.fairGo s left A).length), k < j + 1 → O[k]! = (Pl.fairGo s left A)[k] from fun h k hk hk2 => by
            by_cases e : k = j
            · subst e; exact h
            · exact HD1.out k hk (by omega))
          have HD2' := Lib.hid (show ∀ k, j + 1 ≤ k → k < N + 1 → O[k]! = if s < A.getD k 0 then s else A.getD k 0 from fun k h1 h2 => HD2.out k (by omega) h2)
          by_cases h1 : s < ax
          · rw [if_pos h1] at hOj
            rw [hOj] at q3
            have e2 : (s : Int) < ax := h1
            by_cases h2 : 0 < lf
            · obtain ⟨r1, r2⟩ := st1 h1 h2
              have w1 : IntKind.i64.wrap (s + 1) = s + 1 := by rw [IntKind.wrap_i64]; omega
              have w2 : IntKind.i64.wrap (lf - 1) = lf - 1 := by rw [IntKind.wrap_i64]; omega
              have R2 := Lib.hid r2
              have FW2 := Lib.hid (FW1.out.set j (by rw [HO.out]; exact hjN) (s + 1))
              have HO' := Lib.hid (show (O.setIfInBounds j (s + 1)).size = N + 1 from by simp [HO.out])
              have L2 := Lib.hid (show 0 ≤ lf - 1 ∧ lf - 1 ≤ 1000000 from by omega)
              have D1 := Lib.hid (show ∀ k (hk : k < (Pl.fairGo s left A).length), k < j + 1 → (O.setIfInBounds j (s + 1))[k]! = (Pl.fairGo s left A)[k] from fun k hk hk2 => by
                by_cases e : k = j
                · subst e; rw [getElem!_set_same _ _ _ (by rw [HO.out]; exact hjN)]; exact r1.symm
                · rw [getElem!_set_other _ _ _ _ e]; exact HD1.out k hk (by omega))
              have D2 := Lib.hid (show ∀ k, j + 1 ≤ k → k < N + 1 → (O.setIfInBounds j (s + 1))[k]! = if s < A.getD k 0 then s else A.getD k 0 from fun k h3 h4 => by
                rw [getElem!_set_other _ _ _ _ (by omega)]; exact HD2.out k (by omega) h4)
              clear st1 st2 st3 r1 r2 hOj hgd hax HD1 HD2 HD2' STAY HG HO LF hl har hs0 hjA hjR hjN
              go_wp2_with fail
              go_roundw
              case measure => simp only [intOf]; omega
              case rel => exact ⟨j + 1, lf - 1, _, by omega, by simp, rfl, L2, HO', R2, D1, D2, FW2⟩
            · obtain ⟨r1, r2⟩ := st2 h1 h2
              have R2 := Lib.hid r2
              have D1 := Lib.hid (STAY.out (by rw [hOj, r1]))
              clear st1 st2 st3 r1 r2 hOj hgd hax HD1 HD2 STAY HG hl har hs0 hjA hjR hjN
              go_wp2_with fail
              go_roundw
              case measure => simp only [intOf]; omega
              case rel => exact ⟨j + 1, lf, O, by omega, by simp, rfl, LF, HO, R2, D1, HD2', FW1⟩
          · rw [if_neg h1] at hOj
            rw [hOj] at q3
            obtain ⟨r1, r2⟩ := st3 h1
            have R2 := Lib.hid r2
            have D1 := Lib.hid (STAY.out (by rw [hOj, r1]))
            have e2 : ¬ ax < ax := by omega
            clear st1 st2 st3 r1 r2 hOj hgd hax HD1 HD2 STAY HG hl har hs0 hjA hjR hjN
            by_cases h2 : 0 < lf
            · go_wp2_with fail
              go_roundw
              case measure => simp only [intOf]; omega
              case rel => exact ⟨j + 1, lf, O, by omega, by simp, rfl, LF, HO, R2, D1, HD2', FW1⟩
            · go_wp2_with fail
              go_roundw
              case measure => simp only [intOf]; omega
              case rel => exact ⟨j + 1, lf, O, by omega, by simp, rfl, LF, HO, R2, D1, HD2', FW1⟩
        · have hji : j = i := by omega
          subst hji
          have e1 : ¬ (j : Int) < (j : Int) := by omega
          have SLR := Lib.hid (show Sl encI wr (.slice (some ⟨gg, 0, none⟩) j cc) (Pl.fairGo s left A) from .inr ⟨gg, 0, cc, by rw [RL.out, HNN.out], by rw [RL.out, HNN.out]; exact HC3.out.1, HC3.out.2, fun k hk => by
            have hk2 : k < N + 1 := by rw [RL.out, HNN.out] at hk; rw [← HN1.out]; exact hk
            have q := (FW1.out.outAt k (by rw [HO.out]; exact hk2)).1
            rw [HD1.out k hk (by rw [HN1.out]; exact hk2)] at q
            rw [Nat.zero_add]; exact q⟩)
          clear HD1 HD2 HG hlt
          go_wp2_with fail
          go_ret2
          exact ⟨s, left, _, cc, by rw [HNN.out]; rfl, by rw [HNN.out]; exact SLR.out, FS.out, FW1.out.kb⟩
end Go.Proofs.Ytfpmekphkippdaa
