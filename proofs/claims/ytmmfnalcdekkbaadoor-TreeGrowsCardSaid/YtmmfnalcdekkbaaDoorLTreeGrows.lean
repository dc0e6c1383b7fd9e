import Derived.Test.YtmmfnalcdekkbaaDoorPGrow
import Derived.Test.YtmmfnalcdekkbaaDoorRecs
import Derived.Deep.CutBlock
/-! The walk of the law TreeGrows. -/
namespace Go.Proofs.YtmmfnalcdekkbaaDoor
open Go.RowKit
set_option linter.unusedVariables false
set_option linter.unusedSimpArgs false
theorem treeCheck_errV (n : Int) (v : Value) (L : List Ed) (w : World) (hL0 : IsEds w v L) (fe : Int) (hfe : Pl.EdgesF n L fe) :
    Calls Tryd.prog 6 #[.int .i64 n, v] w fun e w' => e = .returned (errV fe) ∧ Below w.heap.size w w' :=
  (treeCheck_any n v L w hL0).mono fun e w' ⟨f, h1, h2, h3⟩ => by
    obtain rfl := hfe.eq h2
    exact ⟨h1, h3⟩
theorem treeCost_errV (n : Int) (v v2 : Value) (L : List Ed) (ps : List Int) (w : World) (hL0 : IsEds w v L) (hp0 : IsSl w v2 ps) (f s : Int) (hc : CostE n L ps f s) :
    Calls Tryd.prog 14 #[.int .i64 n, v, v2] w fun e w' => e = .returned (.tuple #[.int .i64 s, errV f]) ∧ Below w.heap.size w w' :=
  (treeCost_any n v v2 L ps w hL0 hp0).mono fun e w' ⟨f', s', h1, h2, h3⟩ => by
    obtain ⟨rfl, rfl⟩ := hc.eq h2
    exact ⟨h1, h3⟩
theorem ints_true (v1 v2 : Value) (l : List Int) (w : World) (h1 : IsSl w v1 l) (h2 : IsSl w v2 l) :
    Calls Tryd.prog 10 #[v1, v2] w fun e w' => e = .returned (.bool true) ∧ Below w.heap.size w w' :=
  (sameInts_eq v1 v2 l w h1 h2).mono fun e w' ⟨h, n, hn⟩ => ⟨h, hn ▸ Below.drewN (Below.refl _ _) n⟩
def intR : RecK Int := ⟨23, 3, 1, 8, fun x => [.int .i64 x]⟩
theorem intR_ok : intR.Ok where
  und := Tryd.underlying23
  info := by
    obtain ⟨i0, hi, hz0, hz1, hz2⟩ := info_parts infoI64
    exact ⟨i0, _, hi, hz0, hz1, hz2, rfl⟩
  pos := by decide
  len := fun _ => rfl
  one := fun x u hu => by simp [intR] at hu; subst hu; rfl
  small := by decide
theorem intR_all (A : List Int) : intR.all A = A.map encI := by
  induction A with
  | nil => rfl
  | cons x r ih => simp [RecK.all, intR] at ih ⊢; exact ih
/-- nothing behind a row -/
theorem intR_app_nil (W : World) (M : Nat) (v : Value) (A : List Int) (h : intR.Own W M v A) : (Builtin.append_ #[23, 23] 23 #[v, .slice none 0 0]).run Tryd.prog W = .ok v W := by
  obtain ⟨i0, hi, _⟩ := info_parts infoI64
  have hu := Tryd.underlying23
  rcases h.2 with ⟨rfl, h0⟩ | ⟨g, cap, cur, rfl, _, _, hc, _⟩
  · simp [Builtin.append_, run_underlying hu, sizeOf, typeInfo, hi, Builtin.lenOf, Builtin.firstCells, h0]
  · simp [Builtin.append_, run_underlying hu, sizeOf, typeInfo, hi, Builtin.lenOf, Builtin.firstCells, hc, storeCells]
/-- one ahead of a row -/
theorem run_ahead (W : World) (M : Nat) (x : Int) (v : Value) (A : List Int) (hv : ORow W M v A) (hl : A.length ≤ 1000) (hB : M ≤ W.heap.size) :
    ∃ v' w', (Builtin.append_ #[23, 23] 23 #[.slice (some ⟨W.heap.size, 0, none⟩) 1 1, v]).run Tryd.prog (W.alloc (.cells #[.int .i64 x] 3)) = .ok v' w' ∧ ORow w' M v' (x :: A) ∧ Below W.heap.size W w' := by
  have own1 : intR.Own (W.alloc (.cells #[.int .i64 x] 3)) W.heap.size (.slice (some ⟨W.heap.size, 0, none⟩) 1 1) [x] := by
    refine ⟨rfl, .inr ⟨W.heap.size, 1, #[.int .i64 x], rfl, Nat.le_refl _, obj_new _ _, by simp, by unfold maxLen; omega, rfl, rfl⟩⟩
  have hvA : ORow (W.alloc (.cells #[.int .i64 x] 3)) M v A := World.ownsRow.alloc hv _
  obtain ⟨oa, c, rfl, hcell⟩ : ∃ oa c, v = .slice oa A.length c ∧ (∀ k (hk : k < A.length), ∃ g, oa = some ⟨g, 0, none⟩ ∧ (W.alloc (.cells #[.int .i64 x] 3)).cell? ⟨g, k, none⟩ = some (encI A[k])) := by
    rcases Joins.ownsRow_forms hvA with ⟨rfl, h0⟩ | ⟨g, cap, rfl⟩
    · have hA0 : A.length = 0 := by simpa using h0
      exact ⟨none, 0, by rw [hA0], fun k hk => by omega⟩
    · refine ⟨_, cap, rfl, fun k hk => ⟨g, rfl, ?_⟩⟩
      have := World.ownsRow.cells hvA (g := g) rfl k (encI A[k]) (by simp [hk])
      rw [Addr.add_lit, Nat.zero_add] at this
      exact this
  have BA : Below W.heap.size W (W.alloc (.cells #[.int .i64 x] 3)) := (Below.refl _ _).alloc (Nat.le_refl _) _
  have conv : ∀ {w' : World} {v' : Value}, intR.Own w' W.heap.size v' ([x] ++ A) → ORow w' M v' (x :: A) := fun {w' v'} h => by
    have h2 : ORow w' W.heap.size v' (x :: A) := by
      have := h
      unfold RecK.Own at this
      rw [intR_all] at this
      exact this
    exact ORow.lower h2 hB
  rcases Nat.eq_zero_or_pos A.length with h0 | h0
  · obtain rfl : A = [] := List.eq_nil_of_length_eq_zero h0
    cases oa with
    | none =>
      obtain rfl : c = 0 := by
        rcases Joins.ownsRow_forms hv with ⟨e, _⟩ | ⟨g, cap, e⟩
        · cases e; rfl
        · cases e
      exact ⟨_, _, intR_app_nil _ _ _ _ own1, conv (by simpa using own1), BA⟩
    | some a =>
      obtain ⟨v', w', h1, h2, h3, _⟩ := RecK.run_more intR_ok (W.alloc (.cells #[.int .i64 x] 3)) W.heap.size _ [x] [] own1 a c (fun j u hu => by simp [RecK.all] at hu) (by simp) (by simp)
      exact ⟨v', w', h1, conv h2, BA.grown h3 (by simp) (fun k e => by simp [Value.ownBlock] at e; omega)⟩
  · obtain ⟨g, rfl, _⟩ := hcell 0 h0
    obtain ⟨v', w', h1, h2, h3, _⟩ := RecK.run_more intR_ok (W.alloc (.cells #[.int .i64 x] 3)) W.heap.size _ [x] A own1 ⟨g, 0, none⟩ c (fun j u hu => by
      rw [intR_all] at hu
      have hj : j < A.length := by have := (List.getElem?_eq_some_iff.1 hu).1; simpa using this
      obtain ⟨g', e, q⟩ := hcell j hj
      cases e
      rw [Addr.add_lit, Nat.zero_add, q, ← hu]
      simp [hj]) (by simp; omega) (by simp)
    exact ⟨v', w', h1, conv h2, BA.grown h3 (by simp) (fun k e => by simp [Value.ownBlock] at e; omega)⟩
/-- how the sum stands -/
def CostL (n : Int) (L : List Ed) (ps : List Int) (i : Nat) (e s : Int) : Prop :=
  (e ≠ 0 ∧ s = 0 ∧ CostE n L ps e 0) ∨ (e = 0 ∧ (Pl.GoodE n L ∧ GoodT ps ∧ (ps.length : Int) = n) ∧ costSum L ps i = some s ∧ 0 ≤ s ∧ s ≤ 1000000 * i)
def costF0 (n fe ft : Int) (len : Nat) : Int := if fe = 0 then (if ft = 0 then (if (len : Int) = n then 0 else 3) else ft) else fe
theorem CostL.start {n : Int} {L : List Ed} {ps : List Int} {fe ft : Int} (hfe : Pl.EdgesF n L fe) (hft : TreeF ps ft) : CostL n L ps 0 (costF0 n fe ft ps.length) 0 := by
  unfold costF0
  by_cases h1 : fe = 0
  · subst h1
    have hg := Pl.EdgesF.good.1 hfe
    rw [if_pos rfl]
    by_cases h2 : ft = 0
    · subst h2
      have ht := TreeF.good.1 hft
      rw [if_pos rfl]
      by_cases h3 : (ps.length : Int) = n
      · rw [if_pos h3]; exact .inr ⟨rfl, ⟨hg, ht, h3⟩, rfl, by omega, by omega⟩
      · rw [if_neg h3]; exact .inl ⟨by decide, rfl, .inr (.inr (.inl ⟨hg, ht, h3, rfl, rfl⟩))⟩
    · rw [if_neg h2]; exact .inl ⟨h2, rfl, .inr (.inl ⟨hg, h2, hft, rfl⟩)⟩
  · rw [if_neg h1]; exact .inl ⟨h1, rfl, .inl ⟨h1, hfe, rfl⟩⟩
theorem CostL.done {n : Int} {L : List Ed} {ps : List Int} {i : Nat} {e s : Int} (h : CostL n L ps i e s) (hi : e ≠ 0 ∨ i = ps.length) : CostE n L ps e s := by
  rcases h with ⟨h1, rfl, h2⟩ | ⟨rfl, ⟨h1, h2, h3⟩, h4, _⟩
  · exact h2
  · rcases hi with hi | hi
    · exact absurd rfl hi
    · subst hi; exact .inr (.inr (.inr (.inr ⟨h1, h2, h3, h4, rfl⟩)))
theorem CostL.skip {n : Int} {L : List Ed} {ps : List Int} {i : Nat} {s : Int} (h : CostL n L ps i 0 s) (hp : atL ps i < 0) : CostL n L ps (i + 1) 0 s := by
  rcases h with ⟨h1, _⟩ | ⟨_, h1, h4, h5, h6⟩
  · exact absurd rfl h1
  · refine .inr ⟨rfl, h1, ?_, h5, by omega⟩
    show (match costSum L ps i with | none => none | some s => if atL ps i < 0 then some s else if Pl.costF L (atL ps i) i = 0 then none else some (s + Pl.costF L (atL ps i) i)) = _
    rw [h4]; simp [hp]
theorem CostL.none_ {n : Int} {L : List Ed} {ps : List Int} {i : Nat} {s : Int} (h : CostL n L ps i 0 s) (hi : i < ps.length) (hp : ¬ atL ps i < 0) (hc : Pl.costF L i (atL ps i) = 0) : CostL n L ps (i + 1) 5 0 := by
  rcases h with ⟨h1, _⟩ | ⟨_, ⟨q1, q2, q3⟩, h4, h5, h6⟩
  · exact absurd rfl h1
  · refine .inl ⟨by decide, rfl, .inr (.inr (.inr (.inl ⟨q1, q2, q3, ?_, rfl, rfl⟩)))⟩
    refine costSum_none (k := i + 1) ?_ hi
    show (match costSum L ps i with | none => none | some s => if atL ps i < 0 then some s else if Pl.costF L (atL ps i) i = 0 then none else some (s + Pl.costF L (atL ps i) i)) = _
    rw [Pl.costF_symm] at hc
    rw [h4]; simp [hp, hc]
theorem CostL.next {n : Int} {L : List Ed} {ps : List Int} {i : Nat} {s c : Int} (h : CostL n L ps i 0 s) (hp : ¬ atL ps i < 0) (hc : Pl.costF L i (atL ps i) = c) (hc0 : c ≠ 0) : CostL n L ps (i + 1) 0 (s + c) := by
  rcases h with ⟨h1, _⟩ | ⟨_, ⟨q1, q2, q3⟩, h4, h5, h6⟩
  · exact absurd rfl h1
  · rw [Pl.costF_symm] at hc
    have hb := q1.cost_lo (atL ps i) i
    rw [hc] at hb
    refine .inr ⟨rfl, ⟨q1, q2, q3⟩, ?_, by omega, by omega⟩
    show (match costSum L ps i with | none => none | some s => if atL ps i < 0 then some s else if Pl.costF L (atL ps i) i = 0 then none else some (s + Pl.costF L (atL ps i) i)) = _
    rw [h4]; simp [hp, hc, hc0]
set_option maxRecDepth 100000 in
set_option maxHeartbeats 8000000 in
theorem walk_TreeGrows_run (n root node : Int) (v1 v3 : Value) (L : List Ed) (ps : List Int) (w : World) (hL0 : IsEds w v1 L) (hp0 : IsSl w v3 ps) (hE : Env w) :
    Calls Tryd.prog 3 #[.int .i64 n, v1, .int .i64 root, v3, .int .i64 node] w fun e w' => e = .returned (.bool true) ∧ Below w.heap.size w w' := by
  obtain ⟨o3, c3, rfl, hpm, -⟩ := isl_read hp0
  have HL := Lib.hid hL0
  have HP := Lib.hid hp0
  unfold maxLen at hpm
  have ES := Lib.hid (fun (j : Int) y (hh : Below w.heap.size w y) => error_same j y (hE.below hh))
  have RE := Lib.hid (rEdges_any n v1 L w hL0)
  have GA := Lib.hid (fun fe hfe => grow_any n root v1 L w hL0 fe hfe)
  have TC := Lib.hid (fun fe hfe y (k : Below w.heap.size w y) => treeCheck_errV n v1 L y (hL0.below k) fe hfe)
  clear hL0 hp0 hE
  obtain ⟨N, hN⟩ : ∃ N, w.heap.size = N := ⟨_, rfl⟩
  have HN := Lib.hid hN
  rw [hN] at ES RE GA TC ⊢
  clear hN
  go_enter Tryd.func3, Tryd.ntmps3
  go_upto_region 2 with (go_at_call 4; (with_reducible refine RE.out.mono ?_); rintro e w1 ⟨fe, rfl, hfe, k⟩)
  have HFE := Lib.hid hfe
  have K1 := Lib.hid k
  obtain ⟨X, Y, hXY, hB, hDi, hPa⟩ := GA.out fe hfe
  have TC := Lib.hid (TC.out fe hfe)
  have BU := Lib.hid hB
  have DI := Lib.hid hDi
  have PA := Lib.hid hPa
  have HXY := Lib.hid hXY
  obtain ⟨f0, hf0⟩ : ∃ f0, Pl.growF n root fe = f0 := ⟨_, rfl⟩
  rw [hf0] at BU DI PA HXY
  have HF0 := Lib.hid (show f0 = if fe = 0 then (if 0 ≤ root ∧ root < n then 0 else 1) else fe from hf0.symm)
  clear hfe k hXY hB hDi hPa hf0 GA RE
  have up : ∀ {y z : World}, Hid (Below N w y) → Below y.heap.size y z → Below N w z := fun h k => h.out.trans (k.mono (by rw [← HN.out]; exact h.out.size))
  have UP := Lib.hid (fun (y z : World) (h : Hid (Below N w y)) (k : Below y.heap.size y z) => h.out.trans (k.mono (by rw [← HN.out]; exact h.out.size)))
  clear up
  go_upto_region 5 with (first
    | (go_at_call 6; (with_reducible refine (TC.out _ K1.out).mono ?_); rintro e w2 ⟨rfl, k⟩; have K2 := Lib.hid (UP.out _ _ K1 k); clear k)
    | (go_at_call 5; (with_reducible refine (ES.out fe _ K2.out).mono ?_); rintro e w3 ⟨rfl, k⟩; have K3 := Lib.hid (UP.out _ _ K2 k); clear k)
    | fail)
  refine abs_t (fun y => Hid (Below N w y)) K3 ?_
  clear K1 K2 K3 TC
  rintro y KY
  go_cut [60] from 50 to 60 (fun v z => v = .bool (decide (fe = 0 ∧ ¬ (0 ≤ root ∧ root < n))) ∧ y = z)
  case first =>
    by_cases c1 : fe = 0
    · have d1 : (fe == 0) = true := by simp [c1]
      by_cases c2 : root < 0
      · have HX := Lib.hid (show true = decide (fe = 0 ∧ ¬ (0 ≤ root ∧ root < n)) from (decide_eq_true ⟨c1, by omega⟩).symm)
        clear c1
        go_wp2_with fail
        go_meet
        exact ⟨by rw [← HX.out], rfl⟩
      · by_cases c3 : n ≤ root
        · have HX := Lib.hid (show true = decide (fe = 0 ∧ ¬ (0 ≤ root ∧ root < n)) from (decide_eq_true ⟨c1, by omega⟩).symm)
          clear c1
          go_wp2_with fail
          go_meet
          exact ⟨by rw [← HX.out], rfl⟩
        · have HX := Lib.hid (show false = decide (fe = 0 ∧ ¬ (0 ≤ root ∧ root < n)) from (decide_eq_false (fun h => h.2 ⟨by omega, by omega⟩)).symm)
          clear c1
          go_wp2_with fail
          go_meet
          exact ⟨by rw [← HX.out], rfl⟩
    · have d1 : (fe == 0) = false := by simp [c1]
      have HX := Lib.hid (show false = decide (fe = 0 ∧ ¬ (0 ≤ root ∧ root < n)) from (decide_eq_false (fun h => c1 h.1)).symm)
      clear c1
      go_wp2_with fail
      go_meet
      exact ⟨by rw [← HX.out], rfl⟩
  case rest =>
  obtain ⟨rfl, rfl⟩ := hcut
  obtain ⟨m, hm⟩ : ∃ m, decide (fe = 0 ∧ ¬ (0 ≤ root ∧ root < n)) = m := ⟨_, rfl⟩
  have HM := Lib.hid hm
  rw [hm]
  clear hm
  go_upto_if 60 with fail
  go_cut [15] from 50 to 60 (fun v z => v = .int .i64 f0 ∧ y = z)
  case first =>
    cases m
    · have HX := Lib.hid (show f0 = fe by
        have h := of_decide_eq_false HM.out
        rw [HF0.out]
        by_cases c1 : fe = 0
        · rw [if_pos c1, if_pos (by by_cases q : 0 ≤ root ∧ root < n; exact q; exact absurd ⟨c1, q⟩ h), c1]
        · rw [if_neg c1])
      go_wp2_with fail
      go_meet
      exact ⟨by rw [HX.out], rfl⟩
    · have HX := Lib.hid (show f0 = 1 by
        have h := of_decide_eq_true HM.out
        rw [HF0.out, if_pos h.1, if_neg h.2])
      go_wp2_with fail
      go_meet
      exact ⟨by rw [HX.out], rfl⟩
  case rest =>
  obtain ⟨rfl, rfl⟩ := hcut
  clear HM HF0
  go_upto_if 62 with fail
  go_cut [13, 14] from 61 to 71 (fun v13 v14 z => Hid (IsSl z v13 Y) ∧ Hid (IsSl z v14 X) ∧ Hid (Below N w z))
  case first =>
    by_cases h0 : f0 = 0
    · have DI2 := Lib.hid (DI.out h0)
      have PA2 := Lib.hid (PA.out h0)
      have d1 : (f0 == 0) = true := by simp [h0]
      clear h0
      go_wp2_with (first
        | (go_at_call 7; (with_reducible refine (DI2.out _ KY.out).mono ?_); rintro e w4 ⟨vd, rfl, hs, k⟩; have SD := Lib.hid hs; have K4 := Lib.hid (UP.out _ _ KY k); clear hs k)
        | (go_at_call 8; (with_reducible refine (PA2.out _ _ K4.out SD.out).mono ?_); rintro e w5 ⟨vp, rfl, hs, k⟩; have SP := Lib.hid hs; have SD5 := Lib.hid (SD.out.below k); have K5 := Lib.hid (UP.out _ _ K4 k); clear hs k))
      go_meet
      exact ⟨SD5, SP, K5⟩
    · have d1 : (f0 == 0) = false := by simp [h0]
      obtain ⟨hx, hy⟩ := HXY.out h0
      have HX := Lib.hid (And.intro hx hy)
      clear h0 hx hy
      go_wp2_with fail
      go_meet
      exact ⟨Lib.hid (by rw [HX.out.2]; exact Sl.nil _), Lib.hid (by rw [HX.out.1]; exact Sl.nil _), KY⟩
  case rest =>
  clear KY DI PA HXY
  obtain ⟨SY, SX, KY⟩ := hcut
  go_upto_region 11 with (go_at_call 9; (with_reducible refine (BU.out _ KY.out).mono ?_); rintro e w6 ⟨b1, b2, rfl, hs1, hs2, k⟩; have S1 := Lib.hid hs1; have S2 := Lib.hid hs2; have SY6 := Lib.hid (SY.out.below k); have SX6 := Lib.hid (SX.out.below k); have K6 := Lib.hid (UP.out _ _ KY k); clear hs1 hs2 k)
  go_upto_region 12 with (go_at_call 5; (with_reducible refine (ES.out f0 _ K6.out).mono ?_); rintro e w7 ⟨rfl, k⟩; have S1 := Lib.hid (S1.out.below k); have S2 := Lib.hid (S2.out.below k); have SY7 := Lib.hid (SY6.out.below k); have SX7 := Lib.hid (SX6.out.below k); have K7 := Lib.hid (UP.out _ _ K6 k); clear k)
  have I1 := Lib.hid (ints_true _ _ X w7 S1.out SX7.out)
  go_upto_region 13 with (go_at_call 10; (with_reducible refine I1.out.mono ?_); rintro e w8 ⟨rfl, k⟩; have S2 := Lib.hid (S2.out.below k); have SY8 := Lib.hid (SY7.out.below k); have K8 := Lib.hid (UP.out _ _ K7 k); clear k)
  have I2 := Lib.hid (ints_true _ _ Y w8 S2.out SY8.out)
  go_upto_region 14 with (go_at_call 10; (with_reducible refine I2.out.mono ?_); rintro e w9 ⟨rfl, k⟩; have K9 := Lib.hid (UP.out _ _ K8 k); clear k)
  refine abs_t (fun y => Hid (Below N w y)) K9 ?_
  clear K6 K7 K8 K9 S1 S2 SY SX SY6 SX6 SY7 SX7 SY8 I1 I2 KY BU
  rintro y KY
  go_upto_region 16 with fail
  have RT := Lib.hid (fun y (k : Below N w y) => rTree_any (.slice o3 ps.length c3) ps y (HP.out.below (by rw [HN.out]; exact k)))
  go_upto_region 18 with (go_at_call 11; (with_reducible refine (RT.out _ KY.out).mono ?_); rintro e w10 ⟨ft, rfl, hft, rfl⟩)
  have HFT := Lib.hid hft
  have PG := Lib.hid (pathG_ok (x := node) hft)
  obtain ⟨g0, hg0⟩ : ∃ g0, pathG ps node ft = g0 := ⟨_, rfl⟩
  rw [hg0] at PG
  have HG0 := Lib.hid (show g0 = if ft = 0 then (if 0 ≤ node ∧ node < ps.length then 0 else 1) else ft from hg0.symm)
  clear hft hg0 RT
  go_cut [117] from 106 to 117 (fun v z => v = .bool (decide (ft = 0 ∧ ¬ (0 ≤ node ∧ node < ps.length))) ∧ y = z)
  case first =>
    by_cases c1 : ft = 0
    · have d1 : (ft == 0) = true := by simp [c1]
      by_cases c2 : node < 0
      · have HX := Lib.hid (show true = decide (ft = 0 ∧ ¬ (0 ≤ node ∧ node < ps.length)) from (decide_eq_true ⟨c1, by omega⟩).symm)
        clear c1
        go_wp2_with fail
        go_meet
        exact ⟨by rw [← HX.out], rfl⟩
      · by_cases c3 : (ps.length : Int) ≤ node
        · have HX := Lib.hid (show true = decide (ft = 0 ∧ ¬ (0 ≤ node ∧ node < ps.length)) from (decide_eq_true ⟨c1, by omega⟩).symm)
          clear c1
          go_wp2_with fail
          go_meet
          exact ⟨by rw [← HX.out], rfl⟩
        · have HX := Lib.hid (show false = decide (ft = 0 ∧ ¬ (0 ≤ node ∧ node < ps.length)) from (decide_eq_false (fun h => h.2 ⟨by omega, by omega⟩)).symm)
          clear c1
          go_wp2_with fail
          go_meet
          exact ⟨by rw [← HX.out], rfl⟩
    · have d1 : (ft == 0) = false := by simp [c1]
      have HX := Lib.hid (show false = decide (ft = 0 ∧ ¬ (0 ≤ node ∧ node < ps.length)) from (decide_eq_false (fun h => c1 h.1)).symm)
      clear c1
      go_wp2_with fail
      go_meet
      exact ⟨by rw [← HX.out], rfl⟩
  case rest =>
  obtain ⟨rfl, rfl⟩ := hcut
  obtain ⟨m, hm⟩ : ∃ m, decide (ft = 0 ∧ ¬ (0 ≤ node ∧ node < ps.length)) = m := ⟨_, rfl⟩
  have HM := Lib.hid hm
  rw [hm]
  clear hm
  go_upto_if 117 with fail
  go_cut [23] from 106 to 117 (fun v z => v = .int .i64 g0 ∧ y = z)
  case first =>
    cases m
    · have HX := Lib.hid (show g0 = ft by
        have h := of_decide_eq_false HM.out
        rw [HG0.out]
        by_cases c1 : ft = 0
        · rw [if_pos c1, if_pos (by by_cases q : 0 ≤ node ∧ node < ps.length; exact q; exact absurd ⟨c1, q⟩ h), c1]
        · rw [if_neg c1])
      go_wp2_with fail
      go_meet
      exact ⟨by rw [HX.out], rfl⟩
    · have HX := Lib.hid (show g0 = 1 by
        have h := of_decide_eq_true HM.out
        rw [HG0.out, if_pos h.1, if_neg h.2])
      go_wp2_with fail
      go_meet
      exact ⟨by rw [HX.out], rfl⟩
  case rest =>
  obtain ⟨rfl, rfl⟩ := hcut
  clear HM HG0
  obtain ⟨KK, hKK⟩ : ∃ K, (if g0 = 0 then kidsL ps node ps.length else []) = K := ⟨_, rfl⟩
  obtain ⟨PP, hPP⟩ : ∃ K, (if g0 = 0 then (upOf ps node).reverse else []) = K := ⟨_, rfl⟩
  have HKP := Lib.hid (And.intro hKK hPP)
  clear hKK hPP
  go_upto_if 119 with fail
  go_cut [24, 25] from 118 to 147 (fun v24 v25 z => Hid (IsSl z v24 KK) ∧ Hid (IsSl z v25 PP) ∧ Hid (Below N w z))
  case first =>
    by_cases h0 : g0 = 0
    · have HGT : GoodT ps ∧ 0 ≤ node ∧ node < ps.length := by
        rcases PG.out with ⟨h1, _⟩ | ⟨_, _, h1⟩ | ⟨h1, h2, _⟩
        · exact absurd h0 h1
        · omega
        · exact ⟨h1, h2⟩
      obtain ⟨hgt, hn0, hn1⟩ := HGT
      have hp16 := hgt.len
      have HT := Lib.hid hgt
      have HKK := Lib.hid (show kidsL ps node ps.length = KK by have := HKP.out.1; rw [if_pos h0] at this; exact this)
      have HPP := Lib.hid (show (upOf ps node).reverse = PP by have := HKP.out.2; rw [if_pos h0] at this; exact this)
      have d1 : (g0 == 0) = true := by simp [h0]
      rw [d1]
      clear h0 hgt
      go_upto_region 23 with fail
      go_loopw [24, 26] (fun s24 s26 wr => ∃ (i : Nat) (A : List Int), i ≤ ps.length ∧ A.length ≤ i ∧ s26 = .int .i64 i ∧ Hid (A = kidsL ps node i) ∧ Hid (ORow wr N s24 A) ∧ Hid (Below N w wr)) (fun _ s26 _ => ps.length - (intOf s26).toNat)
      case atStart => exact ⟨0, [], by omega, by simp, rfl, Lib.hid rfl, Lib.hid (World.ownsRow_nil _ _ _ _), KY⟩
      case round =>
        clear KY
        obtain ⟨i, A, hi, hA, rfl, HEq, RO, KB⟩ := hrel
        have hNw : N ≤ wr.heap.size := by rw [← HN.out]; exact KB.out.size
        by_cases hlt : i < ps.length
        · obtain ⟨_, _, e, -, rd⟩ := isl_read (HP.out.below (by rw [HN.out]; exact KB.out))
          cases e
          obtain ⟨g, f, rfl, hg, q0⟩ := rd i hlt
          clear rd
          obtain ⟨p, hp⟩ : ∃ p, atL ps i = p := ⟨_, rfl⟩
          have HPi := Lib.hid hp
          rw [hp] at q0
          clear hp
          by_cases hpx : p = node
          · have d : (p == node) = true := by simp [hpx]
            have HE2 := Lib.hid (show A ++ [(i : Int)] = kidsL ps node (i + 1) by rw [kidsL_hit ps node i (HPi.out.trans hpx), HEq.out])
            clear hpx
            have roA : Hid ((wr.alloc (.cells #[.int .i64 (i : Int)] 3)).ownsRow N 3 1 u24 A.length (A.map encI)) := Lib.hid (RO.out.alloc _)
            have kA : Hid (Below N w (wr.alloc (.cells #[.int .i64 (i : Int)] 3))) := Lib.hid (KB.out.alloc hNw _)
            have RUN := Lib.hid (run_moreInt2 _ N u24 (i : Int) A.length (A.map encI) roA.out wr.heap.size (obj_new _ _) (by omega) (by simp; omega))
            have hgb : Hid (∀ g, u24.ownBlock = some g → N ≤ g) := Lib.hid (fun g e => (RO.out.lt g e).1)
            clear RO HEq
            go_upto_region 24 with (at_builtin; obtain ⟨vN, wN, hr, ho, hgr, hbk⟩ := RUN.out; obtain ⟨gN, capN, rfl⟩ := Joins.ownsRow_form ho (by omega); refine Lib.wpList_append_run _ rfl (.tmp 132) (.tmp 134) 23 23 rfl _ _ rfl rfl _ _ hr ?_)
            have RO : Hid (ORow wN N (.slice (some ⟨gN, 0, none⟩) (A.length + 1) capN) (A ++ [(i : Int)])) := Lib.hid (by unfold ORow; rw [List.map_append, List.length_append]; exact ho)
            have KN : Hid (Below N w wN) := Lib.hid ⟨hgr.os.trans kA.out.os, hgr.tape.trans kA.out.tape, hgr.output.trans kA.out.output, Nat.le_trans kA.out.size hgr.size, fun j hj => (hgr.block j (Nat.lt_of_lt_of_le hj (by simp; omega)) (fun e => by have := hgb.out j e.symm; omega)).trans (kA.out.block j hj)⟩
            clear hr ho hgr hbk RUN roA kA hgb q0
            go_wp2_with fail
            go_roundw
            case measure => simp [intOf]; omega
            case rel => exact ⟨i + 1, A ++ [(i : Int)], by omega, by simp; omega, by go_num, HE2, RO, KN⟩
          · have d : (p == node) = false := by simp [hpx]
            have HE2 := Lib.hid (show A = kidsL ps node (i + 1) by rw [kidsL_miss ps node i (by rw [HPi.out]; exact hpx), HEq.out])
            clear hpx
            go_wp2_with fail
            go_roundw
            case measure => simp [intOf]; omega
            case rel => exact ⟨i + 1, A, by omega, by omega, by go_num, HE2, RO, KB⟩
        · have HE2 := Lib.hid (show A = kidsL ps node ps.length by rw [HEq.out, show i = ps.length by omega])
          obtain ⟨vk, hvk⟩ : ∃ v, u24 = v := ⟨_, rfl⟩
          rw [hvk] at RO ⊢
          clear hvk
          have SK := Lib.hid (show IsSl wr vk (kidsL ps node ps.length) by rw [← HE2.out]; exact RO.out.sl)
          clear RO HEq HE2
          go_upto_region 28 with fail
          obtain ⟨wo, hwo⟩ : ∃ wo, wr = wo := ⟨_, rfl⟩
          rw [hwo] at SK KB ⊢
          clear hwo
          go_loopw [25, 27] (fun s25 s27 wr => ∃ (x : Int) (m : Nat) (A : List Int), s27 = .int .i64 x ∧ x < ps.length ∧ m + A.length = ps.length + 1 ∧ Hid (upOf ps node = A.reverse ++ Pl.upL (atL ps) m x) ∧ Hid (ORow wr N s25 A) ∧ Hid (IsSl wr vk (kidsL ps node ps.length)) ∧ Hid (Below N w wr)) (fun s25 _ _ => ps.length + 1 - sliceLen s25)
          case atStart => exact ⟨node, ps.length + 1, [], rfl, hn1, by simp, Lib.hid rfl, Lib.hid (World.ownsRow_nil _ _ _ _), SK, KB⟩
          case round =>
            clear SK KB hlt
            obtain ⟨x, m, A, rfl, hx, hm, HU, RO, SK, KB⟩ := hrel
            have hNw : N ≤ wr.heap.size := by rw [← HN.out]; exact KB.out.size
            obtain ⟨o25, c25, hv25, -⟩ := isl_read RO.out.sl
            by_cases hx0 : 0 ≤ x
            · have hm0 : 0 < m := by
                rcases Nat.eq_zero_or_pos m with h | h
                · exfalso
                  have h1 := HT.out.up node.toNat (by omega)
                  rw [show ((node.toNat : Nat) : Int) = node by omega, HU.out, h] at h1
                  simp [Pl.upL] at h1
                  omega
                · exact h
              obtain ⟨m', rfl⟩ : ∃ m', m = m' + 1 := ⟨m - 1, by omega⟩
              obtain ⟨xn, rfl⟩ : ∃ xn : Nat, x = xn := ⟨x.toNat, by omega⟩
              have hxn : xn < ps.length := by omega
              have HU2 := Lib.hid (show upOf ps node = ((xn : Int) :: A).reverse ++ Pl.upL (atL ps) m' (atL ps xn) by
                rw [HU.out]
                conv => lhs; rw [Pl.upL, if_neg (by omega)]
                simp)
              have hpr := HT.out.ok xn hxn
              obtain ⟨_, _, e, -, rd⟩ := isl_read (HP.out.below (by rw [HN.out]; exact KB.out))
              cases e
              obtain ⟨g, f, e2, hg, q0⟩ := rd xn hxn
              subst e2
              clear rd
              obtain ⟨p, hp⟩ : ∃ p, atL ps xn = p := ⟨_, rfl⟩
              rw [hp] at q0 hpr HU2
              obtain ⟨hpr1, hpr2⟩ := hpr
              have RUN := Lib.hid (run_ahead wr N xn u25 A RO.out (by omega) hNw)
              have KBw := Lib.hid KB.out
              clear hp HU
              go_upto_region 31 with (at_builtin; obtain ⟨vN, wN, hr, ho, hbl⟩ := RUN.out; refine Lib.wpList_append_run _ rfl (.tmp 141) (.tmp 142) 23 23 rfl _ _ rfl rfl _ _ hr ?_)
              have RO2 := Lib.hid ho
              have SK2 := Lib.hid (SK.out.below hbl)
              have KN := Lib.hid (KB.out.trans (hbl.mono hNw))
              have q1 : wN.cell? ⟨g, f + xn, none⟩ = some (.int .i64 p) := (hbl.cell (p := ⟨g, f + xn, none⟩) hg).trans q0
              obtain ⟨oN, cN, hvN, -⟩ := isl_read ho.sl
              subst hvN
              subst hv25
              clear hr ho hbl RUN q0 RO SK KB KBw
              go_wp2_with fail
              go_roundw
              case measure => simp [sliceLen]; omega
              case rel => exact ⟨p, m', (xn : Int) :: A, rfl, by omega, by simp; omega, HU2, RO2, SK2, KN⟩
            · have HU2 := Lib.hid (show A = (upOf ps node).reverse by rw [HU.out, Pl.upL_neg _ _ _ (by omega)]; simp)
              have SP := Lib.hid (show IsSl wr u25 (upOf ps node).reverse by rw [← HU2.out]; exact RO.out.sl)
              clear HU HU2 RO hv25
              go_wp2_with fail
              go_meet
              exact ⟨by rw [← HKK.out]; exact SK, by rw [← HPP.out]; exact SP, KB⟩
    · have d1 : (g0 == 0) = false := by simp [h0]
      have HKK := Lib.hid (show [] = KK by have := HKP.out.1; rw [if_neg h0] at this; exact this)
      have HPP := Lib.hid (show [] = PP by have := HKP.out.2; rw [if_neg h0] at this; exact this)
      clear h0
      go_wp2_with fail
      go_meet
      exact ⟨Lib.hid (by rw [← HKK.out]; exact Sl.nil _), Lib.hid (by rw [← HPP.out]; exact Sl.nil _), KY⟩
  case rest =>
  clear KY
  obtain ⟨SK, SP, KY⟩ := hcut
  obtain ⟨vk, hvk⟩ : ∃ v, u24 = v := ⟨_, rfl⟩
  obtain ⟨vp, hvp⟩ : ∃ v, u25 = v := ⟨_, rfl⟩
  rw [hvk] at SK ⊢
  rw [hvp] at SP ⊢
  clear hvk hvp
  have KD := Lib.hid (fun y (k : Below N w y) => by have q := kids_errV (.slice o3 ps.length c3) ps node g0 y (HP.out.below (by rw [HN.out]; exact k)) PG.out; rw [HKP.out.1] at q; exact q)
  have PD := Lib.hid (fun y (k : Below N w y) => by have q := path_errV (.slice o3 ps.length c3) ps node g0 y (HP.out.below (by rw [HN.out]; exact k)) PG.out; rw [HKP.out.2] at q; exact q)
  go_upto_region 33 with (go_at_call 12; (with_reducible refine (KD.out _ KY.out).mono ?_); rintro e w11 ⟨k1, rfl, hs, k⟩; have S1 := Lib.hid hs; have SK1 := Lib.hid (SK.out.below k); have SP1 := Lib.hid (SP.out.below k); have K1 := Lib.hid (UP.out _ _ KY k); clear hs k)
  go_upto_region 34 with (go_at_call 5; (with_reducible refine (ES.out g0 _ K1.out).mono ?_); rintro e w12 ⟨rfl, k⟩; have S1 := Lib.hid (S1.out.below k); have SK2 := Lib.hid (SK1.out.below k); have SP2 := Lib.hid (SP1.out.below k); have K2 := Lib.hid (UP.out _ _ K1 k); clear k)
  go_upto_region 35 with (go_at_call 13; (with_reducible refine (PD.out _ K2.out).mono ?_); rintro e w13 ⟨p1, rfl, hs, k⟩; have S3 := Lib.hid hs; have S1 := Lib.hid (S1.out.below k); have SK3 := Lib.hid (SK2.out.below k); have SP3 := Lib.hid (SP2.out.below k); have K3 := Lib.hid (UP.out _ _ K2 k); clear hs k)
  go_upto_region 36 with (go_at_call 5; (with_reducible refine (ES.out g0 _ K3.out).mono ?_); rintro e w14 ⟨rfl, k⟩; have S3 := Lib.hid (S3.out.below k); have S1 := Lib.hid (S1.out.below k); have SK4 := Lib.hid (SK3.out.below k); have SP4 := Lib.hid (SP3.out.below k); have K4 := Lib.hid (UP.out _ _ K3 k); clear k)
  have I1 := Lib.hid (ints_true _ _ KK w14 S1.out SK4.out)
  go_upto_region 37 with (go_at_call 10; (with_reducible refine I1.out.mono ?_); rintro e w15 ⟨rfl, k⟩; have S3 := Lib.hid (S3.out.below k); have SP5 := Lib.hid (SP4.out.below k); have K5 := Lib.hid (UP.out _ _ K4 k); clear k)
  have I2 := Lib.hid (ints_true _ _ PP w15 S3.out SP5.out)
  go_upto_region 38 with (go_at_call 10; (with_reducible refine I2.out.mono ?_); rintro e w16 ⟨rfl, k⟩; have K6 := Lib.hid (UP.out _ _ K5 k); clear k)
  refine abs_t (fun y => Hid (Below N w y)) K6 ?_
  clear K1 K2 K3 K4 K5 K6 S1 S3 SK SP SK1 SP1 SK2 SP2 SK3 SP3 SK4 SP4 SP5 I1 I2 KY KD PD
  rintro y KY
  go_upto_if 173 with fail
  go_cut [11] from 172 to 174 (fun v z => v = .int .i64 (if fe = 0 then ft else fe) ∧ y = z)
  case first =>
    by_cases c1 : fe = 0
    · have d1 : (fe == 0) = true := by simp [c1]
      have HX := Lib.hid (show ft = if fe = 0 then ft else fe by rw [if_pos c1])
      clear c1
      go_wp2_with fail
      go_meet
      exact ⟨by rw [← HX.out], rfl⟩
    · have d1 : (fe == 0) = false := by simp [c1]
      have HX := Lib.hid (show fe = if fe = 0 then ft else fe by rw [if_neg c1])
      clear c1
      go_wp2_with fail
      go_meet
      exact ⟨by rw [← HX.out], rfl⟩
  case rest =>
  obtain ⟨rfl, rfl⟩ := hcut
  obtain ⟨e2, he2⟩ : ∃ e2, (if fe = 0 then ft else fe) = e2 := ⟨_, rfl⟩
  obtain ⟨e1, he1⟩ : ∃ e1, costF0 n fe ft ps.length = e1 := ⟨_, rfl⟩
  have HE1 := Lib.hid (show e1 = if e2 = 0 then (if (ps.length : Int) = n then 0 else 3) else e2 by
    rw [← he1, ← he2]
    unfold costF0
    by_cases c1 : fe = 0
    · simp [c1]
    · simp [c1])
  have CL := Lib.hid (show CostL n L ps 0 e1 0 by rw [← he1]; exact CostL.start HFE.out HFT.out)
  rw [he2]
  clear he2 he1
  go_upto_region 40 with fail
  go_cut [182] from 175 to 182 (fun v z => v = .bool (decide (e2 = 0 ∧ ¬ (ps.length : Int) = n)) ∧ y = z)
  case first =>
    by_cases c1 : e2 = 0
    · have d1 : (e2 == 0) = true := by simp [c1]
      by_cases c2 : (ps.length : Int) = n
      · have d2 : ((ps.length : Int) != n) = false := by simp [c2]
        have HX := Lib.hid (show false = decide (e2 = 0 ∧ ¬ (ps.length : Int) = n) from (decide_eq_false (fun h => h.2 c2)).symm)
        clear c1 c2
        go_wp2_with fail
        go_meet
        exact ⟨by rw [← HX.out], rfl⟩
      · have d2 : ((ps.length : Int) != n) = true := by simp [c2]
        have HX := Lib.hid (show true = decide (e2 = 0 ∧ ¬ (ps.length : Int) = n) from (decide_eq_true ⟨c1, c2⟩).symm)
        clear c1 c2
        go_wp2_with fail
        go_meet
        exact ⟨by rw [← HX.out], rfl⟩
    · have d1 : (e2 == 0) = false := by simp [c1]
      have HX := Lib.hid (show false = decide (e2 = 0 ∧ ¬ (ps.length : Int) = n) from (decide_eq_false (fun h => c1 h.1)).symm)
      clear c1
      go_wp2_with fail
      go_meet
      exact ⟨by rw [← HX.out], rfl⟩
  case rest =>
  obtain ⟨rfl, rfl⟩ := hcut
  obtain ⟨m, hm⟩ : ∃ m, decide (e2 = 0 ∧ ¬ (ps.length : Int) = n) = m := ⟨_, rfl⟩
  have HM := Lib.hid hm
  rw [hm]
  clear hm
  go_upto_if 182 with fail
  go_cut [11] from 172 to 182 (fun v z => v = .int .i64 e1 ∧ y = z)
  case first =>
    cases m
    · have HX := Lib.hid (show e1 = e2 by
        have h := of_decide_eq_false HM.out
        rw [HE1.out]
        by_cases c1 : e2 = 0
        · rw [if_pos c1, if_pos (by by_cases q : (ps.length : Int) = n; exact q; exact absurd ⟨c1, q⟩ h), c1]
        · rw [if_neg c1])
      go_wp2_with fail
      go_meet
      exact ⟨by rw [HX.out], rfl⟩
    · have HX := Lib.hid (show e1 = 3 by
        have h := of_decide_eq_true HM.out
        rw [HE1.out, if_pos h.1, if_neg h.2])
      go_wp2_with fail
      go_meet
      exact ⟨by rw [HX.out], rfl⟩
  case rest =>
  obtain ⟨rfl, rfl⟩ := hcut
  clear HM HE1
  go_upto_region 44 with fail
  go_loopw [11, 35, 36] (fun s11 s35 s36 wr => ∃ (i : Nat) (e s : Int), i ≤ ps.length ∧ s36 = .int .i64 i ∧ s35 = .int .i64 s ∧ s11 = .int .i64 e ∧ Hid (CostL n L ps i e s) ∧ Hid (Below N w wr)) (fun _ _ s36 _ => ps.length - (intOf s36).toNat)
  case atStart => exact ⟨0, e1, 0, by omega, rfl, rfl, rfl, CL, KY⟩
  case round =>
    clear KY CL
    obtain ⟨i, e, s, hi, rfl, rfl, rfl, CL, KB⟩ := hrel
    by_cases hgo : i < ps.length ∧ e = 0
    · obtain ⟨hlt, he0⟩ := hgo
      subst he0
      have hsb : (Pl.GoodE n L ∧ GoodT ps ∧ (ps.length : Int) = n) ∧ 0 ≤ s ∧ s ≤ 1000000 * i := by
        rcases CL.out with ⟨h, _⟩ | ⟨_, h1, _, h2, h3⟩
        · exact absurd rfl h
        · exact ⟨h1, h2, h3⟩
      obtain ⟨⟨hge, hgt, -⟩, hs0, hs1⟩ := hsb
      have hp16 := hgt.len
      have hll := hge.len
      have HGE := Lib.hid hge
      have hpr := hgt.ok i hlt
      obtain ⟨_, _, e', -, rd⟩ := isl_read (HP.out.below (by rw [HN.out]; exact KB.out))
      cases e'
      obtain ⟨g, f, e3, hg, q0⟩ := rd i hlt
      subst e3
      clear rd hge hgt
      obtain ⟨p, hp⟩ : ∃ p, atL ps i = p := ⟨_, rfl⟩
      have HPi := Lib.hid hp
      rw [hp] at q0 hpr
      clear hp
      obtain ⟨hpr1, hpr2⟩ := hpr
      by_cases hp0 : p < 0
      · have CN := Lib.hid (CL.out.skip (by rw [HPi.out]; exact hp0))
        go_wp2_with fail
        go_roundw
        case measure => simp [intOf]; omega
        case rel => exact ⟨i + 1, 0, s, by omega, by go_num, rfl, rfl, CN, KB⟩
      · obtain ⟨b, rfl⟩ : ∃ b : Nat, p = b := ⟨p.toNat, by omega⟩
        have CZ := Lib.hid (fun h => CL.out.none_ hlt (by rw [HPi.out]; exact hp0) h)
        have CX := Lib.hid (fun c h h0 => CL.out.next (c := c) (by rw [HPi.out]; exact hp0) h h0)
        rw [HPi.out] at CZ CX
        have EDS := Lib.hid (fun y (k : Below N w y) => HL.out.below (by rw [HN.out]; exact k))
        have PSS := Lib.hid (fun y (k : Below N w y) => by
          obtain ⟨_, _, e4, -, rd⟩ := isl_read (HP.out.below (w' := y) (by rw [HN.out]; exact k))
          cases e4
          obtain ⟨g', f', e5, _, q⟩ := rd i hlt
          cases e5
          rw [HPi.out] at q
          exact q)
        obtain ⟨_, cpL, hvL, -⟩ := eds_read HL.out
        subst hvL
        clear CL hpr1 hpr2 hp0
        go_upto_region 49 with fail
        clear q0
        obtain ⟨wo, hwo⟩ : ∃ wo, wr = wo := ⟨_, rfl⟩
        rw [hwo] at KB ⊢
        clear hwo
        go_loopw [37, 38] (fun s37 s38 wr => ∃ k : Nat, k ≤ L.length ∧ s38 = .int .i64 k ∧ s37 = .int .i64 (Pl.costF (L.take k) i b) ∧ Hid (Below N w wr)) (fun _ s38 _ => L.length - (intOf s38).toNat)
        case atStart => exact ⟨0, by omega, rfl, rfl, KB⟩
        case round =>
          clear KB
          obtain ⟨k, hk, rfl, rfl, KR⟩ := hrel
          by_cases hkl : k < L.length
          · obtain ⟨_, _, e6, -, -, rd⟩ := eds_read (EDS.out _ KR.out)
            cases e6
            obtain ⟨g2, f2, rfl, hg2, q0, q1, q2, hgd⟩ := rd k hkl
            clear rd
            have HNX := Lib.hid (show Pl.costF (L.take (k + 1)) i b = if Pl.edM i b L[k] = true then L[k].c else Pl.costF (L.take k) i b from by rw [Pl.take_succ' L k hkl, Pl.costF_snoc])
            obtain ⟨⟨ea, eb, ec⟩, he⟩ : ∃ e, L[k] = e := ⟨_, rfl⟩
            rw [he] at q0 q1 q2 hgd HNX
            simp only at q0 q1 q2
            have HEk := Lib.hid he
            clear he hgd
            have pi := PSS.out _ KR.out
            obtain ⟨m, hm⟩ : ∃ m, Pl.edM i b ⟨ea, eb, ec⟩ = m := ⟨_, rfl⟩
            have HMM := Lib.hid (show m = true ↔ (ea = i ∧ eb = b) ∨ (eb = i ∧ ea = b) from by rw [← hm]; unfold Pl.edM; simp)
            rw [hm] at HNX
            clear hm
            go_upto_region 51 with fail
            go_cut [243] from 204 to 243 (fun v z => v = .bool m ∧ Hid (Below N w z))
            case first =>
              by_cases e1 : ea = i
              · have d1 : (ea == (i : Int)) = true := by simp [e1]
                by_cases e2 : eb = b
                · have d2 : (eb == (b : Int)) = true := by simp [e2]
                  have HX := Lib.hid (HMM.out.2 (.inl ⟨e1, e2⟩))
                  clear e1 e2
                  go_quiet (fail)
                  go_wp2_with fail
                  go_meet
                  exact ⟨by rw [HX.out], Lib.hid (Below.drewN KR.out _)⟩
                · have d2 : (eb == (b : Int)) = false := by simp [e2]
                  by_cases e3 : eb = i
                  · have d3 : (eb == (i : Int)) = true := by simp [e3]
                    by_cases e4 : ea = b
                    · exfalso; omega
                    · have d4 : (ea == (b : Int)) = false := by simp [e4]
                      have HX := Lib.hid (show m = false by
                        cases q : m with
                        | false => rfl
                        | true => exact absurd (HMM.out.1 q) (by omega))
                      clear e1 e2 e3 e4
                      go_quiet (fail)
                      go_wp2_with fail
                      go_meet
                      exact ⟨by rw [HX.out], Lib.hid (Below.drewN KR.out _)⟩
                  · have d3 : (eb == (i : Int)) = false := by simp [e3]
                    have HX := Lib.hid (show m = false by
                      cases q : m with
                      | false => rfl
                      | true => exact absurd (HMM.out.1 q) (by omega))
                    clear e1 e2 e3
                    go_quiet (fail)
                    go_wp2_with fail
                    go_meet
                    exact ⟨by rw [HX.out], Lib.hid (Below.drewN KR.out _)⟩
              · have d1 : (ea == (i : Int)) = false := by simp [e1]
                by_cases e3 : eb = i
                · have d3 : (eb == (i : Int)) = true := by simp [e3]
                  by_cases e4 : ea = b
                  · have d4 : (ea == (b : Int)) = true := by simp [e4]
                    have HX := Lib.hid (HMM.out.2 (.inr ⟨e3, e4⟩))
                    clear e1 e3 e4
                    go_quiet (fail)
                    go_wp2_with fail
                    go_meet
                    exact ⟨by rw [HX.out], Lib.hid (Below.drewN KR.out _)⟩
                  · have d4 : (ea == (b : Int)) = false := by simp [e4]
                    have HX := Lib.hid (show m = false by
                      cases q : m with
                      | false => rfl
                      | true => exact absurd (HMM.out.1 q) (by omega))
                    clear e1 e3 e4
                    go_quiet (fail)
                    go_wp2_with fail
                    go_meet
                    exact ⟨by rw [HX.out], Lib.hid (Below.drewN KR.out _)⟩
                · have d3 : (eb == (i : Int)) = false := by simp [e3]
                  have HX := Lib.hid (show m = false by
                    cases q : m with
                    | false => rfl
                    | true => exact absurd (HMM.out.1 q) (by omega))
                  clear e1 e3
                  go_quiet (fail)
                  go_wp2_with fail
                  go_meet
                  exact ⟨by rw [HX.out], Lib.hid (Below.drewN KR.out _)⟩
            case rest =>
            clear KR q0 q1 q2 pi
            obtain ⟨rfl, KR⟩ := hcut
            cases m
            · rw [if_neg (by decide)] at HNX
              go_wp2_with fail
              go_roundw
              case measure => simp [intOf]; omega
              case rel => exact ⟨k + 1, by omega, by go_num, by rw [HNX.out], KR⟩
            · rw [if_pos rfl] at HNX
              obtain ⟨_, _, e6, -, -, rd⟩ := eds_read (EDS.out _ KR.out)
              cases e6
              obtain ⟨g', f', e7, -, -, -, q2, -⟩ := rd k hkl
              cases e7
              rw [HEk.out] at q2
              simp only at q2
              clear rd
              go_wp2_with fail
              go_roundw
              case measure => simp [intOf]; omega
              case rel => exact ⟨k + 1, by omega, by go_num, by rw [HNX.out], KR⟩
          · obtain rfl : k = L.length := by omega
            rw [List.take_length]
            have hcb := HGE.out.cost_lo i b
            obtain ⟨c, hc⟩ : ∃ c, Pl.costF L i b = c := ⟨_, rfl⟩
            rw [hc] at hcb CZ
            have CX2 := Lib.hid (CX.out c hc)
            rw [hc]
            clear hc CX
            have w1 : IntKind.i64.wrap (s + c) = s + c := by rw [IntKind.wrap_i64]; omega
            by_cases hc0 : c = 0
            · have d : (c == 0) = true := by simp [hc0]
              have CN := Lib.hid (CZ.out hc0)
              clear hc0 CX2
              go_wp2_with fail
              go_roundw
              case measure => simp [intOf]; omega
              case rel => exact ⟨i + 1, 5, 0, by omega, by go_num, rfl, rfl, CN, KR⟩
            · have d : (c == 0) = false := by simp [hc0]
              have CN := Lib.hid (CX2.out hc0)
              clear hc0 CX2
              go_wp2_with fail
              go_roundw
              case measure => simp [intOf]; omega
              case rel => exact ⟨i + 1, 0, s + c, by omega, by go_num, rfl, rfl, CN, KR⟩
    · have CE := Lib.hid (CL.out.done (by
        by_cases q : e = 0
        · right
          by_cases q2 : i < ps.length
          · exact absurd ⟨q2, q⟩ hgo
          · omega
        · exact .inl q))
      have CST := Lib.hid (fun y (k : Below N w y) => treeCost_errV n v1 (.slice o3 ps.length c3) L ps y (HL.out.below (by rw [HN.out]; exact k)) (HP.out.below (by rw [HN.out]; exact k)) e s CE.out)
      have hcase : ¬ i < ps.length ∨ (i < ps.length ∧ e ≠ 0) := by
        by_cases q2 : i < ps.length
        · exact .inr ⟨q2, fun q => hgo ⟨q2, q⟩⟩
        · exact .inl q2
      clear hgo CL CE
      rcases hcase with q | ⟨q, q2⟩
      · go_wp2_with (first
          | (go_at_call 14; (with_reducible refine (CST.out _ KB.out).mono ?_); rintro e w17 ⟨rfl, k⟩; have K7 := Lib.hid (UP.out _ _ KB k); clear k)
          | (go_at_call 5; (with_reducible refine (ES.out e _ K7.out).mono ?_); rintro e w18 ⟨rfl, k⟩; have K8 := Lib.hid (UP.out _ _ K7 k); clear k))
        go_ret
        exact ⟨by simp, K8.out⟩
      · have d : (e == 0) = false := by simp [q2]
        clear q2
        go_wp2_with (first
          | (go_at_call 14; (with_reducible refine (CST.out _ KB.out).mono ?_); rintro e w17 ⟨rfl, k⟩; have K7 := Lib.hid (UP.out _ _ KB k); clear k)
          | (go_at_call 5; (with_reducible refine (ES.out e _ K7.out).mono ?_); rintro e w18 ⟨rfl, k⟩; have K8 := Lib.hid (UP.out _ _ K7 k); clear k))
        go_ret
        exact ⟨by simp, K8.out⟩
theorem walk_TreeGrows (w : World) (n : Int) (hn : (Lit.int .i64 n).wf = true) (v1 : Value) (L : List Ed) (o1 : IsEds w v1 L) (root : Int) (hr : (Lit.int .i64 root).wf = true) (v3 : Value) (ps : List Int) (o3 : IsInts w v3 ps) (node : Int) (hno : (Lit.int .i64 node).wf = true) (hE : Env w) :
    Calls Tryd.prog 3 #[.int .i64 n, v1, .int .i64 root, v3, .int .i64 node] w fun e w' => e = .returned (.bool true) ∧ Below w.heap.size w w' :=
  walk_TreeGrows_run n root node v1 v3 L ps w o1 o3.1 hE
end Go.Proofs.YtmmfnalcdekkbaaDoor
