import Derived.Test.YtmmfnalcdekkbaaDoorRefEdges
import Derived.Test.YtmmfnalcdekkbaaDoorRefPar
import Derived.Test.YtmmfnalcdekkbaaDoorRefTree
import Derived.Test.YtmmfnalcdekkbaaDoorTreeCost
import Derived.Test.YtmmfnalcdekkbaaDoorErrV
import Derived.Test.YtmmfnalcdekkbaaDoorSlRows
/-! The law TreeGrows: both sides by one plain answer. -/
namespace Go.Proofs.YtmmfnalcdekkbaaDoor
open Go.RowKit
set_option linter.unusedVariables false
set_option linter.unusedSimpArgs false
theorem Pl.pbest_some {n : Nat} {C : Nat → Nat → Int} {D : Nat → Int} {i : Nat} : ∀ (m k : Nat), k + m = n → ∃ b, Pl.PBest n C D i k b := by
  intro m
  induction m with
  | zero => intro k hk; obtain rfl : k = n := by omega
            exact ⟨_, Pl.PBest.none⟩
  | succ m ih =>
    intro k hk
    obtain ⟨b, hb⟩ := ih (k + 1) (by omega)
    by_cases h : Pl.Tgt C D k i
    · exact ⟨_, Pl.PBest.hit (by omega) h⟩
    · exact ⟨b, hb.miss h⟩
theorem Pl.par_some (n root : Nat) (C : Nat → Nat → Int) (D : Nat → Int) : ∃ P, Pl.Par n root C D P := by
  have h : ∀ i : Nat, ∃ b : Int, if i ≠ root ∧ 0 ≤ D i then Pl.PBest n C D i 0 b else b = -1 := fun i => by
    by_cases e : i ≠ root ∧ 0 ≤ D i
    · obtain ⟨b, hb⟩ := Pl.pbest_some (n := n) (C := C) (D := D) (i := i) n 0 (by omega)
      exact ⟨b, by rw [if_pos e]; exact hb⟩
    · exact ⟨-1, by rw [if_neg e]⟩
  exact ⟨fun i => Classical.choose (h i), fun i _ => Classical.choose_spec (h i)⟩
theorem Pl.Par.uniq {n root : Nat} {C : Nat → Nat → Int} {D E P Q : Nat → Int} (hDE : ∀ i, i < n → D i = E i) (h : Pl.Par n root C D P) (k : Pl.Par n root C E Q) (i : Nat) (hi : i < n) : P i = Q i := by
  have h1 := h i hi
  have h2 := k i hi
  have key : ∀ b, Pl.PBest n C E i 0 b → Pl.PBest n C D i 0 b := fun b hb => by
    have t : ∀ j, j < n → (Pl.Tgt C D j i ↔ Pl.Tgt C E j i) := fun j hj => by unfold Pl.Tgt; rw [hDE j hj, hDE i hi]
    rcases hb with ⟨q1, q2⟩ | ⟨m, q1, q2, q3, q4, q5⟩
    · exact .inl ⟨q1, fun j hj hn ht => q2 j hj hn ((t j hn).1 ht)⟩
    · exact .inr ⟨m, q1, q2, q3, (t m q3).2 q4, fun j hj hm ht => q5 j hj hm ((t j (by omega)).1 ht)⟩
  by_cases e : i ≠ root ∧ 0 ≤ D i
  · rw [if_pos e] at h1
    rw [hDE i hi] at e
    rw [if_pos e] at h2
    exact h1.eq (key _ h2)
  · rw [if_neg e] at h1
    rw [hDE i hi] at e
    rw [if_neg e] at h2
    omega
def Pl.growF (n root fe : Int) : Int := if fe = 0 then (if 0 ≤ root ∧ root < n then 0 else 1) else fe
theorem fnL_congr {n : Nat} {P Q : Nat → Int} (h : ∀ i, i < n → P i = Q i) : fnL n P = fnL n Q := List.map_congr_left (fun i hi => h i (List.mem_range.1 hi))
/-- what both sides answer of ways -/
theorem grow_any (n root : Int) (v : Value) (L : List Ed) (w : World) (hL0 : IsEds w v L) (fe : Int) (hfe : Pl.EdgesF n L fe) : ∃ X Y : List Int,
    (Pl.growF n root fe ≠ 0 → X = [] ∧ Y = []) ∧
    (∀ y, Below w.heap.size w y → Calls Tryd.prog 9 #[.int .i64 n, v, .int .i64 root] y fun e w' => ∃ v1 v2, e = .returned (.tuple #[v1, v2, errV (Pl.growF n root fe)]) ∧ IsSl w' v1 X ∧ IsSl w' v2 Y ∧ Below y.heap.size y w') ∧
    (Pl.growF n root fe = 0 → ∀ y, Below w.heap.size w y → Calls Tryd.prog 7 #[.int .i64 n, v, .int .i64 root] y fun e w' => ∃ v1, e = .returned v1 ∧ IsSl w' v1 Y ∧ Below y.heap.size y w') ∧
    (Pl.growF n root fe = 0 → ∀ y vd, Below w.heap.size w y → IsSl y vd Y → Calls Tryd.prog 8 #[.int .i64 n, v, .int .i64 root, vd] y fun e w' => ∃ v1, e = .returned v1 ∧ IsSl w' v1 X ∧ Below y.heap.size y w') := by
  by_cases hb : Pl.GoodE n L ∧ 0 ≤ root ∧ root < n
  · obtain ⟨hg, r0, r1⟩ := hb
    obtain rfl := hfe.eq (Pl.EdgesF.good.2 hg)
    have hF : Pl.growF n root 0 = 0 := by unfold Pl.growF; rw [if_pos rfl, if_pos ⟨r0, r1⟩]
    obtain ⟨nn, rfl⟩ : ∃ k : Nat, n = k := ⟨n.toNat, by have := hg.n1; omega⟩
    obtain ⟨rn, rfl⟩ : ∃ k : Nat, root = k := ⟨root.toNat, by omega⟩
    have hr : rn < nn := by omega
    obtain ⟨D, hD⟩ := Pl.dj_some (n := nn) rn (hg.cok nn)
    obtain ⟨P, hP⟩ := Pl.par_some nn rn (Pl.costN L) D
    refine ⟨fnL nn P, fnL nn D, fun h => absurd hF h, fun y k => ?_, fun _ y k => ?_, fun _ y vd k hd => ?_⟩
    · refine (build_ok nn rn v L y (hL0.below k) hg hr).mono fun e w' ⟨gP, gD, D', P', h1, h2, h3, h4, h5, h6, h7, h8⟩ => ?_
      have u1 : ∀ i, i < nn → D' i = D i := fun i hi => h6.uniq (hg.cok nn) hD hr i hi
      have u2 : ∀ i, i < nn → P' i = P i := fun i hi => Pl.Par.uniq u1 h7 hP i hi
      have n2 := hg.n2
      have s1 := h3.sl (by omega)
      have s2 := h2.sl (by omega)
      rw [fnL_congr u2] at s1
      rw [fnL_congr u1] at s2
      exact ⟨_, _, by rw [h1, hF]; rfl, s1, s2, h8⟩
    · exact (rDist_ok nn rn v L D y (hL0.below k) hg hr hD).mono fun e w' ⟨v', h1, h2, h3⟩ => ⟨v', h1, h2.sl, h3⟩
    · exact (rParents_ok nn rn v vd L D P y (hL0.below k) hd hg hr hD hP).mono fun e w' ⟨v', h1, h2, h3⟩ => ⟨v', h1, h2.sl, h3⟩
  · have hF : ∀ f, f ≠ 0 → Pl.BuildF n L root f → Pl.growF n root fe = f := fun f hf h => by
      unfold Pl.growF
      rcases h with ⟨h1, h2⟩ | ⟨h1, h2, rfl⟩ | ⟨h1, h2, rfl⟩
      · obtain rfl := hfe.eq h2
        rw [if_neg h1]
      · obtain rfl := hfe.eq h1
        rw [if_pos rfl, if_neg h2]
      · exact absurd rfl hf
    have hF0 : Pl.growF n root fe ≠ 0 := fun e => by
      unfold Pl.growF at e
      by_cases q : fe = 0
      · subst q
        rw [if_pos rfl] at e
        by_cases q2 : 0 ≤ root ∧ root < n
        · exact hb ⟨Pl.EdgesF.good.1 hfe, q2⟩
        · rw [if_neg q2] at e; omega
      · rw [if_neg q] at e; exact q e
    refine ⟨[], [], fun _ => ⟨rfl, rfl⟩, fun y k => ?_, fun h => absurd h hF0, fun h => absurd h hF0⟩
    exact (build_bad n root v L y (hL0.below k) hb).mono fun e w' ⟨f, h1, ⟨h2, h3⟩, h4⟩ => ⟨_, _, by rw [h1, hF f h2 h3, errV_hit _ h2], Sl.nil _, Sl.nil _, h4⟩
theorem PathF.eq {ps : List Int} {x f g : Int} (h : PathF ps x f) (k : PathF ps x g) : f = g := by
  rcases h with ⟨h1, h2⟩ | ⟨h1, h2, h3⟩ | ⟨h1, h2, h3⟩
  · rcases k with ⟨k1, k2⟩ | ⟨k1, k2, k3⟩ | ⟨k1, k2, k3⟩
    · exact h2.eq k2
    · exact absurd (h2.eq (TreeF.good.2 k1)) h1
    · exact absurd (h2.eq (TreeF.good.2 k1)) h1
  · rcases k with ⟨k1, k2⟩ | ⟨k1, k2, k3⟩ | ⟨k1, k2, k3⟩
    · exact absurd (k2.eq (TreeF.good.2 h1)) k1
    · omega
    · exact absurd k2 h2
  · rcases k with ⟨k1, k2⟩ | ⟨k1, k2, k3⟩ | ⟨k1, k2, k3⟩
    · exact absurd (k2.eq (TreeF.good.2 h1)) k1
    · exact absurd h2 k2
    · omega
def pathG (ps : List Int) (x ft : Int) : Int := if ft = 0 then (if 0 ≤ x ∧ x < ps.length then 0 else 1) else ft
theorem pathG_ok {ps : List Int} {x ft : Int} (h : TreeF ps ft) : PathF ps x (pathG ps x ft) := by
  unfold pathG
  by_cases e : ft = 0
  · subst e
    rw [if_pos rfl]
    by_cases q : 0 ≤ x ∧ x < ps.length
    · rw [if_pos q]; exact .inr (.inr ⟨TreeF.good.1 h, q, rfl⟩)
    · rw [if_neg q]; exact .inr (.inl ⟨TreeF.good.1 h, q, rfl⟩)
  · rw [if_neg e]; exact .inl ⟨e, h⟩
theorem CostE.eq {n : Int} {L : List Ed} {ps : List Int} {f s g t : Int} (h : CostE n L ps f s) (k : CostE n L ps g t) : f = g ∧ s = t := by
  rcases h with ⟨h1, h2, rfl⟩ | ⟨h1, h2, h3, rfl⟩ | ⟨h1, h2, h3, rfl, rfl⟩ | ⟨h1, h2, h3, h4, rfl, rfl⟩ | ⟨h1, h2, h3, h4, rfl⟩
  all_goals rcases k with ⟨k1, k2, rfl⟩ | ⟨k1, k2, k3, rfl⟩ | ⟨k1, k2, k3, rfl, rfl⟩ | ⟨k1, k2, k3, k4, rfl, rfl⟩ | ⟨k1, k2, k3, k4, rfl⟩
  all_goals first
    | exact ⟨rfl, rfl⟩
    | exact ⟨Pl.EdgesF.eq ‹_› ‹_›, rfl⟩
    | exact ⟨TreeF.eq ‹_› ‹_›, rfl⟩
    | exact absurd (Pl.EdgesF.eq ‹Pl.EdgesF n L _› (Pl.EdgesF.good.2 ‹_›)) ‹_›
    | exact absurd (TreeF.eq ‹TreeF ps _› (TreeF.good.2 ‹_›)) ‹_›
    | exact absurd ‹(ps.length : Int) = n› ‹_›
    | (rw [h4] at k4; cases k4; exact ⟨rfl, rfl⟩)
    | (rw [h4] at k4; cases k4)
theorem kids_errV (v : Value) (ps : List Int) (x g : Int) (w : World) (hv0 : IsSl w v ps) (hg : PathF ps x g) :
    Calls Tryd.prog 12 #[v, .int .i64 x] w fun e w' => ∃ v', e = .returned (.tuple #[v', errV g]) ∧ IsSl w' v' (if g = 0 then kidsL ps x ps.length else []) ∧ Below w.heap.size w w' :=
  (treeKids_any v ps x w hv0).mono fun e w' ⟨f, v', h1, h2, h3, h4⟩ => by
    obtain rfl := hg.eq h1
    exact ⟨v', h2, h3.sl, h4⟩
theorem path_errV (v : Value) (ps : List Int) (x g : Int) (w : World) (hv0 : IsSl w v ps) (hg : PathF ps x g) :
    Calls Tryd.prog 13 #[v, .int .i64 x] w fun e w' => ∃ v', e = .returned (.tuple #[v', errV g]) ∧ IsSl w' v' (if g = 0 then (upOf ps x).reverse else []) ∧ Below w.heap.size w w' :=
  (treePath_any v ps x w hv0).mono fun e w' ⟨f, v', h1, h2, h3, h4⟩ => by
    obtain rfl := hg.eq h1
    exact ⟨v', h2, h3.sl, h4⟩
end Go.Proofs.YtmmfnalcdekkbaaDoor
