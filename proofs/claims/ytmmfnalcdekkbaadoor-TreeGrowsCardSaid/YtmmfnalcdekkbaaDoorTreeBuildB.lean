import Derived.Test.YtmmfnalcdekkbaaDoorTreeBuild
import Derived.Test.YtmmfnalcdekkbaaDoorTreePath
import Derived.Test.YtmmfnalcdekkbaaDoorPTreeW
/-! tree.Build where something is wrong; what it hands out, in plain words. -/
namespace Go.Proofs.YtmmfnalcdekkbaaDoor
open Go.RowKit
set_option linter.unusedVariables false
set_option linter.unusedSimpArgs false
set_option maxRecDepth 100000 in
set_option maxHeartbeats 4000000 in
theorem build_bad (n root : Int) (v : Value) (L : List Ed) (w : World) (hL0 : IsEds w v L) (hb : ¬ (Pl.GoodE n L ∧ 0 ≤ root ∧ root < n)) :
    Calls Tryd.prog 9 #[.int .i64 n, v, .int .i64 root] w fun e w' => ∃ f : Int, e = .returned (.tuple #[.slice none 0 0, .slice none 0 0, .iface 42 (.int .i64 f)]) ∧ (f ≠ 0 ∧ Pl.BuildF n L root f) ∧ Below w.heap.size w w' := by
  obtain ⟨oa, cp, rfl, hlc, hcm, -⟩ := eds_read hL0
  by_cases hg : Pl.GoodE n L
  · have TC := Lib.hid ((treeCheck_any n _ L w hL0).mono (R' := fun e w' => e = .returned .nilIface ∧ Below w.heap.size w w') (fun e w' ⟨f, h1, h2, h3⟩ => by
      obtain rfl := h2.eq (Pl.EdgesF.good.2 hg)
      exact ⟨h1, h3⟩))
    have HF := Lib.hid (show Pl.BuildF n L root 1 from .inr (.inl ⟨Pl.EdgesF.good.2 hg, fun h => hb ⟨hg, h.1, h.2⟩, rfl⟩))
    have AM := Lib.hid (fun y => among_any root n y)
    have hr : Pl.amB root n = false := by
      cases q : Pl.amB root n with
      | false => rfl
      | true => exact absurd ⟨hg, (Pl.amB_iff _ _).1 q⟩ hb
    rw [hr] at AM
    clear hL0 hb hg hr hlc hcm
    go_enter Tryd.func9, Tryd.ntmps9
    go_wp2_with (first
      | (go_at_call 6; (with_reducible refine TC.out.mono ?_); rintro e w2 ⟨rfl, k⟩; have K := Lib.hid k; clear k)
      | (go_at_call 16; (with_reducible refine (AM.out _).mono ?_); rintro e w3 ⟨rfl, rfl⟩))
    go_ret3
    exact ⟨1, rfl, ⟨by decide, HF.out⟩, K.out⟩
  · have TC := Lib.hid ((treeCheck_any n _ L w hL0).mono (R' := fun e w' => ∃ f : Int, e = .returned (.iface 42 (.int .i64 f)) ∧ (f ≠ 0 ∧ Pl.BuildF n L root f) ∧ Below w.heap.size w w') (fun e w' ⟨f, h1, h2, h3⟩ => by
      have hf : f ≠ 0 := fun e => by subst e; exact hg (Pl.EdgesF.good.1 h2)
      rw [errV_hit _ hf] at h1
      exact ⟨f, h1, ⟨hf, .inl ⟨hf, h2⟩⟩, h3⟩))
    clear hL0 hb hg hlc hcm
    go_enter Tryd.func9, Tryd.ntmps9
    go_wp2_with (go_at_call 6; (with_reducible refine TC.out.mono ?_); rintro e w2 ⟨f, rfl, hf, k⟩; have K := Lib.hid k; have HF := Lib.hid hf; clear k hf)
    go_ret3
    exact ⟨f, rfl, HF.out, K.out⟩
/-- a function's first values -/
def fnL (n : Nat) (P : Nat → Int) : List Int := (List.range n).map P
theorem fnL_len (n : Nat) (P : Nat → Int) : (fnL n P).length = n := by simp [fnL]
theorem fnL_at (n : Nat) (P : Nat → Int) (i : Nat) (h : i < n) : atL (fnL n P) i = P i := by simp [atL, fnL, List.getD, h]
theorem ArrAt.sl {n : Nat} {w : World} {g : Nat} {P : Nat → Int} (h : IntsAt n w g P) (hn : n ≤ 1000) : IsSl w (.slice (some ⟨g, 0, none⟩) n n) (fnL n P) := by
  refine .inr ⟨g, 0, n, by rw [fnL_len], by rw [fnL_len]; exact Nat.le_refl _, by unfold maxLen; omega, fun i hi => ?_⟩
  rw [fnL_len] at hi
  rw [Nat.zero_add, h.cell i hi]
  simp [fnL]
/-- parents of least ways are a tree; a path is a way -/
theorem par_tree {n root : Nat} {C : Nat → Nat → Int} {D P : Nat → Int} (hn : n ≤ 16) (hC : Pl.COk n C) (hD : Pl.Dj n root C D) (hP : Pl.Par n root C D P) : GoodT (fnL n P) ∧ ∀ x : Nat, x < n → Pl.Way n root C D P x (upOf (fnL n P) x).reverse := by
  have hlo : ∀ i, i < n → -1 ≤ P i ∧ P i < n := fun i hi => by
    rcases hP.up hC hD i hi with ⟨_, h⟩ | ⟨k, h1, h2, _⟩ <;> omega
  have e : ∀ x : Nat, x < n → upOf (fnL n P) x = Pl.upL P (n + 1) x := fun x hx => by
    unfold upOf
    rw [fnL_len]
    exact Pl.upL_congr _ _ n (fun i hi => by rw [fnL_at n P i hi]; exact (hlo i hi).2) (fun i hi => fnL_at n P i hi) _ _ (by omega)
  refine ⟨⟨by rw [fnL_len]; exact hn, fun i hi => ?_, fun i hi => ?_⟩, fun x hx => by rw [e x hx]; exact Pl.way_of hC hD hP x hx⟩
  · rw [fnL_len] at hi ⊢; rw [fnL_at n P i hi]; exact hlo i hi
  · rw [fnL_len] at hi ⊢; rw [e i hi]; exact Pl.up_len hC hD hP _ _ hi
end Go.Proofs.YtmmfnalcdekkbaaDoor
