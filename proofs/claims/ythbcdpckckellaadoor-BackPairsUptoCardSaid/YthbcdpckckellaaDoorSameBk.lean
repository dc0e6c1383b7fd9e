import Derived.Test.YthbcdpckckellaaDoorBackE
import Derived.Test.YthbcdpckckellaaDoorSlRows
/-! choirsame.Back, of two that read as the same. -/
namespace Go.Proofs.YthbcdpckckellaaDoor
open Go.RowKit
set_option linter.unusedVariables false
set_option linter.unusedSimpArgs false
theorem ints_form {w : World} {v : Value} {A : List Int} (h : Sl encI w v A) : ∃ oa c, v = .slice oa A.length c := by
  rcases h with ⟨h1, oa, cap, rfl, _⟩ | ⟨b, off, cap, rfl, _⟩
  · subst h1; exact ⟨_, _, rfl⟩
  · exact ⟨_, _, rfl⟩
set_option maxRecDepth 100000 in
set_option maxHeartbeats 1000000 in
theorem sameBk_eq (k t val : Int) (v1 v2 : Value) (A : List Int) (w : World) (h1 : Sl encI w v1 A) (h2 : Sl encI w v2 A) :
    Calls Tryd.prog 15 #[bkV k t v1 val, bkV k t v2 val] w fun e w' => e = .returned (.bool true) ∧ Below w.heap.size w w' := by
  obtain ⟨o1, c1, rfl⟩ := ints_form h1
  obtain ⟨o2, c2, rfl⟩ := ints_form h2
  have k1 : Below w.heap.size w (w.alloc (.cells #[.int .i64 k, .int .i64 t, .slice o1 A.length c1, .int .i64 val] 25)) := (Below.refl _ _).alloc (Nat.le_refl _) _
  have k2 : Below w.heap.size w ((w.alloc (.cells #[.int .i64 k, .int .i64 t, .slice o1 A.length c1, .int .i64 val] 25)).alloc (.cells #[.int .i64 k, .int .i64 t, .slice o2 A.length c2, .int .i64 val] 25)) := k1.alloc (by simp) _
  have IS := Lib.hid (sameInts_eq _ _ A _ (h1.below k2) (h2.below k2))
  have K2 := Lib.hid k2
  clear h1 h2 k1 k2
  go_enter Tryd.func15, Tryd.ntmps15
  go_wp2_with (go_at_call 10; (with_reducible refine IS.out.mono ?_); rintro r x3 ⟨rfl, nn, rfl⟩)
  go_ret
  exact ⟨by first | rfl | simp, Below.drewN K2.out nn⟩
end Go.Proofs.YthbcdpckckellaaDoor
