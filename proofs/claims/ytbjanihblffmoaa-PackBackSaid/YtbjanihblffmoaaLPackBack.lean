import Derived.Test.YtbjanihblffmoaaLPackBk2
import Derived.Test.YtbjanihblffmoaaOpenPk
/-! The law PackBack: its walk, for whatever it is asked. -/
namespace Go.Proofs.Ytbjanihblffmoaa
open Go.RowKit
set_option linter.unusedVariables false
theorem walk_PackBack (w : World) (v0 : Value) (l0 : Pk) (o0 : v0 = l0.val ∧ l0.Good w) (v1 : Value) (l1 : List UInt8) (o1 : IsBytes w v1 l1) (a2 : Int) (wf2 : (Lit.int .i64 a2).wf = true) :
    Calls Try.prog 3 #[v0, v1, .int .i64 a2] w fun e w' => e = .returned (.bool true) ∧ Below w.heap.size w w' := by
  obtain ⟨rfl, g⟩ := o0
  have hb : IsBytes w l0.bv l0.body := g.2.2.2.2
  obtain ⟨oa, c, e, _⟩ := bytes_slice hb
  have ev : l0.val = pkV l0.s l0.t l0.l l0.lv l0.st (.slice oa l0.body.length c) := by rw [← e]; rfl
  rw [ev]
  rw [e] at hb
  obtain ⟨ob, cb, rfl, _⟩ := bytes_slice o1
  by_cases hp : Pl.pkOk l0.s l0.t l0.l l0.lv l0.body.length
  · exact walk_PackBack_ok w _ _ _ _ _ _ _ _ hb _ _ _ o1 a2 hp
  · exact walk_PackBack_bad w _ _ _ _ _ _ _ _ hb _ _ _ o1 a2 hp
end Go.Proofs.Ytbjanihblffmoaa
