import Derived.Test.YtbjanihblffmoaaDoorReadGood
import Derived.Test.YtbjanihblffmoaaDoorSeal
/-! frame.Check, frame.Encode. -/
namespace Go.Proofs.YtbjanihblffmoaaDoor
open Go.RowKit
set_option linter.unusedVariables false
set_option linter.unusedSimpArgs false
/-- a frame as a value -/
abbrev frV (t o ep h : Int) (bv : Value) : Value := .agg #[.int .i64 t, .int .i64 o, .int .i64 ep, .int .i64 h, bv]
namespace Pl
def frNum (t o ep h : Int) : Prop := 1 ≤ t ∧ t ≤ 8 ∧ 0 ≤ o ∧ o ≤ 15 ∧ 0 ≤ ep ∧ ep ≤ 65535 ∧ 0 ≤ h ∧ h ≤ 64
instance (t o ep h : Int) : Decidable (frNum t o ep h) := by unfold frNum; infer_instance
def frFault (t o ep h : Int) (l : List UInt8) : Int := if frNum t o ep h then readFault l else 1
def frBody (t o ep h : Int) (l : List UInt8) : List UInt8 := ([70, byteAt t 0, byteAt o 0, byteAt h 0] ++ putB ep 2) ++ l
/-- a frame as bytes -/
def frBytes (t o ep h : Int) (l : List UInt8) : List UInt8 := sealB (frBody t o ep h l)
theorem frBody_length (t o ep h : Int) (l : List UInt8) : (frBody t o ep h l).length = 6 + l.length := by simp [frBody, putB]; omega
theorem frBytes_length (t o ep h : Int) (l : List UInt8) : (frBytes t o ep h l).length = 10 + l.length := by rw [frBytes, sealB_length, frBody_length]; omega
theorem frFault_ok {t o ep h : Int} {l : List UInt8} (hf : frFault t o ep h l = 0) : frNum t o ep h ∧ readFault l = 0 := by
  unfold frFault at hf
  split at hf
  · exact ⟨by assumption, hf⟩
  · cases hf
end Pl
end Go.Proofs.YtbjanihblffmoaaDoor
