import Derived.Test.YtanmokomefdaiaaLink
import Derived.Test.YtanmokomefdaiaaSlice
/-! What one side of a link comes to: plain. -/
namespace Go.Proofs.Ytanmokomefdaiaa
open Go.RowKit
set_option linter.unusedVariables false
set_option linter.unusedSimpArgs false

/-- a side whose times are times -/
structure Pl.Lk.Ok (x : Pl.Lk) : Prop where
  n0 : 0 ≤ x.now
  n1 : x.now ≤ 1000000
  h0 : 0 ≤ x.heard
  h1 : x.heard ≤ x.now
  s0 : 0 ≤ x.sent
  s1 : x.sent ≤ x.now
instance (cur now : Int) : Decidable (Pl.clockOk cur now) := by unfold Pl.clockOk; infer_instance
instance (k s o : Int) : Decidable (Pl.msgOk k s o) := by unfold Pl.msgOk; infer_instance
/-- the fault of a message -/
def Pl.msgFault (m : List Int) : Int := match m with
  | [k, s, o] => if Pl.msgOk k s o then 0 else 1
  | _ => 3
def Pl.timeF (x : Pl.Lk) (now : Int) : Int := if Pl.clockOk x.now now then 0 else Pl.clockFault now
theorem Pl.clockFault_ne (now : Int) : Pl.clockFault now ≠ 0 := by unfold Pl.clockFault; split <;> decide
theorem Pl.timeF_ok {x : Pl.Lk} {now : Int} (h : Pl.clockOk x.now now) : Pl.timeF x now = 0 := if_pos h
theorem Pl.timeF_bad {x : Pl.Lk} {now : Int} (h : ¬ Pl.clockOk x.now now) : Pl.timeF x now = Pl.clockFault now := if_neg h
/-- what comes of it: the side, what goes out, the fault -/
structure Pl.Out where
  x : Pl.Lk
  l : List Int
  f : Int
def Pl.Lk.open_ (x : Pl.Lk) (now : Int) : Pl.Out :=
  if Pl.timeF x now ≠ 0 then ⟨x, [], Pl.timeF x now⟩ else if x.state = 2 then ⟨x, [], 6⟩ else ⟨{ x with now := now, state := 1, sent := now }, [1, x.me, 0], 0⟩
/-- a message that is none of this side's -/
def Pl.Lk.off (x : Pl.Lk) (k s o : Int) : Prop := k ≠ 1 ∧ o ≠ x.me ∨ k ≠ 3 ∧ x.state = 2 ∧ s < x.other ∨ k = 3 ∧ ¬ (x.state = 2 ∧ s = x.other)
instance (x : Pl.Lk) (k s o : Int) : Decidable (x.off k s o) := by unfold Pl.Lk.off; infer_instance
def Pl.Lk.msg (x : Pl.Lk) (k s o now : Int) : Pl.Out :=
  if x.off k s o then ⟨x.tick now, [], 0⟩
  else if k = 1 then ⟨x.warm now s now, [2, x.me, s], 0⟩
  else if k = 2 ∧ ¬ (x.state = 2 ∧ s = x.other) then ⟨x.warm now s now, [3, x.me, s], 0⟩
  else ⟨x.warm now s x.sent, [], 0⟩
def Pl.Lk.hear (x : Pl.Lk) (m : List Int) (now : Int) : Pl.Out :=
  if Pl.timeF x now ≠ 0 then ⟨x, [], Pl.timeF x now⟩ else if Pl.msgFault m ≠ 0 then ⟨x, [], Pl.msgFault m⟩
  else match m with
  | [k, s, o] => x.msg k s o now
  | _ => ⟨x, [], 3⟩
def Pl.Lk.ticks (x : Pl.Lk) (now : Int) : Pl.Out :=
  if Pl.timeF x now ≠ 0 then ⟨x, [], Pl.timeF x now⟩
  else if x.state = 2 ∧ 30 ≤ now - x.heard then ⟨{ x with now := now, state := 0, other := 0 }, [], 0⟩
  else if x.state = 0 ∨ now - x.sent < 10 then ⟨x.tick now, [], 0⟩
  else if x.state = 2 then ⟨{ x with now := now, sent := now }, [3, x.me, x.other], 0⟩
  else ⟨{ x with now := now, sent := now }, [1, x.me, 0], 0⟩

theorem Pl.Lk.Ok.warm {x : Pl.Lk} {now : Int} (h : x.Ok) (hc : Pl.clockOk x.now now) (s : Int) : (x.warm now s x.sent).Ok ∧ (x.warm now s now).Ok ∧ (x.tick now).Ok := by
  obtain ⟨h1, h2, h3, h4, h5, h6⟩ := h
  obtain ⟨c1, c2, c3⟩ := hc
  refine ⟨⟨?_, ?_, ?_, ?_, ?_, ?_⟩, ⟨?_, ?_, ?_, ?_, ?_, ?_⟩, ⟨?_, ?_, ?_, ?_, ?_, ?_⟩⟩ <;> simp only [Pl.Lk.warm, Pl.Lk.tick] <;> omega
theorem Pl.timeF_zero {x : Pl.Lk} {now : Int} (h : ¬ Pl.timeF x now ≠ 0) : Pl.clockOk x.now now := by
  by_cases hc : Pl.clockOk x.now now
  · exact hc
  · exfalso; apply h; rw [Pl.timeF_bad hc]; exact Pl.clockFault_ne now
theorem Pl.Lk.Ok.open_ {x : Pl.Lk} (h : x.Ok) (now : Int) : (x.open_ now).x.Ok := by
  unfold Pl.Lk.open_
  split
  · exact h
  · rename_i hc
    obtain ⟨c1, c2, c3⟩ := Pl.timeF_zero hc
    split
    · exact h
    · obtain ⟨h1, h2, h3, h4, h5, h6⟩ := h
      constructor <;> simp <;> omega
theorem Pl.Lk.Ok.hear {x : Pl.Lk} (h : x.Ok) (m : List Int) (now : Int) : (x.hear m now).x.Ok := by
  unfold Pl.Lk.hear
  split
  · exact h
  · rename_i hc
    have hc' := Pl.timeF_zero hc
    split
    · exact h
    · split
      · rename_i k s o _
        obtain ⟨q1, q2, q3⟩ := h.warm hc' s
        unfold Pl.Lk.msg
        repeat' split
        all_goals first | exact q1 | exact q2 | exact q3
      · exact h
theorem Pl.Lk.Ok.ticks {x : Pl.Lk} (h : x.Ok) (now : Int) : (x.ticks now).x.Ok := by
  unfold Pl.Lk.ticks
  split
  · exact h
  · rename_i hc
    obtain ⟨c1, c2, c3⟩ := Pl.timeF_zero hc
    obtain ⟨h1, h2, h3, h4, h5, h6⟩ := h
    repeat' split
    all_goals (constructor <;> simp [Pl.Lk.tick] <;> omega)
end Go.Proofs.Ytanmokomefdaiaa
