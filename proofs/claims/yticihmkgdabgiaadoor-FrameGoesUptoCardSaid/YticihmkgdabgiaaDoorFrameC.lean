import Derived.Test.YticihmkgdabgiaaDoorReadGood
import Derived.Test.YticihmkgdabgiaaDoorSeal
/-! frame.Check, frame.Encode. -/
namespace Go.Proofs.YticihmkgdabgiaaDoor
open Go.RowKit
set_option linter.unusedVariables false
set_option linter.unusedSimpArgs false
/-- a frame as a value -/
abbrev frV (t o ep h : Int) (bv : Value) : Value := .agg #[.int .i64 t, .int .i64 o, .int .i64 ep, .int .i64 h, bv]
namespace Pl
def frNum (t o ep h : Int) : Prop := 1 ≤ t ∧ t ≤ 8 ∧ 0 ≤ o ∧ o ≤ 15 ∧ 0 ≤ ep ∧ ep ≤ 65535 ∧ 0 ≤ h ∧ h ≤ 64
instance (t o ep h : Int) : Decidable (frNum t o ep h) := by unfold frNum; infer_instance
def frFault (t o ep h : Int) (l : List UInt8) : Int := if frNum t o ep h then readFault l else 1
def frBody (t o ep h : Int) (l : List UInt8) : List UInt8 := ([70, byteAt t 0, byteAt o 0, byteAt h 0] ++ putB ep 2) ++ l
/-- a frame as bytes -/
def frBytes (t o ep h : Int) (l : List UInt8) : List UInt8 := sealB (frBody t o ep h l)
theorem frBody_length (t o ep h : Int) (l : List UInt8) : (frBody t o ep h l).length = 6 + l.length := by simp [frBody, putB]; omega
theorem frBytes_length (t o ep h : Int) (l : List UInt8) : (frBytes t o ep h l).length = 10 + l.length := by rw [frBytes, sealB_length, frBody_length]; omega
theorem frFault_ok {t o ep h : Int} {l : List UInt8} (hf : frFault t o ep h l = 0) : frNum t o ep h ∧ readFault l = 0 := by
  unfold frFault at hf
  split at hf
  · exact ⟨by assumption, hf⟩
  · cases hf
end Pl
set_option maxHeartbeats 1000000 in
theorem fcheck_ok (t o ep h : Int) (bv : Value) (l : List UInt8) (w : World) (hv : IsBytes w bv l) (hf : Pl.frFault t o ep h l = 0) :
    Calls Tryd.prog 17 #[frV t o ep h bv] w fun e w' => e = .returned .nilIface ∧ Below w.heap.size w w' := by
  obtain ⟨hn, hr⟩ := Pl.frFault_ok hf
  obtain ⟨g1, g2, g3, g4, g5, g6, g7, g8⟩ := hn
  obtain ⟨r1, r2, r3⟩ := Pl.read_ok hr
  have hs : Pl.seq ep = true := by rw [Pl.seq_iff]; omega
  obtain ⟨oa, c, rfl, _⟩ := bytes_slice hv
  have HB := Lib.hid ((Below.refl w.heap.size w).alloc (Nat.le_refl _) (.cells #[.int .i64 t, .int .i64 o, .int .i64 ep, .int .i64 h, .slice oa l.length c] 24))
  have R := Lib.hid (read_good _ l _ (hv.below HB.out) r1 r2 r3)
  clear hf hr r1 r2 r3 hv
  go_enter Tryd.func17, Tryd.ntmps17
  go_wp2_with (first | (go_at_call 44; refine (seq_any _ _).mono ?_; rintro e w' ⟨rfl, rfl⟩) | (go_at_call 24; refine (R.out).mono ?_; rintro e w' ⟨ob, n, d, rfl, -, kb⟩))
  go_ret
  refine ⟨rfl, ?_⟩
  have h1 := HB.out.trans (kb.mono (by simp))
  repeat (first | exact h1 | refine Below.setCell ?_ (by have := h1.size; simp at this ⊢; omega) _ | refine Below.alloc ?_ (by have := h1.size; simp at this ⊢; omega) _)
set_option maxHeartbeats 1000000 in
theorem fcheck_body (t o ep h : Int) (bv : Value) (l : List UInt8) (w : World) (hv : IsBytes w bv l) (hn : Pl.frNum t o ep h) (hr : Pl.readFault l ≠ 0) :
    Calls Tryd.prog 17 #[frV t o ep h bv] w fun e w' => e = .returned (.iface 73 (.int .i64 (Pl.readFault l))) ∧ Below w.heap.size w w' := by
  obtain ⟨g1, g2, g3, g4, g5, g6, g7, g8⟩ := hn
  have hs : Pl.seq ep = true := by rw [Pl.seq_iff]; omega
  obtain ⟨oa, c, rfl, _⟩ := bytes_slice hv
  have HB := Lib.hid ((Below.refl w.heap.size w).alloc (Nat.le_refl _) (.cells #[.int .i64 t, .int .i64 o, .int .i64 ep, .int .i64 h, .slice oa l.length c] 24))
  have R := Lib.hid (read_bad _ l _ (hv.below HB.out) hr)
  clear hr hv
  generalize Pl.readFault l = k at *
  go_enter Tryd.func17, Tryd.ntmps17
  go_wp2_with (first | (go_at_call 44; refine (seq_any _ _).mono ?_; rintro e w' ⟨rfl, rfl⟩) | (go_at_call 24; refine (R.out).mono ?_; rintro e w' ⟨rfl, kb⟩))
  go_ret
  refine ⟨rfl, ?_⟩
  have h1 := HB.out.trans (kb.mono (by simp))
  repeat (first | exact h1 | refine Below.setCell ?_ (by have := h1.size; simp at this ⊢; omega) _ | refine Below.alloc ?_ (by have := h1.size; simp at this ⊢; omega) _)
set_option maxHeartbeats 2000000 in
theorem fcheck_num (t o ep h : Int) (oa : Option Addr) (n c : Nat) (w : World) (hn : ¬ Pl.frNum t o ep h) :
    Calls Tryd.prog 17 #[frV t o ep h (.slice oa n c)] w fun e w' => e = .returned (.iface 73 (.int .i64 1)) ∧ Below w.heap.size w w' := by
  have G := Lib.hid (show ¬ (1 ≤ t ∧ t ≤ 8 ∧ 0 ≤ o ∧ o ≤ 15 ∧ 0 ≤ ep ∧ ep ≤ 65535 ∧ 0 ≤ h ∧ h ≤ 64) from hn)
  clear hn
  cases hs : Pl.seq ep
  · go_enter Tryd.func17, Tryd.ntmps17
    go_wp2_with (go_at_call 44; refine (seq_any _ _).mono ?_; rintro e w' ⟨rfl, rfl⟩)
    all_goals
      go_ret
      exact ⟨rfl, (Below.refl _ _).alloc (Nat.le_refl _) _⟩
  · obtain ⟨y1, y2⟩ := (Pl.seq_iff ep).1 hs
    by_cases hh : t < 1 ∨ 8 < t ∨ o < 0 ∨ 16 ≤ o ∨ h < 0
    · rcases hh with h1 | h1 | h1 | h1 | h1
      all_goals
        go_enter Tryd.func17, Tryd.ntmps17
        go_wp2_with (first | (go_at_call 44; refine (seq_any _ _).mono ?_; rintro e w' ⟨rfl, rfl⟩) | fail)
        all_goals first
          | (exfalso; have := G.out; omega)
          | (go_ret
             exact ⟨rfl, (Below.refl _ _).alloc (Nat.le_refl _) _⟩)
    · have h1 : 64 < h := by have := G.out; omega
      have a1 : 1 ≤ t := by omega
      have a2 : t ≤ 8 := by omega
      have a3 : 0 ≤ o := by omega
      have a4 : o < 16 := by omega
      clear hh
      go_enter Tryd.func17, Tryd.ntmps17
      go_wp2_with (first | (go_at_call 44; refine (seq_any _ _).mono ?_; rintro e w' ⟨rfl, rfl⟩) | fail)
      go_ret
      exact ⟨rfl, (Below.refl _ _).alloc (Nat.le_refl _) _⟩
theorem fcheck_bad (t o ep h : Int) (bv : Value) (l : List UInt8) (w : World) (hv : IsBytes w bv l) (hf : Pl.frFault t o ep h l ≠ 0) :
    Calls Tryd.prog 17 #[frV t o ep h bv] w fun e w' => e = .returned (.iface 73 (.int .i64 (Pl.frFault t o ep h l))) ∧ Below w.heap.size w w' := by
  unfold Pl.frFault at hf ⊢
  by_cases hn : Pl.frNum t o ep h
  · rw [if_pos hn] at hf ⊢; exact fcheck_body t o ep h bv l w hv hn hf
  · rw [if_neg hn]
    obtain ⟨oa, c, rfl, _⟩ := bytes_slice hv
    exact fcheck_num t o ep h oa _ c w hn
end Go.Proofs.YticihmkgdabgiaaDoor
