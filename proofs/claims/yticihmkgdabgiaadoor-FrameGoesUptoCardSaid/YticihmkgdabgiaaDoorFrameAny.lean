import Derived.Test.YticihmkgdabgiaaDoorRefFrR
import Derived.Test.YticihmkgdabgiaaDoorSameFr
import Derived.Test.YticihmkgdabgiaaDoorTold
import Derived.Deep.DeepCutAuto
/-! frame.Check, Encode, Pass: all ways together. -/
namespace Go.Proofs.YticihmkgdabgiaaDoor
open Go.RowKit
set_option linter.unusedVariables false
set_option linter.unusedSimpArgs false
theorem errK_zero : errK 0 = .nilIface := rfl
theorem errK_same (k : Int) (w : World) (hE : Env w) : Calls Tryd.prog 13 #[errK k, .int .i64 k] w fun e w' => e = .returned (.bool true) ∧ Below w.heap.size w w' := by
  by_cases h : k = 0
  · subst h
    rw [errK_zero]
    exact (error_nil 0 w).mono fun e w' ⟨h1, h2⟩ => ⟨by rw [h1]; rfl, by rw [← h2]; exact Below.refl _ _⟩
  · rw [errK_hit h]
    exact (error_hit k k w hE).mono fun e w' ⟨h1, h2⟩ => ⟨by rw [h1]; simp, h2⟩
theorem fcheck_any (t o ep h : Int) (bv : Value) (l : List UInt8) (w : World) (hv : IsBytes w bv l) :
    Calls Tryd.prog 17 #[frV t o ep h bv] w fun e w' => e = .returned (errK (Pl.frFault t o ep h l)) ∧ Below w.heap.size w w' := by
  by_cases hf : Pl.frFault t o ep h l = 0
  · rw [hf, errK_zero]; exact fcheck_ok t o ep h bv l w hv hf
  · rw [errK_hit hf]; exact fcheck_bad t o ep h bv l w hv hf
def Pl.encX (t o ep h : Int) (l : List UInt8) : List UInt8 := if Pl.frFault t o ep h l = 0 then Pl.frBytes t o ep h l else []
theorem fencode_any (t o ep h : Int) (bv : Value) (l : List UInt8) (w : World) (hv : IsBytes w bv l) :
    Calls Tryd.prog 10 #[frV t o ep h bv] w fun e w' => ∃ oa n c, e = .returned (.tuple #[.slice oa n c, errK (Pl.frFault t o ep h l)]) ∧ IsBytes w' (.slice oa n c) (Pl.encX t o ep h l) ∧ Below w.heap.size w w' := by
  unfold Pl.encX
  by_cases hf : Pl.frFault t o ep h l = 0
  · rw [hf, errK_zero, if_pos rfl]
    exact (fencode_ok t o ep h bv l w hv hf).mono fun e w' ⟨oa, c, h1, h2, h3⟩ => ⟨oa, _, c, h1, h2.reads, h3⟩
  · rw [errK_hit hf, if_neg hf]
    exact (fencode_bad t o ep h bv l w hv hf).mono fun e w' ⟨h1, h3⟩ => ⟨none, 0, 0, h1, Sl.nil _, h3⟩
def Pl.passFault (l : List UInt8) : Int := if Pl.frReadFault l = 0 then (if Pl.rdH l = 64 then 6 else 0) else Pl.frReadFault l
def Pl.passX (l : List UInt8) : List UInt8 := if Pl.passFault l = 0 then Pl.frBytes (Pl.rdT l) (Pl.rdO l) (Pl.rdE l) (Pl.rdH l + 1) (Pl.rdX l) else []
theorem Pl.hop_ok {t o ep h : Int} {l : List UInt8} (hf : Pl.frFault t o ep h l = 0) (h' : h ≠ 64) : Pl.frFault t o ep (h + 1) l = 0 := by
  have hn := (Pl.frFault_ok hf).1
  have hr := (Pl.frFault_ok hf).2
  obtain ⟨g1, g2, g3, g4, g5, g6, g7, g8⟩ := hn
  unfold Pl.frFault
  rw [if_pos ⟨g1, g2, g3, g4, g5, g6, by omega, by omega⟩]
  exact hr
set_option maxRecDepth 100000 in
set_option maxHeartbeats 2000000 in
theorem fpass_run (v : Value) (k t o ep h : Int) (x : List UInt8) (w : World) (hk : k = 0 → Pl.frFault t o ep h x = 0)
    (R : Calls Tryd.prog 11 #[v] w fun e w' => ∃ oa n c, e = .returned (.tuple #[frV t o ep h (.slice oa n c), errK k]) ∧ IsBytes w' (.slice oa n c) x ∧ Below w.heap.size w w')
    (q : Int) (hq : q = if k = 0 then (if h = 64 then 6 else 0) else k) (y : List UInt8) (hy : y = if q = 0 then Pl.frBytes t o ep (h + 1) x else []) :
    Calls Tryd.prog 14 #[v] w fun e w' => ∃ oa n c, e = .returned (.tuple #[.slice oa n c, errK q]) ∧ IsBytes w' (.slice oa n c) y ∧ Below w.heap.size w w' := by
  have R := Lib.hid R
  by_cases h0 : k = 0
  · subst h0
    rw [if_pos rfl] at hq
    have hf := hk rfl
    rw [errK_zero] at R
    clear hk
    by_cases h64 : h = 64
    · subst h64
      rw [if_pos rfl] at hq
      subst hq
      rw [if_neg (by decide)] at hy
      subst hy
      rw [errK_hit (by decide)]
      clear hf
      go_enter Tryd.func14, Tryd.ntmps14
      go_wp2_with (go_at_call 11; refine R.out.mono ?_; rintro e w1 ⟨oa, n, c, rfl, hb, kb⟩)
      refine bodyPost_ret (v := .tuple #[.slice none 0 0, .iface 73 (.int .i64 6)]) (by simp [results, Tryd.results14, go_sem]) rfl ?_
      exact ⟨none, 0, 0, rfl, Sl.nil _, Below.alloc kb kb.size _⟩
    · rw [if_neg h64] at hq
      subst hq
      rw [if_pos rfl] at hy
      subst hy
      rw [errK_zero]
      obtain ⟨⟨g1, g2, g3, g4, g5, g6, g7, g8⟩, -⟩ := Pl.frFault_ok hf
      have d : (h == 64) = false := by rw [beq_eq_false_iff_ne]; exact h64
      have HF := Lib.hid (Pl.hop_ok hf h64)
      clear hf h64
      go_enter Tryd.func14, Tryd.ntmps14
      go_wp2_with (first
        | (go_at_call 11; refine R.out.mono ?_; rintro e w1 ⟨oa, n, c, rfl, hb, kb⟩; have HB := Lib.hid hb; have KB := Lib.hid kb; clear hb kb)
        | (go_at_call 10; refine (fencode_ok t o ep (h + 1) _ x _ (HB.out.below ((Below.refl _ _).alloc (Nat.le_refl _) _)) HF.out).mono ?_; rintro e w2 ⟨ob, c2, rfl, o2, k2⟩)
        | fail)
      refine bodyPost_ret (v := .tuple #[.slice ob (10 + x.length) c2, .nilIface]) (by simp [results, Tryd.results14, go_sem]) rfl ?_
      exact ⟨ob, _, c2, rfl, o2.reads, KB.out.trans (((Below.refl _ _).alloc (Nat.le_refl _) _).trans (k2.mono (by simp)) |>.mono KB.out.size)⟩
  · rw [if_neg h0] at hq
    subst hq
    rw [if_neg h0] at hy
    subst hy
    rw [errK_hit h0] at R ⊢
    clear hk
    go_enter Tryd.func14, Tryd.ntmps14
    go_wp2_with (go_at_call 11; refine R.out.mono ?_; rintro e w1 ⟨oa, n, c, rfl, hb, kb⟩)
    refine bodyPost_ret (v := .tuple #[.slice none 0 0, .iface 73 (.int .i64 q)]) (by simp [results, Tryd.results14, go_sem]) rfl ?_
    exact ⟨none, 0, 0, rfl, Sl.nil _, Below.alloc kb kb.size _⟩
theorem fpass_any (v : Value) (l : List UInt8) (w : World) (hv : IsBytes w v l) (hb : l.length ≤ 100000000) :
    Calls Tryd.prog 14 #[v] w fun e w' => ∃ oa n c, e = .returned (.tuple #[.slice oa n c, errK (Pl.passFault l)]) ∧ IsBytes w' (.slice oa n c) (Pl.passX l) ∧ Below w.heap.size w w' :=
  fpass_run v _ _ _ _ _ (Pl.rdX l) w Pl.rd_ok (fread_any v l w hv hb) _ rfl _ rfl
end Go.Proofs.YticihmkgdabgiaaDoor
