import Derived.Test.YticihmkgdabgiaaDoorSame
import Derived.Test.YticihmkgdabgiaaDoorFrameE
/-! The contract of choirsame.Frame; frames as bytes tell frames apart. -/
namespace Go.Proofs.YticihmkgdabgiaaDoor
open Go.RowKit
set_option linter.unusedVariables false
set_option linter.unusedSimpArgs false
namespace Pl
def sameFr (t o ep h : Int) (b : List UInt8) (t' o' ep' h' : Int) (b' : List UInt8) : Bool := decide (t = t' ∧ o = o' ∧ ep = ep' ∧ h = h' ∧ b = b')
theorem sealB_inj {a b : List UInt8} (h : sealB a = sealB b) : a = b := by
  have hl := congrArg List.length h
  rw [sealB_length, sealB_length] at hl
  exact (List.append_inj h (by omega)).1
theorem byteAt_inj {a b : Int} (ha : 0 ≤ a ∧ a ≤ 255) (hb : 0 ≤ b ∧ b ≤ 255) (h : byteAt a 0 = byteAt b 0) : a = b := by
  rw [byte0 a ha.1 ha.2, byte0 b hb.1 hb.2, h]
theorem frBytes_inj {t o ep h t' o' ep' h' : Int} {b b' : List UInt8} (n : frNum t o ep h) (n' : frNum t' o' ep' h') (e : frBytes t o ep h b = frBytes t' o' ep' h' b') : t = t' ∧ o = o' ∧ ep = ep' ∧ h = h' ∧ b = b' := by
  have e1 := sealB_inj e
  unfold frBody at e1
  obtain ⟨g1, g2, g3, g4, g5, g6, g7, g8⟩ := n
  obtain ⟨k1, k2, k3, k4, k5, k6, k7, k8⟩ := n'
  have e2 := List.append_inj e1 (by simp [putB])
  have e3 := List.append_inj e2.1 (by simp)
  have e4 := e3.1
  simp only [List.cons.injEq, true_and, and_true] at e4
  exact ⟨byteAt_inj (by omega) (by omega) e4.1, byteAt_inj (by omega) (by omega) e4.2.1, putB_inj (k := 2) g5 (by omega) k5 (by omega) e3.2, byteAt_inj (by omega) (by omega) e4.2.2, e2.2⟩
end Pl
set_option maxRecDepth 100000 in
set_option maxHeartbeats 2000000 in
theorem sameFr_any (s t l lv s' t' l' lv' : Int) (v v' : Value) (b b' : List UInt8) (w : World) (h : IsBytes w v b) (h' : IsBytes w v' b') :
    Calls Tryd.prog 12 #[frV s t l lv v, frV s' t' l' lv' v'] w fun e w' => e = .returned (.bool (Pl.sameFr s t l lv b s' t' l' lv' b')) ∧ Below w.heap.size w w' := by
  obtain ⟨oa, c, rfl, _⟩ := bytes_slice h
  obtain ⟨oa', c', rfl, _⟩ := bytes_slice h'
  have fin : ∀ r : Bool, r = Pl.sameFr s t l lv b s' t' l' lv' b' → Ending.returned (.bool r) = .returned (.bool (Pl.sameFr s t l lv b s' t' l' lv' b')) := fun r h => by rw [h]
  have Fin := Lib.hid fin
  clear fin
  by_cases es : s = s'
  case neg =>
    have d : (s == s') = false := by simpa using es
    go_enter Tryd.func12, Tryd.ntmps12
    go_wp2
    go_ret
    refine ⟨Fin.out _ (by simp [Pl.sameFr, *]), ?_⟩
    repeat (first | exact Below.refl _ _ | refine Below.drew ?_ | refine Below.alloc ?_ (by simp) _)
  subst es
  by_cases et : t = t'
  case neg =>
    have d : (t == t') = false := by simpa using et
    go_enter Tryd.func12, Tryd.ntmps12
    go_wp2
    go_ret
    refine ⟨Fin.out _ (by simp [Pl.sameFr, *]), ?_⟩
    repeat (first | exact Below.refl _ _ | refine Below.drew ?_ | refine Below.alloc ?_ (by simp) _)
  subst et
  by_cases el : l = l'
  case neg =>
    have d : (l == l') = false := by simpa using el
    go_enter Tryd.func12, Tryd.ntmps12
    go_wp2
    go_ret
    refine ⟨Fin.out _ (by simp [Pl.sameFr, *]), ?_⟩
    repeat (first | exact Below.refl _ _ | refine Below.drew ?_ | refine Below.alloc ?_ (by simp) _)
  subst el
  by_cases elv : lv = lv'
  case neg =>
    have d : (lv == lv') = false := by simpa using elv
    go_enter Tryd.func12, Tryd.ntmps12
    go_wp2
    go_ret
    refine ⟨Fin.out _ (by simp [Pl.sameFr, *]), ?_⟩
    repeat (first | exact Below.refl _ _ | refine Below.drew ?_ | refine Below.alloc ?_ (by simp) _)
  subst elv
  have kb : Below w.heap.size w ((w.alloc (.cells #[.int .i64 s, .int .i64 t, .int .i64 l, .int .i64 lv, .slice oa b.length c] 24)).alloc (.cells #[.int .i64 s, .int .i64 t, .int .i64 l, .int .i64 lv, .slice oa' b'.length c'] 24)) :=
    ((Below.refl _ _).alloc (Nat.le_refl _) _).alloc (by simp) _
  have c1 := conv_bytes (h.below kb)
  have c2 := conv_bytes (h'.below kb)
  clear kb
  by_cases e : b = b'
  · subst e
    generalize strB b = x at *
    go_enter Tryd.func12, Tryd.ntmps12
    go_wp2
    go_ret
    refine ⟨Fin.out _ (by simp [Pl.sameFr]), ?_⟩
    repeat (first | exact Below.refl _ _ | refine Below.drew ?_ | refine Below.alloc ?_ (by simp) _)
  · have ne : ¬ (strB b).toList = (strB b').toList := by rw [ByteArray.toList_eq, ByteArray.toList_eq]; simpa [strB] using e
    have d : ((strB b).toList == (strB b').toList) = false := beq_eq_false_iff_ne.2 ne
    generalize strB b = x at *
    generalize strB b' = x' at *
    go_enter Tryd.func12, Tryd.ntmps12
    go_wp2
    go_ret
    refine ⟨Fin.out _ (by simp [Pl.sameFr, e, ne]), ?_⟩
    repeat (first | exact Below.refl _ _ | refine Below.drew ?_ | refine Below.alloc ?_ (by simp) _)
end Go.Proofs.YticihmkgdabgiaaDoor
