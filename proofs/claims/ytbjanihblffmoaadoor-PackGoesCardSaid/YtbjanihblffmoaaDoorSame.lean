import Derived.Test.YtbjanihblffmoaaDoorPk
import Derived.Laws.BytesArg
import Derived.RegionTactic
import Derived.ChangeAlike
/-! The contract of choirsame.Packet: are two the same. -/
namespace Go.Proofs.YtbjanihblffmoaaDoor
open Go.RowKit
set_option linter.unusedVariables false
set_option linter.unusedSimpArgs false

/-- are two packets the same -/
def Pl.samePk (s t l lv : Int) (st : Bool) (b : List UInt8) (s' t' l' lv' : Int) (st' : Bool) (b' : List UInt8) : Bool := decide (s = s' ∧ t = t' ∧ l = l' ∧ lv = lv' ∧ st = st' ∧ b = b')
/-- bytes as a string -/
def strB (l : List UInt8) : ByteArray := ⟨l.toArray⟩
theorem strB_inj {a b : List UInt8} : strB a = strB b ↔ a = b := by
  unfold strB
  constructor
  · intro h
    have h2 := congrArg (fun x : ByteArray => x.data.toList) h
    simpa using h2
  · rintro rfl; rfl
theorem conv_bytes {v : Value} {l : List UInt8} {w : World} (h : IsBytes w v l) : (convert 22 9 v).run Tryd.prog w = .ok (.string (strB l)) w := by
  rcases h with ⟨rfl, oa, cap, rfl, _, _⟩ | ⟨b, off, cap, rfl, h1, h2, h3⟩
  · rcases oa with _ | a
    · exact run_convert_bytes_nil w _ _ Tryd.underlying22 Tryd.underlying5 0 cap _ Tryd.underlying9
    · rw [run_convert_bytes_string w _ _ _ _ 0 cap Tryd.underlying22 Tryd.underlying5 Tryd.underlying9, run_bytesToString w a 0 cap [] (by simp [loadCells, loadCellsFrom])]
      rfl
  · rw [run_convert_bytes_arg w _ _ Tryd.underlying22 Tryd.underlying5 b off l.length cap (l.map fun c => (c.toNat : Int)) (by simp) (fun i hi => by rw [h3 i hi]; simp [List.getD, hi]) _ Tryd.underlying9]
    congr 2
    unfold strOfNums strB
    congr 2
    rw [List.map_map]
    conv => rhs; rw [← List.map_id l]
    apply List.map_congr_left
    intro x _
    simp

set_option maxRecDepth 100000 in
set_option maxHeartbeats 2000000 in
theorem samePk_any (s t l lv s' t' l' lv' : Int) (st st' : Bool) (v v' : Value) (b b' : List UInt8) (w : World) (h : IsBytes w v b) (h' : IsBytes w v' b') :
    Calls Tryd.prog 13 #[pkV s t l lv st v, pkV s' t' l' lv' st' v'] w fun e w' => e = .returned (.bool (Pl.samePk s t l lv st b s' t' l' lv' st' b')) ∧ Below w.heap.size w w' := by
  obtain ⟨oa, c, rfl, _⟩ := bytes_slice h
  obtain ⟨oa', c', rfl, _⟩ := bytes_slice h'
  have fin : ∀ r : Bool, r = Pl.samePk s t l lv st b s' t' l' lv' st' b' → Ending.returned (.bool r) = .returned (.bool (Pl.samePk s t l lv st b s' t' l' lv' st' b')) := fun r h => by rw [h]
  have Fin := Lib.hid fin
  clear fin
  by_cases es : s = s'
  case neg =>
    have d : (s == s') = false := by simpa using es
    go_enter Tryd.func13, Tryd.ntmps13
    go_wp2
    go_ret
    refine ⟨Fin.out _ (by simp [Pl.samePk, *]), ?_⟩
    repeat (first | exact Below.refl _ _ | refine Below.drew ?_ | refine Below.alloc ?_ (by simp) _)
  subst es
  by_cases et : t = t'
  case neg =>
    have d : (t == t') = false := by simpa using et
    go_enter Tryd.func13, Tryd.ntmps13
    go_wp2
    go_ret
    refine ⟨Fin.out _ (by simp [Pl.samePk, *]), ?_⟩
    repeat (first | exact Below.refl _ _ | refine Below.drew ?_ | refine Below.alloc ?_ (by simp) _)
  subst et
  by_cases el : l = l'
  case neg =>
    have d : (l == l') = false := by simpa using el
    go_enter Tryd.func13, Tryd.ntmps13
    go_wp2
    go_ret
    refine ⟨Fin.out _ (by simp [Pl.samePk, *]), ?_⟩
    repeat (first | exact Below.refl _ _ | refine Below.drew ?_ | refine Below.alloc ?_ (by simp) _)
  subst el
  by_cases elv : lv = lv'
  case neg =>
    have d : (lv == lv') = false := by simpa using elv
    go_enter Tryd.func13, Tryd.ntmps13
    go_wp2
    go_ret
    refine ⟨Fin.out _ (by simp [Pl.samePk, *]), ?_⟩
    repeat (first | exact Below.refl _ _ | refine Below.drew ?_ | refine Below.alloc ?_ (by simp) _)
  subst elv
  by_cases est : st = st'
  case neg =>
    have d : (st == st') = false := by simpa using est
    go_enter Tryd.func13, Tryd.ntmps13
    go_wp2
    go_ret
    refine ⟨Fin.out _ (by simp [Pl.samePk, *]), ?_⟩
    repeat (first | exact Below.refl _ _ | refine Below.drew ?_ | refine Below.alloc ?_ (by simp) _)
  subst est
  have kb : Below w.heap.size w ((w.alloc (.cells #[.int .i64 s, .int .i64 t, .int .i64 l, .int .i64 lv, .bool st, .slice oa b.length c] 24)).alloc (.cells #[.int .i64 s, .int .i64 t, .int .i64 l, .int .i64 lv, .bool st, .slice oa' b'.length c'] 24)) :=
    ((Below.refl _ _).alloc (Nat.le_refl _) _).alloc (by simp) _
  have c1 := conv_bytes (h.below kb)
  have c2 := conv_bytes (h'.below kb)
  have HI := Lib.hid (@strB_inj b b')
  clear kb
  have Hx := Lib.hid (show strB b = strB b from rfl)
  by_cases e : b = b'
  · subst e
    clear HI Hx
    generalize strB b = x at *
    go_enter Tryd.func13, Tryd.ntmps13
    go_wp2
    go_ret
    refine ⟨Fin.out _ (by simp [Pl.samePk]), ?_⟩
    repeat (first | exact Below.refl _ _ | refine Below.drew ?_ | refine Below.alloc ?_ (by simp) _)
  · have ne : ¬ (strB b).toList = (strB b').toList := by rw [ByteArray.toList_eq, ByteArray.toList_eq]; simpa [strB] using e
    have d : ((strB b).toList == (strB b').toList) = false := beq_eq_false_iff_ne.2 ne
    clear HI Hx
    generalize strB b = x at *
    generalize strB b' = x' at *
    go_enter Tryd.func13, Tryd.ntmps13
    go_wp2
    go_ret
    refine ⟨Fin.out _ (by simp [Pl.samePk, e, ne]), ?_⟩
    repeat (first | exact Below.refl _ _ | refine Below.drew ?_ | refine Below.alloc ?_ (by simp) _)
end Go.Proofs.YtbjanihblffmoaaDoor
