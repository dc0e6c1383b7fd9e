import Derived.Test.YthbcdpckckellaaDoorPk
import Derived.Laws.BytesArg
import Derived.RegionTactic
import Derived.ChangeAlike
/-! The contract of choirsame.Packet: are two the same. -/
namespace Go.Proofs.YthbcdpckckellaaDoor
open Go.RowKit
set_option linter.unusedVariables false
set_option linter.unusedSimpArgs false

/-- are two packets the same -/
def Pl.samePk (s t l lv : Int) (st : Bool) (b : List UInt8) (s' t' l' lv' : Int) (st' : Bool) (b' : List UInt8) : Bool := decide (s = s' ∧ t = t' ∧ l = l' ∧ lv = lv' ∧ st = st' ∧ b = b')
/-- bytes as a string -/
def strB (l : List UInt8) : ByteArray := ⟨l.toArray⟩
theorem strB_inj {a b : List UInt8} : strB a = strB b ↔ a = b := by
  unfold strB
  constructor
  · intro h
    have h2 := congrArg (fun x : ByteArray => x.data.toList) h
    simpa using h2
  · rintro rfl; rfl
theorem conv_bytes {v : Value} {l : List UInt8} {w : World} (h : IsBytes w v l) : (convert 26 9 v).run Tryd.prog w = .ok (.string (strB l)) w := by
  rcases h with ⟨rfl, oa, cap, rfl, _, _⟩ | ⟨b, off, cap, rfl, h1, h2, h3⟩
  · rcases oa with _ | a
    · exact run_convert_bytes_nil w _ _ Tryd.underlying26 Tryd.underlying5 0 cap _ Tryd.underlying9
    · rw [run_convert_bytes_string w _ _ _ _ 0 cap Tryd.underlying26 Tryd.underlying5 Tryd.underlying9, run_bytesToString w a 0 cap [] (by simp [loadCells, loadCellsFrom])]
      rfl
  · rw [run_convert_bytes_arg w _ _ Tryd.underlying26 Tryd.underlying5 b off l.length cap (l.map fun c => (c.toNat : Int)) (by simp) (fun i hi => by rw [h3 i hi]; simp [List.getD, hi]) _ Tryd.underlying9]
    congr 2
    unfold strOfNums strB
    congr 2
    rw [List.map_map]
    conv => rhs; rw [← List.map_id l]
    apply List.map_congr_left
    intro x _
    simp

end Go.Proofs.YthbcdpckckellaaDoor
