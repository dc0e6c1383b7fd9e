import Derived.Test.YthbcdpckckellaaDoorBytes
import Derived.Test.YthbcdpckckellaaDoorPk
import Derived.RegionTactic
import Derived.ChangeAlike
import Derived.Deep.QuietTactic
import Derived.BigQuiet
import Derived.Deep.RegionHeld3
import Derived.Deep.DeepCutAuto
import Derived.StillTailTactics
/-! pack.Read. -/
namespace Go.Proofs.YthbcdpckckellaaDoor
open Go.RowKit
set_option linter.unusedVariables false
set_option linter.unusedSimpArgs false
theorem abs_b {P : Program} {c : Code} {Q : Exit → Act → World → Prop} {a : Act} {W : World} (S : World → Prop) (h : S W) (k : ∀ wq, S wq → c.wp P Q a wq) : c.wp P Q a W := k W h
namespace Pl
/-- what is wrong with bytes that are to be read as a packet -/
def headBad (a b : UInt8) : Bool := decide (131 < bits .andNot .u8 (a.toNat : Int) 32) || decide ((a.toNat : Int) < 128) || decide (127 < (b.toNat : Int))
theorem headBad_cases {a b : UInt8} (h : headBad a b = true) : 131 < bits .andNot .u8 (a.toNat : Int) 32 ∨ (bits .andNot .u8 (a.toNat : Int) 32 ≤ 131 ∧ (a.toNat : Int) < 128) ∨ (bits .andNot .u8 (a.toNat : Int) 32 ≤ 131 ∧ 128 ≤ (a.toNat : Int) ∧ 127 < (b.toNat : Int)) := by
  unfold headBad at h
  simp only [Bool.or_eq_true, decide_eq_true_eq] at h
  omega
theorem headBad_no {a b : UInt8} (h : headBad a b = false) : bits .andNot .u8 (a.toNat : Int) 32 ≤ 131 ∧ 128 ≤ (a.toNat : Int) ∧ (b.toNat : Int) ≤ 127 := by
  unfold headBad at h
  simp only [Bool.or_eq_false_iff, decide_eq_false_iff_not] at h
  omega
def readFault (l : List UInt8) : Int := if l.length < 8 then 8 else if headBad (l.getD 0 0) (l.getD 1 0) then 2 else if 1008 < l.length then 4 else 0
def rdLayer (a : UInt8) : Int := ((a &&& 3).toNat : Int)
def rdStart (a : UInt8) : Bool := (a &&& 32) != 0
end Pl
abbrev zeroPk : Value := pkV 0 0 0 0 false (.slice none 0 0)
theorem bytes_long {w : World} {v : Value} {l : List UInt8} (h : IsBytes w v l) (hl : 0 < l.length) : ∃ b off cap, v = .slice (some ⟨b, off, none⟩) l.length cap ∧ l.length ≤ cap ∧ cap ≤ maxLen ∧ ∀ i (h : i < l.length), w.cell? ⟨b, off + i, none⟩ = some (encB l[i]) := by
  rcases h with ⟨rfl, _⟩ | ⟨b, off, cap, h⟩
  · simp at hl
  · exact ⟨b, off, cap, h⟩
theorem bytes_at {w : World} {b off cap n : Nat} {l : List UInt8} (h : IsBytes w (.slice (some ⟨b, off, none⟩) n cap) l) (i : Nat) (hi : i < l.length) : w.cell? ⟨b, off + i, none⟩ = some (encB (l.getD i 0)) := by
  rcases h with ⟨rfl, _⟩ | ⟨b', off', cap', h0, _, _, h3⟩
  · simp at hi
  · cases h0
    rw [h3 i hi]
    simp [List.getD, hi]
theorem sub_bytes {w : World} {b off n cap : Nat} {l : List UInt8} (h : IsBytes w (.slice (some ⟨b, off, none⟩) n cap) l) (lo hi : Nat) (h1 : lo ≤ hi) (h2 : hi ≤ l.length) (hcap : cap ≤ maxLen) (hl : l.length ≤ cap) (m c : Nat) (hm : m = hi - lo) (hc : c = cap - lo) :
    IsBytes w (.slice (if cap = lo then some ⟨b, off, none⟩ else some ⟨b, off + lo, none⟩) m c) ((l.drop lo).take (hi - lo)) := by
  subst hm hc
  by_cases e : cap = lo
  · rw [if_pos e]
    have e2 : hi - lo = 0 := by omega
    rw [e2]
    exact Sl.empty (by omega) (fun h => by cases h)
  rw [if_neg e]
  have hlen : ((l.drop lo).take (hi - lo)).length = hi - lo := by simp; omega
  refine .inr ⟨b, off + lo, cap - lo, by rw [hlen], by omega, by omega, fun i hi' => ?_⟩
  rw [hlen] at hi'
  rw [Nat.add_assoc, bytes_at h (lo + i) (by omega)]
  congr 2
  simp [List.getD]
  rw [List.getElem?_eq_getElem (by omega)]
  rfl
end Go.Proofs.YthbcdpckckellaaDoor
