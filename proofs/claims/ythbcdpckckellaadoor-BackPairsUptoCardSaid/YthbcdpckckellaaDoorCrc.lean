import Derived.Test.YthbcdpckckellaaDoorPCrc
import Derived.Test.YthbcdpckckellaaDoorSlice
import Derived.Test.YthbcdpckckellaaDoorRows
import Derived.WalkKit
import Derived.ProofKit
import Derived.Outline
/-! Contracts of package crc: sums. -/
namespace Go.Proofs.YthbcdpckckellaaDoor
open Go.RowKit
set_option linter.unusedVariables false
set_option linter.unusedSimpArgs false

theorem u32_bd (s : BitVec 32) : (0 : Int) ≤ (s.toNat : Int) ∧ (s.toNat : Int) ≤ 4294967295 := by have := s.isLt; omega
theorem Pl.half_u32 (s : BitVec 32) : (s.toNat : Int) / (2 : Int) = ((s >>> 1).toNat : Int) := by
  rw [BitVec.toNat_ushiftRight, Nat.shiftRight_eq_div_pow]; omega
theorem Pl.xor_poly (s : BitVec 32) : bits .xor .u32 (s.toNat : Int) 3988292384 = ((s ^^^ 3988292384#32).toNat : Int) := Pl.xor_u32 s 3988292384#32
theorem Pl.cstep_hi (s : BitVec 32) (h : s.getLsbD 0 = true) : Pl.cstep s = (s >>> 1) ^^^ 3988292384#32 := by unfold Pl.cstep; rw [h]; rfl
theorem Pl.cstep_lo (s : BitVec 32) (h : s.getLsbD 0 = false) : Pl.cstep s = s >>> 1 := by unfold Pl.cstep; rw [h]; rfl

theorem Pl.xor_c (s : BitVec 32) (c : UInt8) : bits .xor .u32 (s.toNat : Int) (c.toNat : Int) = ((s ^^^ BitVec.ofNat 32 c.toNat).toNat : Int) := by
  have h := Pl.xor_u32 s (BitVec.ofNat 32 c.toNat)
  have hc := c.toNat_lt
  rw [BitVec.toNat_ofNat, Nat.mod_eq_of_lt (by omega)] at h
  exact h
theorem byte_bd (c : UInt8) : (0 : Int) ≤ (c.toNat : Int) ∧ (c.toNat : Int) ≤ 255 := by have := c.toNat_lt; omega
theorem Pl.crun_snoc (s : BitVec 32) (l : List UInt8) (k : Nat) (hk : k < l.length) : Pl.crun s (l.take (k + 1)) = Pl.con (Pl.crun s (l.take k)) l[k] := by
  unfold Pl.crun; rw [List.take_succ_eq_append_getElem hk, List.foldl_append]; rfl

/-- a word turned -/
theorem Pl.turn_u32 (s : BitVec 32) : wrap64 (bits .xor .u32 IntKind.u32.max (s.toNat : Int)) = ((~~~ s).toNat : Int) := by
  have h := Pl.xor_u32 4294967295#32 s
  rw [show (4294967295#32 : BitVec 32) ^^^ s = ~~~ s from by rw [show (4294967295#32 : BitVec 32) = BitVec.allOnes 32 from rfl, BitVec.allOnes_xor]] at h
  rw [show IntKind.u32.max = (((4294967295#32 : BitVec 32).toNat : Nat) : Int) from rfl, h]
  have := (~~~ s).isLt
  exact IntWalk.wrap64_in _ ⟨by omega, by omega⟩
/-- the sum of bytes, as a number -/
def Pl.sumI (l : List UInt8) : Int := ((Pl.csum l).toNat : Int)
theorem Pl.sumI_bd (l : List UInt8) : 0 ≤ Pl.sumI l ∧ Pl.sumI l ≤ 4294967295 := u32_bd _
theorem Pl.turn_sum (l : List UInt8) : wrap64 (bits .xor .u32 IntKind.u32.max ((Pl.crun Pl.ones l).toNat : Int)) = Pl.sumI l := Pl.turn_u32 _
end Go.Proofs.YthbcdpckckellaaDoor
