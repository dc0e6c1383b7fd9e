import Derived.Test.YtbjanihblffmoaaDoorMat
/-! crc.More, crc.Join. -/
namespace Go.Proofs.YtbjanihblffmoaaDoor
open Go.RowKit
set_option linter.unusedVariables false
set_option linter.unusedSimpArgs false
/-- a sum read on -/
def Pl.moreI (s : BitVec 32) (l : List UInt8) : Int := ((~~~ Pl.crun (~~~ s) l).toNat : Int)
theorem Pl.moreI_csum (a b : List UInt8) : Pl.moreI (Pl.csum a) b = Pl.sumI (a ++ b) := by unfold Pl.moreI Pl.sumI; rw [Pl.csum_more]
theorem Pl.turn_raw (s : BitVec 32) : bits .xor .u32 IntKind.u32.max (s.toNat : Int) = ((~~~ s).toNat : Int) := by
  have h := Pl.xor_u32 4294967295#32 s
  rw [show (4294967295#32 : BitVec 32) ^^^ s = ~~~ s from by rw [show (4294967295#32 : BitVec 32) = BitVec.allOnes 32 from rfl, BitVec.allOnes_xor]] at h
  exact h
theorem Pl.shl_one (k : Nat) : (2 : Int) ^ k % 4294967296 = ((1#32 <<< k).toNat : Int) := by
  have h : ((2 : Int) ^ k) = ((2 ^ k : Nat) : Int) := by simp
  rw [h, BitVec.toNat_shiftLeft]
  simp [Nat.shiftLeft_eq]
theorem Pl.and_one (n : Nat) (hn : n ≤ 1000000) : bits .and .i64 (n : Int) 1 = ((n % 2 : Nat) : Int) := by
  unfold bits
  have h : (BitVec.ofInt 64 (n : Int) &&& BitVec.ofInt 64 1).toNat = n % 2 := by
    rw [BitVec.ofInt_natCast, BitVec.toNat_and, BitVec.toNat_ofNat, Nat.mod_eq_of_lt (by omega)]
    have e : (BitVec.ofInt 64 1).toNat = 2 ^ 1 - 1 := by decide
    rw [e, Nat.and_two_pow_sub_one_eq_mod]
  show IntKind.i64.wrap (((BitVec.ofInt 64 (n : Int) &&& BitVec.ofInt 64 1).toNat : Nat) : Int) = _
  rw [h, IntKind.wrap_i64]
  omega
theorem upd_mat (e k : Nat) (i : Nat) : upd (fun i => if i < k then Pl.mat e i else 0) k (Pl.mat e k) i = (fun i => if i < k + 1 then Pl.mat e i else 0) i := by
  unfold upd
  by_cases h : i = k
  · subst h; simp
  · by_cases h2 : i < k
    · simp [h, h2, Nat.lt_succ_of_lt h2]
    · have : ¬ i < k + 1 := by omega
      simp [h, h2, this]
theorem csum_shape (l : List UInt8) : Pl.sumI l = ((Pl.csum l).toNat : Int) := rfl
end Go.Proofs.YtbjanihblffmoaaDoor
