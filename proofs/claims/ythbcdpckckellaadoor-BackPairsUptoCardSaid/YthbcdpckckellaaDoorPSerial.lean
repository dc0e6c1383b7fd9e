import Derived.WalkKit
import Derived.Laws.Entries
/-! Plain facts on numbers that go round (chapter 1). No program in sight. -/
namespace Go.Proofs.YthbcdpckckellaaDoor
open Go.RowKit
set_option linter.unusedVariables false
set_option linter.unusedSimpArgs false

namespace Pl
/-- is a ahead of b -/
def ahead (a b : Int) : Bool := decide (1 ≤ (a - b) % 65536 ∧ (a - b) % 65536 < 32768)
def long (n : Int) : Bool := decide (0 ≤ n ∧ n ≤ 1099511627776)
def seq (n : Int) : Bool := decide (0 ≤ n ∧ n ≤ 65535)
def nearest (last seq : Int) : Int :=
  let n := last - last % 65536 + seq
  if 32768 ≤ n - last ∧ 65536 ≤ n then n - 65536
  else if 32768 < last - n then n + 65536 else n

theorem long_iff (n : Int) : long n = true ↔ 0 ≤ n ∧ n ≤ 1099511627776 := by simp [long]
theorem long_not (n : Int) : long n = false ↔ ¬ (0 ≤ n ∧ n ≤ 1099511627776) := by simp [long]
theorem seq_iff (n : Int) : seq n = true ↔ 0 ≤ n ∧ n ≤ 65535 := by simp [seq]
theorem seq_not (n : Int) : seq n = false ↔ ¬ (0 ≤ n ∧ n ≤ 65535) := by simp [seq]

theorem wrap64_mod (x : Int) : wrap64 x % 65536 = x % 65536 := by
  unfold wrap64; omega
theorem and_low16 (x : Int) : bits .and .i64 x 65535 = x % 65536 := by
  unfold bits
  have h : (BitVec.ofInt 64 x &&& BitVec.ofInt 64 65535).toNat = (x % 65536).toNat := by
    rw [BitVec.toNat_and, BitVec.toNat_ofInt, BitVec.toNat_ofInt]
    have e : ((65535 : Int) % (2 ^ 64 : Nat)).toNat = 2 ^ 16 - 1 := by decide
    rw [e, Nat.and_two_pow_sub_one_eq_mod]
    omega
  have hb : IntKind.i64.bits = 64 := rfl
  show IntKind.i64.wrap (((BitVec.ofInt 64 x &&& BitVec.ofInt 64 65535).toNat : Nat) : Int) = _
  rw [h, IntKind.wrap_i64]
  omega

theorem ahead_bits (a b : Int) : bits .and .i64 (wrap64 (a - b)) 65535 = (a - b) % 65536 := by
  rw [and_low16, wrap64_mod]

theorem nearest_range (last seq : Int) (h : long last = true) (h' : Pl.seq seq = true) :
    nearest last seq % 65536 = seq ∧ 0 ≤ nearest last seq ∧ nearest last seq - last ≤ 65536 ∧ last - nearest last seq ≤ 32768 := by
  rw [long_iff] at h; rw [seq_iff] at h'
  unfold nearest
  dsimp only
  split
  · omega
  · split <;> omega
theorem nearest_ahead (last seq : Int) (h : long last = true) (h' : Pl.seq seq = true) (hl : 65536 ≤ last) :
    ahead seq (last % 65536) = decide (last < nearest last seq ∧ nearest last seq - last < 32768) := by
  rw [long_iff] at h; rw [seq_iff] at h'
  unfold ahead nearest
  rw [decide_eq_decide]
  dsimp only
  split
  · omega
  · split <;> omega
end Pl
end Go.Proofs.YthbcdpckckellaaDoor
