import Derived.Test.YtbjanihblffmoaaDoorPCrcTwo
/-! Plain facts on sums (chapter 2), the third part: sums joined, by a table of what becomes of each bit. No program in sight. -/
namespace Go.Proofs.YtbjanihblffmoaaDoor
set_option linter.unusedVariables false
set_option linter.unusedSimpArgs false
namespace Pl
def ofK (f : Nat → BitVec 32) (s : BitVec 32) : Nat → BitVec 32
  | 0 => 0
  | k + 1 => if s.getLsbD k then ofK f s k ^^^ f k else ofK f s k
def low (s : BitVec 32) (k : Nat) : BitVec 32 := BitVec.ofNat 32 (s.toNat % 2 ^ k)
theorem low_bit (s : BitVec 32) (k i : Nat) : (low s k).getLsbD i = (decide (i < k) && s.getLsbD i) := by
  unfold low
  rw [BitVec.getLsbD_ofNat, Nat.testBit_mod_two_pow]
  by_cases h : i < 32
  · simp [h, BitVec.getLsbD]
  · have e : s.getLsbD i = false := BitVec.getLsbD_of_ge s i (by omega)
    simp [h, e]
theorem low_succ (s : BitVec 32) (k : Nat) (hk : k < 32) : low s (k + 1) = if s.getLsbD k then low s k ^^^ (1#32 <<< k) else low s k := by
  apply BitVec.eq_of_getLsbD_eq
  intro i hi
  rw [low_bit]
  have h1 : (1#32 <<< k).getLsbD i = decide (i = k) := by
    rw [BitVec.getLsbD_shiftLeft, BitVec.getLsbD_one]
    by_cases h : i = k
    · subst h; simp [hi]
    · by_cases h2 : i < k
      · simp [h, h2]
      · have : i - k ≠ 0 := by omega
        simp [h, this]
  cases hs : s.getLsbD k
  · rw [if_neg (by simp), low_bit]
    by_cases h : i = k
    · subst h; simp [hs]
    · have e : decide (i < k + 1) = decide (i < k) := by rw [decide_eq_decide]; omega
      rw [e]
  · rw [if_pos rfl, BitVec.getLsbD_xor, low_bit, h1]
    by_cases h : i = k
    · subst h; simp [hs]
    · have e : decide (i < k + 1) = decide (i < k) := by rw [decide_eq_decide]; omega
      rw [e]; simp [h]
theorem low_all (s : BitVec 32) : low s 32 = s := by
  apply BitVec.eq_of_getLsbD_eq
  intro i hi
  rw [low_bit]; simp [hi]
theorem ofK_lin (L : BitVec 32 → BitVec 32) (h0 : L 0 = 0) (hL : ∀ s t, L (s ^^^ t) = L s ^^^ L t) (f : Nat → BitVec 32) (hf : ∀ i, i < 32 → f i = L (1#32 <<< i)) (s : BitVec 32) : ∀ k, k ≤ 32 → ofK f s k = L (low s k)
  | 0, _ => by
    show (0 : BitVec 32) = L (low s 0)
    have : low s 0 = 0 := by unfold low; simp [Nat.mod_one]
    rw [this, h0]
  | k + 1, h => by
    have ih := ofK_lin L h0 hL f hf s k (by omega)
    rw [ofK, low_succ s k (by omega), ih, hf k (by omega)]
    cases s.getLsbD k
    · rfl
    · simp [hL]
theorem cN_zero : ∀ n, cN n 0 = 0
  | 0 => rfl
  | n + 1 => by rw [cN, cshift_zero, cN_zero n]
theorem cN_add : ∀ (m n : Nat) (s : BitVec 32), cN (m + n) s = cN n (cN m s)
  | 0, n, s => by rw [Nat.zero_add]; rfl
  | m + 1, n, s => by rw [show m + 1 + n = (m + n) + 1 by omega, cN, cN_add m n, cN]
/-- the table of so many bytes of zeros -/
def mat (e : Nat) (i : Nat) : BitVec 32 := cN e (1#32 <<< i)
theorem of_mat (e : Nat) (s : BitVec 32) : ofK (mat e) s 32 = cN e s := by
  rw [ofK_lin (cN e) (cN_zero e) (cN_xor e) (mat e) (fun i _ => rfl) s 32 (Nat.le_refl _), low_all]
theorem mat_one (i : Nat) : mat 1 i = cshift (1#32 <<< i) := rfl
theorem mat_twice (e i : Nat) : ofK (mat e) (mat e i) 32 = mat (e + e) i := by rw [of_mat, mat, mat, cN_add]
theorem join_odd (e n : Nat) (s : BitVec 32) (h : n % 2 = 1) : cN (e * n) s = cN ((e + e) * (n / 2)) (cN e s) := by
  rw [← cN_add]
  congr 1
  have : n = 2 * (n / 2) + 1 := by omega
  conv => lhs; rw [this]
  rw [Nat.mul_add, Nat.mul_one, ← Nat.mul_assoc, Nat.mul_two, Nat.add_comm]
theorem join_even (e n : Nat) (s : BitVec 32) (h : n % 2 = 0) : cN (e * n) s = cN ((e + e) * (n / 2)) s := by
  congr 1
  have : n = 2 * (n / 2) := by omega
  conv => lhs; rw [this]
  rw [← Nat.mul_assoc, Nat.mul_two]
/-- sums joined -/
def joinB (a b : BitVec 32) (n : Nat) : BitVec 32 := cN n a ^^^ b
theorem join_csum (a b : List UInt8) : joinB (csum a) (csum b) b.length = csum (a ++ b) := by
  unfold joinB; rw [csum_append, BitVec.xor_comm]
end Pl
end Go.Proofs.YtbjanihblffmoaaDoor
