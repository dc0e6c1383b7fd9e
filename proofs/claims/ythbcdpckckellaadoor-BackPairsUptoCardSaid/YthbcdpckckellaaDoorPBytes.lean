import Derived.WalkKit
/-! Plain facts on numbers as bytes (chapters 3 and 5). No program in sight. -/
namespace Go.Proofs.YthbcdpckckellaaDoor
set_option linter.unusedVariables false
set_option linter.unusedSimpArgs false
namespace Pl
/-- the byte of a number at a place -/
def byteAt (n : Int) (i : Nat) : UInt8 := UInt8.ofNat (n / (256 : Int) ^ i % 256).toNat
/-- a number in so many bytes -/
def putB (n : Int) : Nat → List UInt8
  | 0 => []
  | k + 1 => byteAt n k :: putB n k
/-- a number out of bytes -/
def getB (l : List UInt8) : Int := l.foldl (fun a c => a * 256 + (c.toNat : Int)) 0
theorem putB_length (n : Int) (k : Nat) : (putB n k).length = k := by
  induction k with
  | zero => rfl
  | succ k ih => simp [putB, ih]
theorem byteAt_toNat (n : Int) (i : Nat) : ((byteAt n i).toNat : Int) = n / (256 : Int) ^ i % 256 := by
  unfold byteAt
  have h1 : 0 ≤ n / (256 : Int) ^ i % 256 := Int.emod_nonneg _ (by decide)
  have h2 : n / (256 : Int) ^ i % 256 < 256 := Int.emod_lt_of_pos _ (by decide)
  rw [UInt8.toNat_ofNat']
  omega
theorem foldl_get (l : List UInt8) (a : Int) : l.foldl (fun a c => a * 256 + (c.toNat : Int)) a = a * 256 ^ l.length + getB l := by
  induction l generalizing a with
  | nil => simp [getB]
  | cons c l ih =>
    unfold getB
    rw [List.foldl_cons, List.foldl_cons, ih, ih (0 * 256 + (c.toNat : Int)), List.length_cons, Int.pow_succ]
    rw [Int.add_mul, Int.add_mul, Int.mul_assoc, Int.mul_comm 256]
    omega
theorem getB_cons (c : UInt8) (l : List UInt8) : getB (c :: l) = (c.toNat : Int) * 256 ^ l.length + getB l := by
  have h := foldl_get l (0 * 256 + (c.toNat : Int))
  rw [show getB (c :: l) = l.foldl (fun a c => a * 256 + (c.toNat : Int)) (0 * 256 + (c.toNat : Int)) from rfl, h]
  simp
theorem getB_snoc (l : List UInt8) (c : UInt8) : getB (l ++ [c]) = getB l * 256 + (c.toNat : Int) := by
  unfold getB; rw [List.foldl_append]; rfl
theorem getB_bd (l : List UInt8) : 0 ≤ getB l ∧ getB l < 256 ^ l.length := by
  induction l with
  | nil => simp [getB]
  | cons c l ih =>
    rw [getB_cons, List.length_cons, Int.pow_succ]
    have hc := c.toNat_lt
    have hp : (0 : Int) < 256 ^ l.length := Int.pow_pos (by decide)
    generalize (256 : Int) ^ l.length = p at *
    have h1 : (0 : Int) ≤ (c.toNat : Int) * p := Int.mul_nonneg (by omega) (by omega)
    have h2 : (c.toNat : Int) * p ≤ 255 * p := Int.mul_le_mul_of_nonneg_right (by omega) (by omega)
    omega
theorem emod_mul' (n p : Int) (hp : 0 ≤ p) (hn : 0 ≤ n) : n % (p * 256) = n % p + p * (n / p % 256) := by
  obtain ⟨a, rfl⟩ := Int.eq_ofNat_of_zero_le hn
  obtain ⟨b, rfl⟩ := Int.eq_ofNat_of_zero_le hp
  have h := @Nat.mod_mul b 256 a
  have h2 : ((a % (b * 256) : Nat) : Int) = ((a % b + b * (a / b % 256) : Nat) : Int) := by rw [h]
  simpa using h2
theorem getB_putB (k : Nat) (n : Int) (h : 0 ≤ n) : getB (putB n k) = n % 256 ^ k := by
  induction k with
  | zero => simp [putB, getB, Int.emod_one]
  | succ k ih =>
    rw [putB, getB_cons, ih, putB_length, byteAt_toNat, Int.pow_succ]
    rw [emod_mul' n (256 ^ k) (Int.le_of_lt (Int.pow_pos (by decide))) h, Int.mul_comm]
    omega
theorem getB_putB' (k : Nat) (n : Int) (h : 0 ≤ n) (h2 : n < 256 ^ k) : getB (putB n k) = n := by
  rw [getB_putB k n h, Int.emod_eq_of_lt h h2]
theorem putB_low (k : Nat) (n c p : Int) (h : p = 256 ^ k) : putB (c * p + n) k = putB n k := by
  induction k generalizing c p with
  | zero => rfl
  | succ k ih =>
    have e : (c * p + n) = (c * 256) * 256 ^ k + n := by rw [h, Int.pow_succ, Int.mul_comm (256 ^ k), Int.mul_assoc]
    rw [putB, putB]
    congr 1
    · unfold byteAt
      congr 2
      rw [e, Int.add_comm, Int.add_mul_ediv_right _ _ (by have : (0:Int) < 256 ^ k := Int.pow_pos (by decide); omega)]
      omega
    · rw [e]; exact ih _ _ rfl
theorem putB_getB (l : List UInt8) : putB (getB l) l.length = l := by
  induction l with
  | nil => rfl
  | cons c l ih =>
    have hb := getB_bd l
    have hc := c.toNat_lt
    have hp : (0 : Int) < 256 ^ l.length := Int.pow_pos (by decide)
    rw [List.length_cons, putB, getB_cons]
    congr 1
    · unfold byteAt
      rw [Int.add_comm, Int.add_mul_ediv_right _ _ (by omega), Int.ediv_eq_zero_of_lt hb.1 hb.2]
      rw [show (0 + (c.toNat : Int)) % 256 = (c.toNat : Int) by omega]
      simp
    · rw [putB_low _ _ _ _ rfl, ih]
theorem putB_inj {k : Nat} {a b : Int} (ha : 0 ≤ a) (ha2 : a < 256 ^ k) (hb : 0 ≤ b) (hb2 : b < 256 ^ k) (h : putB a k = putB b k) : a = b := by
  rw [← getB_putB' k a ha ha2, ← getB_putB' k b hb hb2, h]
end Pl
end Go.Proofs.YthbcdpckckellaaDoor
