import Derived.Test.YtmlpdcbfafplkaaDoorSlice
/-! A window's bits: plain. -/
namespace Go.Proofs.YtmlpdcbfafplkaaDoor
open Go.RowKit
set_option linter.unusedVariables false
set_option linter.unusedSimpArgs false
namespace Pl
theorem and_u64 (x y : BitVec 64) : bits .and .u64 (x.toNat : Int) (y.toNat : Int) = ((x &&& y).toNat : Int) := by
  have hxy := (x &&& y).isLt
  unfold bits
  have h : (BitVec.ofInt 64 (x.toNat : Int) &&& BitVec.ofInt 64 (y.toNat : Int)).toNat = (x &&& y).toNat := by
    rw [BitVec.ofInt_natCast, BitVec.ofInt_natCast, BitVec.ofNat_toNat, BitVec.ofNat_toNat, BitVec.setWidth_eq, BitVec.setWidth_eq]
  show IntKind.u64.wrap (((BitVec.ofInt 64 (x.toNat : Int) &&& BitVec.ofInt 64 (y.toNat : Int)).toNat : Nat) : Int) = _
  rw [h]
  generalize (x &&& y).toNat = n at *
  simp [IntKind.wrap, IntKind.bits, IntKind.signed]
  omega
theorem or_u64 (x y : BitVec 64) : bits .or .u64 (x.toNat : Int) (y.toNat : Int) = ((x ||| y).toNat : Int) := by
  have hxy := (x ||| y).isLt
  unfold bits
  have h : (BitVec.ofInt 64 (x.toNat : Int) ||| BitVec.ofInt 64 (y.toNat : Int)).toNat = (x ||| y).toNat := by
    rw [BitVec.ofInt_natCast, BitVec.ofInt_natCast, BitVec.ofNat_toNat, BitVec.ofNat_toNat, BitVec.setWidth_eq, BitVec.setWidth_eq]
  show IntKind.u64.wrap (((BitVec.ofInt 64 (x.toNat : Int) ||| BitVec.ofInt 64 (y.toNat : Int)).toNat : Nat) : Int) = _
  rw [h]
  generalize (x ||| y).toNat = n at *
  simp [IntKind.wrap, IntKind.bits, IntKind.signed]
  omega
theorem wrap_nat (n : Nat) : IntKind.u64.wrap (n : Int) = ((n % 18446744073709551616 : Nat) : Int) := by
  simp [IntKind.wrap, IntKind.bits, IntKind.signed]
/-- one bit -/
theorem bit_u64 (d : Nat) : IntKind.u64.wrap (2 ^ d) = ((1#64 <<< d).toNat : Int) := by
  have h : ((2 : Int) ^ d) = ((2 ^ d : Nat) : Int) := by simp
  rw [h, wrap_nat, BitVec.toNat_shiftLeft]
  simp [Nat.shiftLeft_eq]
theorem shl_u64 (B : BitVec 64) (s : Nat) : IntKind.u64.wrap ((B.toNat : Int) * 2 ^ s) = ((B <<< s).toNat : Int) := by
  have h : ((B.toNat : Int) * 2 ^ s) = ((B.toNat * 2 ^ s : Nat) : Int) := by simp
  rw [h, wrap_nat, BitVec.toNat_shiftLeft]
  simp [Nat.shiftLeft_eq]
theorem shr_u64 (B : BitVec 64) (d : Nat) : (B.toNat : Int) / 2 ^ d = ((B >>> d).toNat : Int) := by
  have h : ((2 : Int) ^ d) = ((2 ^ d : Nat) : Int) := by simp
  rw [h, BitVec.toNat_ushiftRight, Nat.shiftRight_eq_div_pow]
  simp
theorem fresh_u64 (B : BitVec 64) (d : Nat) (hd : d < 64) : (bits .and .u64 (B.toNat : Int) (IntKind.u64.wrap (2 ^ d)) == 0) = !(B.getLsbD d) := by
  rw [bit_u64, and_u64]
  have e : (((B &&& (1#64 <<< d)).toNat : Int) == 0) = decide (B &&& (1#64 <<< d) = 0#64) := by
    rw [Bool.eq_iff_iff]
    simp [BitVec.toNat_eq]
  rw [e, Bool.eq_iff_iff]
  simp
  constructor
  · intro h
    have h2 := congrArg (fun x : BitVec 64 => x.getLsbD d) h
    simpa [BitVec.getLsbD_shiftLeft, hd] using h2
  · intro h
    apply BitVec.eq_of_getLsbD_eq
    intro i hi
    by_cases hid : i = d
    · subst hid; simp [h]
    · have h3 : (1#64 <<< d).getLsbD i = false := by
        simp [BitVec.getLsbD_shiftLeft, BitVec.getLsbD_one]
        omega
      simp [h3]
theorem has_u64 (B : BitVec 64) (d : Nat) (hd : d < 64) : (bits .and .u64 ((B.toNat : Int) / 2 ^ d) 1 == 1) = B.getLsbD d := by
  rw [shr_u64]
  have h1 : (1 : Int) = ((1#64).toNat : Int) := rfl
  rw [h1, and_u64]
  have e : (((B >>> d &&& 1#64).toNat : Int) == ((1#64).toNat : Int)) = decide (B >>> d &&& 1#64 = 1#64) := by
    generalize B >>> d &&& 1#64 = C
    rw [Bool.eq_iff_iff, beq_iff_eq, decide_eq_true_iff]
    constructor
    · intro h; exact BitVec.eq_of_toNat_eq (Int.ofNat.inj h)
    · rintro rfl; rfl
  rw [e, Bool.eq_iff_iff]
  simp
  constructor
  · intro h
    have h2 := congrArg (fun x : BitVec 64 => x.getLsbD 0) h
    simpa [BitVec.getLsbD_ushiftRight] using h2
  · intro h
    apply BitVec.eq_of_getLsbD_eq
    intro i hi
    by_cases hi0 : i = 0
    · subst hi0; simp [BitVec.getLsbD_ushiftRight, h]
    · simp [BitVec.getLsbD_one, hi0]
/-- the bits are those of what was there -/
structure WinRel (top : Int) (B : BitVec 64) (L : List Int) : Prop where
  low : -1 ≤ top
  all : ∀ x ∈ L, 0 ≤ x ∧ x ≤ top
  bit : ∀ d : Nat, d < 64 → B.getLsbD d = decide (top - d ∈ L)
theorem WinRel.start : WinRel (-1) 0#64 [] := ⟨Int.le_refl _, by simp, by simp⟩
theorem WinRel.new {top num : Int} {B : BitVec 64} {L : List Int} (h : WinRel top B L) (hn : top < num) : WinRel num (B <<< (num - top).toNat ||| 1#64) (L ++ [num]) := by
  have hl := h.low
  refine ⟨by omega, ?_, ?_⟩
  · intro x hx
    rcases List.mem_append.1 hx with hx | hx
    · have := h.all x hx; omega
    · simp at hx; omega
  · intro d hd
    simp only [BitVec.getLsbD_or, BitVec.getLsbD_shiftLeft, BitVec.getLsbD_one]
    by_cases h0 : d = 0
    · subst h0; simp
    · by_cases hs : d < (num - top).toNat
      · have hne : num - (d : Int) ∉ L := fun hx => by have := h.all _ hx; omega
        simp [hs, h0, hne]
        omega
      · have hb := h.bit (d - (num - top).toNat) (by omega)
        have e : top - ((d - (num - top).toNat : Nat) : Int) = num - d := by omega
        rw [e] at hb
        simp [hs, h0, hb, hd]
        intro hx
        exfalso
        omega
theorem WinRel.old {top num : Int} {B : BitVec 64} {L : List Int} (h : WinRel top B L) (h0 : 0 ≤ num) (hn : num ≤ top) (h64 : (top - num).toNat < 64) :
    B.getLsbD (top - num).toNat = decide (num ∈ L) ∧ WinRel top (B ||| (1#64 <<< (top - num).toNat)) (if num ∈ L then L else L ++ [num]) := by
  have hb := h.bit (top - num).toNat h64
  have e : top - ((top - num).toNat : Int) = num := by omega
  rw [e] at hb
  refine ⟨hb, h.low, ?_, ?_⟩
  · intro x hx
    split at hx
    · exact h.all x hx
    · rcases List.mem_append.1 hx with hx | hx
      · exact h.all x hx
      · simp at hx; omega
  · intro d hd
    have hbd := h.bit d hd
    simp only [BitVec.getLsbD_or, BitVec.getLsbD_shiftLeft, BitVec.getLsbD_one]
    by_cases hdd : d = (top - num).toNat
    · subst hdd
      rw [e]
      split
      · simp [hb, *]
      · simp
        exact Or.inr (by omega)
    · have ne : top - (d : Int) ≠ num := by omega
      have e2 : (decide (top - (d : Int) ∈ if num ∈ L then L else L ++ [num])) = decide (top - (d : Int) ∈ L) := by
        split
        · rfl
        · simp [ne]
      rw [e2, hbd]
      have : ¬ (d - (top - num).toNat = 0 ∧ ¬ d < (top - num).toNat) := by omega
      simp
      intro _ _
      omega
end Pl
end Go.Proofs.YtmlpdcbfafplkaaDoor
