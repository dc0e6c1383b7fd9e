import Derived.WalkKit
import Derived.Laws.Entries
import Derived.Laws.BitsAllLaws
/-! Plain facts on sums (chapter 2). No program in sight. -/
namespace Go.Proofs.YthbcdpckckellaaDoor
open Go.RowKit
set_option linter.unusedVariables false
set_option linter.unusedSimpArgs false

namespace Pl
def cstep (s : BitVec 32) : BitVec 32 := if s.getLsbD 0 then (s >>> 1) ^^^ 3988292384#32 else s >>> 1
def cIter : Nat → BitVec 32 → BitVec 32
  | 0, s => s
  | n + 1, s => cstep (cIter n s)
def cshift (s : BitVec 32) : BitVec 32 := cIter 8 s
def con (s : BitVec 32) (c : UInt8) : BitVec 32 := cshift (s ^^^ (BitVec.ofNat 32 c.toNat))
def crun (s : BitVec 32) (l : List UInt8) : BitVec 32 := l.foldl con s
def ones : BitVec 32 := 4294967295#32
/-- the sum of bytes, as a word -/
def csum (l : List UInt8) : BitVec 32 := ~~~ crun ones l

theorem cstep_xor (s t : BitVec 32) : cstep (s ^^^ t) = cstep s ^^^ cstep t := by
  unfold cstep
  rw [BitVec.getLsbD_xor, BitVec.ushiftRight_xor_distrib]
  cases s.getLsbD 0 <;> cases t.getLsbD 0 <;> simp [BitVec.xor_assoc]
  · exact BitVec.xor_comm _ _
  · rw [BitVec.xor_comm, BitVec.xor_assoc, BitVec.xor_self, BitVec.xor_zero]
theorem cIter_xor (n : Nat) (s t : BitVec 32) : cIter n (s ^^^ t) = cIter n s ^^^ cIter n t := by
  induction n with
  | zero => rfl
  | succ n ih => simp only [cIter, ih, cstep_xor]
theorem cshift_xor (s t : BitVec 32) : cshift (s ^^^ t) = cshift s ^^^ cshift t := cIter_xor 8 s t
theorem con_xor (s t : BitVec 32) (c d : UInt8) : con (s ^^^ t) (c ^^^ d) = con s c ^^^ con t d := by
  unfold con
  rw [← cshift_xor]
  congr 1
  rw [UInt8.toNat_xor, BitVec.ofNat_xor]
  ac_rfl
theorem crun_xor (s t : BitVec 32) : ∀ (a b c : List UInt8), a.length = b.length → c = List.zipWith (· ^^^ ·) a b → crun (s ^^^ t) c = crun s a ^^^ crun t b
  | [], [], c, _, h => by subst h; rfl
  | x :: a, y :: b, c, hl, h => by
    subst h
    simp only [List.zipWith_cons_cons, crun, List.foldl_cons, con_xor]
    exact crun_xor (con s x) (con t y) a b _ (by simpa using hl) rfl
  | [], _ :: _, _, h, _ => by simp at h
  | _ :: _, [], _, h, _ => by simp at h
theorem zip_zero : ∀ (l : List UInt8) (n : Nat), l.length = n → List.zipWith (· ^^^ ·) l (List.replicate n 0) = l
  | [], n, h => by simp at h; subst h; rfl
  | x :: l, 0, h => by simp at h
  | x :: l, n + 1, h => by simp [List.replicate_succ, zip_zero l n (by simpa using h)]
theorem not_xor_not' (x y : BitVec 32) : ~~~x ^^^ ~~~y = x ^^^ y := by
  apply BitVec.eq_of_getLsbD_eq
  intro i hi
  simp [hi]
/-- sums add -/
theorem csum_add (a b c : List UInt8) (n : Nat) (ha : a.length = n) (hb : b.length = n) (hc : c = List.zipWith (· ^^^ ·) a b) :
    csum c ^^^ csum (List.replicate n 0) = csum a ^^^ csum b := by
  have hcl : c.length = n := by rw [hc, List.length_zipWith]; omega
  have e1 := crun_xor ones ones a b c (by omega) hc
  have e2 := crun_xor ones ones c (List.replicate n 0) c (by simp [hcl]) (zip_zero c n hcl).symm
  have e3 : crun ones c ^^^ crun ones (List.replicate n 0) = crun ones a ^^^ crun ones b := by rw [← e2, e1]
  unfold csum
  rw [not_xor_not', not_xor_not', e3]
/-- a word as an integer: exclusive or -/
theorem xor_i64 (x y : BitVec 32) : bits .xor .i64 (x.toNat : Int) (y.toNat : Int) = ((x ^^^ y).toNat : Int) := by
  have hx := x.isLt
  have hy := y.isLt
  have hxy := (x ^^^ y).isLt
  unfold bits
  have h : (BitVec.ofInt 64 (x.toNat : Int) ^^^ BitVec.ofInt 64 (y.toNat : Int)).toNat = (x ^^^ y).toNat := by
    rw [BitVec.toNat_xor, BitVec.toNat_xor, BitVec.ofInt_natCast, BitVec.ofInt_natCast, BitVec.toNat_ofNat, BitVec.toNat_ofNat, Nat.mod_eq_of_lt (by omega), Nat.mod_eq_of_lt (by omega)]
  show IntKind.i64.wrap (((BitVec.ofInt 64 (x.toNat : Int) ^^^ BitVec.ofInt 64 (y.toNat : Int)).toNat : Nat) : Int) = _
  rw [h, IntKind.wrap_i64]
  omega
theorem xor_u32 (x y : BitVec 32) : bits .xor .u32 (x.toNat : Int) (y.toNat : Int) = ((x ^^^ y).toNat : Int) := by
  have hxy := (x ^^^ y).isLt
  unfold bits
  have h : (BitVec.ofInt 32 (x.toNat : Int) ^^^ BitVec.ofInt 32 (y.toNat : Int)).toNat = (x ^^^ y).toNat := by
    rw [BitVec.ofInt_natCast, BitVec.ofInt_natCast, BitVec.ofNat_toNat, BitVec.ofNat_toNat, BitVec.setWidth_eq, BitVec.setWidth_eq]
  show IntKind.u32.wrap (((BitVec.ofInt 32 (x.toNat : Int) ^^^ BitVec.ofInt 32 (y.toNat : Int)).toNat : Nat) : Int) = _
  rw [h]
  generalize (x ^^^ y).toNat = n at *
  simp [IntKind.wrap, IntKind.bits, IntKind.signed]
  omega
theorem xor_byte (x y : UInt8) : bits .xor .u8 (x.toNat : Int) (y.toNat : Int) = ((x ^^^ y).toNat : Int) := by
  have hx := x.toNat_lt
  have hy := y.toNat_lt
  have hxy := (x ^^^ y).toNat_lt
  unfold bits
  have h : (BitVec.ofInt 8 (x.toNat : Int) ^^^ BitVec.ofInt 8 (y.toNat : Int)).toNat = (x ^^^ y).toNat := by
    rw [BitVec.toNat_xor, BitVec.ofInt_natCast, BitVec.ofInt_natCast, BitVec.toNat_ofNat, BitVec.toNat_ofNat, Nat.mod_eq_of_lt (by omega), Nat.mod_eq_of_lt (by omega), UInt8.toNat_xor]
  show IntKind.u8.wrap (((BitVec.ofInt 8 (x.toNat : Int) ^^^ BitVec.ofInt 8 (y.toNat : Int)).toNat : Nat) : Int) = _
  rw [h]
  generalize (x ^^^ y).toNat = n at *
  simp [IntKind.wrap, IntKind.bits, IntKind.signed]
  omega
theorem low_u32 (x : BitVec 32) : bits .and .u32 (x.toNat : Int) 1 = (if x.getLsbD 0 then 1 else 0) := by
  unfold bits
  have h : (BitVec.ofInt 32 (x.toNat : Int) &&& BitVec.ofInt 32 1).toNat = x.toNat % 2 := by
    rw [BitVec.ofInt_natCast, BitVec.ofNat_toNat, BitVec.setWidth_eq, BitVec.toNat_and]
    have e : (BitVec.ofInt 32 1).toNat = 2 ^ 1 - 1 := by decide
    rw [e, Nat.and_two_pow_sub_one_eq_mod]
  show IntKind.u32.wrap (((BitVec.ofInt 32 (x.toNat : Int) &&& BitVec.ofInt 32 1).toNat : Nat) : Int) = _
  rw [h]
  have e2 : x.getLsbD 0 = decide (x.toNat % 2 = 1) := by
    rw [BitVec.getLsbD, Nat.testBit_zero]
  rw [e2]
  simp [IntKind.wrap, IntKind.bits, IntKind.signed]
  split <;> omega
end Pl
end Go.Proofs.YthbcdpckckellaaDoor
