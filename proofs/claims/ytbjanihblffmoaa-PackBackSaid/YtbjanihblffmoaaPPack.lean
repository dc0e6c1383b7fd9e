import Derived.Test.YtbjanihblffmoaaPackE
import Derived.Test.YtbjanihblffmoaaReadGood
/-! What is packed is read again; plain. -/
namespace Go.Proofs.Ytbjanihblffmoaa
open Go.RowKit
set_option linter.unusedVariables false
set_option linter.unusedSimpArgs false
namespace Pl
theorem head_layer (l : Int) (st : Bool) (h1 : 0 ≤ l) (h2 : l ≤ 3) : rdLayer (byteAt (pkHead l st) 0) = l ∧ rdStart (byteAt (pkHead l st) 0) = st ∧ bits .andNot .u8 ((byteAt (pkHead l st) 0).toNat : Int) 32 ≤ 131 ∧ 128 ≤ ((byteAt (pkHead l st) 0).toNat : Int) := by
  have h : l = 0 ∨ l = 1 ∨ l = 2 ∨ l = 3 := by omega
  rcases h with rfl | rfl | rfl | rfl <;> cases st <;> decide +kernel
theorem byte_back (a : UInt8) (h1 : bits .andNot .u8 (a.toNat : Int) 32 ≤ 131) (h2 : 128 ≤ (a.toNat : Int)) : byteAt (pkHead (rdLayer a) (rdStart a)) 0 = a ∧ 0 ≤ rdLayer a ∧ rdLayer a ≤ 3 := by
  have key : ∀ n : Fin 256, bits .andNot .u8 ((UInt8.ofNat n.1).toNat : Int) 32 ≤ 131 → 128 ≤ ((UInt8.ofNat n.1).toNat : Int) → byteAt (pkHead (rdLayer (UInt8.ofNat n.1)) (rdStart (UInt8.ofNat n.1))) 0 = UInt8.ofNat n.1 ∧ 0 ≤ rdLayer (UInt8.ofNat n.1) ∧ rdLayer (UInt8.ofNat n.1) ≤ 3 := by decide +kernel
  have := key ⟨a.toNat, by have := a.toNat_lt; omega⟩
  simp only [UInt8.ofNat_toNat] at this
  exact this h1 h2
theorem byte_self (b : UInt8) (h : (b.toNat : Int) ≤ 127) : byteAt (b.toNat : Int) 0 = b := by
  apply UInt8.toNat_inj.1
  have := byteAt_toNat (b.toNat : Int) 0
  rw [show (256 : Int) ^ 0 = 1 by decide] at this
  omega
theorem pk_parts (s t l lv : Int) (st : Bool) (b : List UInt8) : bAt (pkBytes s t l lv st b) 0 = byteAt (pkHead l st) 0 ∧ bAt (pkBytes s t l lv st b) 1 = byteAt lv 0 ∧ ((pkBytes s t l lv st b).drop 2).take 2 = putB s 2 ∧ ((pkBytes s t l lv st b).drop 4).take 4 = putB t 4 ∧ (pkBytes s t l lv st b).drop 8 = b := by
  refine ⟨?_, ?_, ?_, ?_, ?_⟩ <;> simp [pkBytes, putB, bAt]
/-- what is packed reads as it was -/
theorem pk_read (s t l lv : Int) (st : Bool) (b : List UInt8) (h : pkOk s t l lv b.length) : readFault (pkBytes s t l lv st b) = 0 ∧ getB (((pkBytes s t l lv st b).drop 2).take 2) = s ∧ getB (((pkBytes s t l lv st b).drop 4).take 4) = t ∧ rdLayer (bAt (pkBytes s t l lv st b) 0) = l ∧ ((bAt (pkBytes s t l lv st b) 1).toNat : Int) = lv ∧ rdStart (bAt (pkBytes s t l lv st b) 0) = st ∧ (pkBytes s t l lv st b).drop 8 = b := by
  obtain ⟨h1, h2, h3, h4, h5, h6, h7, h8, h9⟩ := h
  obtain ⟨p0, p1, p2, p3, p4⟩ := pk_parts s t l lv st b
  obtain ⟨q1, q2, q3, q4⟩ := head_layer l st h5 h6
  have hl := pkBytes_length s t l lv st b
  have e0 : (pkBytes s t l lv st b).getD 0 0 = byteAt (pkHead l st) 0 := p0
  have e1 : (pkBytes s t l lv st b).getD 1 0 = byteAt lv 0 := p1
  have hlv := byte_lv lv h7 h8
  have hb : headBad (byteAt (pkHead l st) 0) (byteAt lv 0) = false := by
    unfold headBad
    simp only [Bool.or_eq_false_iff, decide_eq_false_iff_not]
    omega
  refine ⟨?_, ?_, ?_, by rw [p0]; exact q1, by rw [p1]; exact hlv.symm, by rw [p0]; exact q2, p4⟩
  · unfold readFault
    rw [if_neg (by omega), e0, e1, hb, if_neg (by simp), if_neg (by omega)]
  · rw [p2]; exact getB_putB' 2 s h1 (by omega)
  · rw [p3]; exact getB_putB' 4 t h3 (by omega)
theorem list_split (l : List UInt8) (h : 8 ≤ l.length) : l = [bAt l 0, bAt l 1] ++ (l.drop 2).take 2 ++ (l.drop 4).take 4 ++ l.drop 8 := by
  match l, h with
  | a :: b :: c :: d :: e :: f :: g :: i :: r, _ => simp [bAt]
/-- what is read packs as it was -/
theorem read_pk (l : List UInt8) (h : readFault l = 0) : pkBytes (getB ((l.drop 2).take 2)) (getB ((l.drop 4).take 4)) (rdLayer (bAt l 0)) ((bAt l 1).toNat : Int) (rdStart (bAt l 0)) (l.drop 8) = l ∧ pkOk (getB ((l.drop 2).take 2)) (getB ((l.drop 4).take 4)) (rdLayer (bAt l 0)) ((bAt l 1).toNat : Int) (l.drop 8).length := by
  obtain ⟨h8, h1008, hb⟩ := read_ok h
  obtain ⟨q1, q2, q3⟩ := headBad_no hb
  obtain ⟨b1, b2, b3⟩ := byte_back _ q1 q2
  have l2 : ((l.drop 2).take 2).length = 2 := by simp; omega
  have l4 : ((l.drop 4).take 4).length = 4 := by simp; omega
  have g2 := getB_bd ((l.drop 2).take 2)
  have g4 := getB_bd ((l.drop 4).take 4)
  rw [l2] at g2
  rw [l4] at g4
  have e2 := putB_getB ((l.drop 2).take 2)
  have e4 := putB_getB ((l.drop 4).take 4)
  rw [l2] at e2
  rw [l4] at e4
  refine ⟨?_, ?_⟩
  · unfold pkBytes
    rw [b1, byte_self _ q3, e2, e4]
    exact (list_split l h8).symm
  · have := byte_bound (bAt l 1)
    refine ⟨g2.1, by omega, g4.1, by omega, b2, b3, by omega, q3, by rw [List.length_drop]; omega⟩
end Pl
/-- all the parts are the whole -/
theorem chunks_all (k : Nat) (hk : 0 < k) (bs : List UInt8) (n : Nat) : ((List.range n).map (fun i => (bs.drop (i * k)).take k)).flatten = bs.take (n * k) := by
  induction n with
  | zero => simp
  | succ n ih =>
    rw [List.range_succ, List.map_append, List.flatten_append, ih]
    simp only [List.map_cons, List.map_nil, List.flatten_cons, List.flatten_nil, List.append_nil]
    rw [Nat.add_mul, Nat.one_mul, ← List.take_add]
end Go.Proofs.Ytbjanihblffmoaa
