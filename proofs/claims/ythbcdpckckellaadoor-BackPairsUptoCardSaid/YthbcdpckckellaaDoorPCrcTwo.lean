import Derived.Test.YthbcdpckckellaaDoorPCrc
import Derived.Test.YthbcdpckckellaaDoorPBytes
/-! Plain facts on sums (chapter 2), the second part: sums of parts, what a changed byte does. No program in sight. -/
namespace Go.Proofs.YthbcdpckckellaaDoor
set_option linter.unusedVariables false
set_option linter.unusedSimpArgs false
namespace Pl
def cN : Nat → BitVec 32 → BitVec 32
  | 0, s => s
  | n + 1, s => cN n (cshift s)
theorem cshift_zero : cshift 0 = 0 := by decide
theorem cN_xor : ∀ (n : Nat) (s t : BitVec 32), cN n (s ^^^ t) = cN n s ^^^ cN n t
  | 0, _, _ => rfl
  | n + 1, s, t => by show cN n (cshift (s ^^^ t)) = _; rw [cshift_xor, cN_xor n]; rfl
theorem con_shift (s t : BitVec 32) (c : UInt8) : con (s ^^^ t) c = con s c ^^^ cshift t := by
  unfold con
  rw [← cshift_xor]
  congr 1
  ac_rfl
theorem crun_shift : ∀ (b : List UInt8) (s t : BitVec 32), crun (s ^^^ t) b = crun s b ^^^ cN b.length t
  | [], _, _ => rfl
  | c :: b, s, t => by
    show crun (con (s ^^^ t) c) b = crun (con s c) b ^^^ cN b.length (cshift t)
    rw [con_shift, crun_shift b]
theorem crun_append (s : BitVec 32) (a b : List UInt8) : crun s (a ++ b) = crun (crun s a) b := by unfold crun; rw [List.foldl_append]
theorem ones_xor (s : BitVec 32) : ones ^^^ s = ~~~ s := by rw [show ones = BitVec.allOnes 32 from rfl, BitVec.allOnes_xor]
theorem not_eq_ones (s : BitVec 32) : ~~~ s = ones ^^^ s := (ones_xor s).symm
/-- the sum of the whole is that of its parts -/
theorem csum_append (a b : List UInt8) : csum (a ++ b) = csum b ^^^ cN b.length (csum a) := by
  have h : crun ones a = ones ^^^ csum a := by rw [ones_xor, csum, BitVec.not_not]
  have h2 : csum (a ++ b) = ones ^^^ (crun ones b ^^^ cN b.length (csum a)) := by
    show ~~~ crun ones (a ++ b) = _
    rw [crun_append, h, crun_shift, not_eq_ones]
  rw [h2, ← BitVec.xor_assoc, ones_xor]
  rfl
/-- .. and read on -/
theorem csum_more (a b : List UInt8) : ~~~ crun (~~~ csum a) b = csum (a ++ b) := by
  unfold csum; rw [crun_append, BitVec.not_not]

/-! what a changed byte does -/
theorem cstep_zero (s : BitVec 32) (h : cstep s = 0) : s = 0 := by
  unfold cstep at h
  have hs := s.isLt
  cases hb : s.getLsbD 0
  · rw [hb] at h
    have h1 : (s >>> 1).toNat = 0 := by rw [if_neg (by decide)] at h; rw [h]; rfl
    rw [BitVec.toNat_ushiftRight, Nat.shiftRight_eq_div_pow] at h1
    have h2 : ¬ s.toNat % 2 = 1 := by
      rw [BitVec.getLsbD, Nat.testBit_zero] at hb
      simpa using hb
    apply BitVec.eq_of_toNat_eq
    show s.toNat = 0
    omega
  · rw [hb] at h
    exfalso
    have h1 : s >>> 1 = 3988292384#32 := by
      rw [if_pos rfl] at h
      have h3 := congrArg (fun x => x ^^^ 3988292384#32) h
      simp only [BitVec.xor_assoc, BitVec.xor_self, BitVec.xor_zero] at h3
      rw [h3]; rfl
    have h2 := congrArg BitVec.toNat h1
    rw [BitVec.toNat_ushiftRight, Nat.shiftRight_eq_div_pow] at h2
    have h4 : (3988292384#32 : BitVec 32).toNat = 3988292384 := rfl
    omega
theorem cIter_zero (n : Nat) (s : BitVec 32) (h : cIter n s = 0) : s = 0 := by
  induction n with
  | zero => exact h
  | succ n ih => exact ih (cstep_zero _ h)
theorem cshift_null (s : BitVec 32) (h : cshift s = 0) : s = 0 := cIter_zero 8 s h
theorem cN_null : ∀ (n : Nat) (s : BitVec 32), cN n s = 0 → s = 0
  | 0, _, h => h
  | n + 1, s, h => cshift_null s (cN_null n _ h)
theorem xor_null {s t : BitVec 32} (h : s ^^^ t = 0) : s = t := by
  have h3 := congrArg (fun x => x ^^^ t) h
  simp only [BitVec.xor_assoc, BitVec.xor_self, BitVec.xor_zero] at h3
  rw [h3]; exact BitVec.zero_xor
theorem xor_null8 {s t : UInt8} (h : s ^^^ t = 0) : s = t := by
  have h3 := congrArg (fun x => x ^^^ t) h
  simpa [UInt8.xor_assoc] using h3
theorem crun_diff (q : List UInt8) (s t : BitVec 32) : crun s q ^^^ crun t q = cN q.length (s ^^^ t) := by
  have h := crun_shift q s (s ^^^ t)
  rw [← BitVec.xor_assoc, BitVec.xor_self, BitVec.zero_xor] at h
  rw [h, ← BitVec.xor_assoc, BitVec.xor_self, BitVec.zero_xor]
theorem con_diff (s : BitVec 32) (c d : UInt8) : con s c ^^^ con s d = cshift (BitVec.ofNat 32 (c ^^^ d).toNat) := by
  have h := con_xor s s c d
  rw [BitVec.xor_self] at h
  rw [← h]
  unfold con
  rw [BitVec.zero_xor]
theorem tab : (List.range 256).all (fun m => m == 0 || ((cshift (BitVec.ofNat 32 m)).toNat % 16777216 != 0 && decide (256 ≤ (cshift (BitVec.ofNat 32 m)).toNat))) = true := by decide +kernel
theorem tab_at (m : UInt8) (h : m ≠ 0) : (cshift (BitVec.ofNat 32 m.toNat)).toNat % 16777216 ≠ 0 ∧ 256 ≤ (cshift (BitVec.ofNat 32 m.toNat)).toNat := by
  have h1 := List.all_eq_true.1 tab m.toNat (List.mem_range.2 m.toNat_lt)
  have h0 : m.toNat ≠ 0 := fun e => h (UInt8.toNat_inj.1 e)
  simpa [h0] using h1
theorem ofNat_null (m : UInt8) (h : BitVec.ofNat 32 m.toNat = 0) : m = 0 := by
  have h1 := congrArg BitVec.toNat h
  have h2 := m.toNat_lt
  rw [BitVec.toNat_ofNat, Nat.mod_eq_of_lt (by omega)] at h1
  exact UInt8.toNat_inj.1 h1
theorem two (p q : List UInt8) (u v u' v' : UInt8) (h : csum (p ++ u :: v :: q) = csum (p ++ u' :: v' :: q)) : u = u' ∧ v = v' := by
  have h0 : crun ones (p ++ u :: v :: q) = crun ones (p ++ u' :: v' :: q) := by
    have := congrArg (fun x => ~~~ x) h
    simpa [csum] using this
  rw [crun_append, crun_append] at h0
  generalize crun ones p = t at h0
  have h1 : crun (con (con t u) v) q = crun (con (con t u') v') q := h0
  have h2 := crun_diff q (con (con t u) v) (con (con t u') v')
  rw [h1, BitVec.xor_self] at h2
  have h3 := cN_null _ _ h2.symm
  rw [← con_xor, con_diff] at h3
  unfold con at h3
  have h4 := xor_null (cshift_null _ h3)
  by_cases hm : u ^^^ u' = 0
  · rw [hm] at h4
    have h5 : BitVec.ofNat 32 (v ^^^ v').toNat = 0 := by rw [← h4]; decide
    exact ⟨xor_null8 hm, xor_null8 (ofNat_null _ h5)⟩
  · exfalso
    have h5 := (tab_at _ hm).2
    rw [h4, BitVec.toNat_ofNat, Nat.mod_eq_of_lt (by have := (v ^^^ v').toNat_lt; omega)] at h5
    have := (v ^^^ v').toNat_lt
    omega
theorem one (p : List UInt8) (u u' : UInt8) (h : ((csum (p ++ [u])).toNat : Int) % 16777216 = ((csum (p ++ [u'])).toNat : Int) % 16777216) : u = u' := by
  have e : csum (p ++ [u]) ^^^ csum (p ++ [u']) = cshift (BitVec.ofNat 32 (u ^^^ u').toNat) := by
    unfold csum
    rw [not_xor_not', crun_append, crun_append]
    exact con_diff _ u u'
  by_cases hm : u ^^^ u' = 0
  · exact xor_null8 hm
  · exfalso
    refine (tab_at _ hm).1 ?_
    rw [← e, BitVec.toNat_xor]
    generalize (csum (p ++ [u])).toNat = x at *
    generalize (csum (p ++ [u'])).toNat = y at *
    have h1 : x % 2 ^ 24 = y % 2 ^ 24 := by omega
    rw [show (16777216 : Nat) = 2 ^ 24 from rfl, Nat.xor_mod_two_pow, h1, Nat.xor_self]

/-- bytes that are sealed -/
def sealB (l : List UInt8) : List UInt8 := l ++ putB ((csum l).toNat : Int) 4
theorem sealB_length (l : List UInt8) : (sealB l).length = l.length + 4 := by simp [sealB, putB_length]
theorem sealB_take (l : List UInt8) (n : Nat) (h : n = l.length) : (sealB l).take n = l := by subst h; simp [sealB]
theorem sum_bd (l : List UInt8) : 0 ≤ ((csum l).toNat : Int) ∧ ((csum l).toNat : Int) < 4294967296 := by have := (csum l).isLt; omega
theorem split_two {b : List UInt8} {i : Nat} (h : i + 1 < b.length) : b = b.take i ++ b[i] :: b[i + 1] :: b.drop (i + 2) := by
  have h1 := List.take_append_drop i b
  rw [List.drop_eq_getElem_cons (by omega), List.drop_eq_getElem_cons h] at h1
  exact h1.symm
theorem split_one {b : List UInt8} {i : Nat} (h : i + 1 = b.length) : b = b.take i ++ [b[i]] := by
  have h1 := List.take_append_drop i b
  rw [List.drop_eq_getElem_cons (by omega), List.drop_of_length_le (by omega)] at h1
  exact h1.symm
theorem getElem?_sealB_lo {l : List UInt8} {j : Nat} (h : j < l.length) : (sealB l)[j]? = l[j]? := by unfold sealB; rw [List.getElem?_append_left h]
theorem getElem?_sealB_hi {l : List UInt8} {j : Nat} : (sealB l)[l.length + j]? = (putB ((csum l).toNat : Int) 4)[j]? := by
  unfold sealB
  rw [List.getElem?_append_right (by omega)]
  congr 1
  omega
/-- of two bytes next to each other that were changed it is told -/
theorem sealB_told (b c : List UInt8) (i : Nat) (hl : b.length = c.length) (hi : i < b.length + 4) (h : ∀ j, j ≠ i → j ≠ i + 1 → (sealB b)[j]? = (sealB c)[j]?) : sealB b = sealB c := by
  have hbc : b = c := by
    by_cases h1 : i + 1 < b.length
    · have e1 : b.take i = c.take i := by
        apply List.ext_getElem?
        intro j
        by_cases hj : j < i
        · rw [List.getElem?_take, List.getElem?_take, if_pos hj, if_pos hj, ← getElem?_sealB_lo (l := b) (by omega), ← getElem?_sealB_lo (l := c) (by omega)]
          exact h j (by omega) (by omega)
        · rw [List.getElem?_take, List.getElem?_take, if_neg hj, if_neg hj]
      have e2 : b.drop (i + 2) = c.drop (i + 2) := by
        apply List.ext_getElem?
        intro j
        rw [List.getElem?_drop, List.getElem?_drop]
        by_cases hj : i + 2 + j < b.length
        · rw [← getElem?_sealB_lo (l := b) (by omega), ← getElem?_sealB_lo (l := c) (by omega)]
          exact h _ (by omega) (by omega)
        · rw [List.getElem?_eq_none (by omega), List.getElem?_eq_none (by omega)]
      have e3 : putB ((csum b).toNat : Int) 4 = putB ((csum c).toNat : Int) 4 := by
        apply List.ext_getElem?
        intro j
        rw [← getElem?_sealB_hi, ← getElem?_sealB_hi, ← hl]
        exact h _ (by omega) (by omega)
      have e4 := putB_inj (sum_bd b).1 (by have := (sum_bd b).2; simpa using this) (sum_bd c).1 (by have := (sum_bd c).2; simpa using this) e3
      have e5 : csum b = csum c := BitVec.eq_of_toNat_eq (by omega)
      have s1 := split_two h1
      have s2 := split_two (b := c) (i := i) (by omega)
      rw [← e1, ← e2] at s2
      rw [s1, s2] at e5
      have e6 := two _ _ _ _ _ _ e5
      rw [s1, s2, e6.1, e6.2]
    · by_cases h2 : i + 1 = b.length
      · have e1 : b.take i = c.take i := by
          apply List.ext_getElem?
          intro j
          by_cases hj : j < i
          · rw [List.getElem?_take, List.getElem?_take, if_pos hj, if_pos hj, ← getElem?_sealB_lo (l := b) (by omega), ← getElem?_sealB_lo (l := c) (by omega)]
            exact h j (by omega) (by omega)
          · rw [List.getElem?_take, List.getElem?_take, if_neg hj, if_neg hj]
        have f : ∀ k, k < 3 → byteAt ((csum b).toNat : Int) (2 - k) = byteAt ((csum c).toNat : Int) (2 - k) := by
          intro k hk
          have h3 := h (b.length + (k + 1)) (by omega) (by omega)
          rw [getElem?_sealB_hi, hl, getElem?_sealB_hi] at h3
          have hk' : k = 0 ∨ k = 1 ∨ k = 2 := by omega
          rcases hk' with rfl | rfl | rfl <;> simpa [putB] using h3
        have g : ∀ k, k < 3 → ((csum b).toNat : Int) / (256 : Int) ^ (2 - k) % 256 = ((csum c).toNat : Int) / (256 : Int) ^ (2 - k) % 256 := by
          intro k hk
          rw [← byteAt_toNat, ← byteAt_toNat, f k hk]
        have g0 := g 0 (by omega)
        have g1 := g 1 (by omega)
        have g2 := g 2 (by omega)
        simp only [Nat.sub_zero, Nat.reduceSub] at g0 g1 g2
        rw [show (256 : Int) ^ 2 = 65536 by decide] at g0
        rw [show (256 : Int) ^ 1 = 256 by decide] at g1
        rw [show (256 : Int) ^ 0 = 1 by decide] at g2
        have s1 := split_one h2
        have s2 := split_one (b := c) (i := i) (by omega)
        rw [← e1] at s2
        have e6 := one (b.take i) b[i] c[i] (by rw [← s1, ← s2]; omega)
        rw [s1, s2, e6]
      · apply List.ext_getElem?
        intro j
        by_cases hj : j < b.length
        · rw [← getElem?_sealB_lo (l := b) (by omega), ← getElem?_sealB_lo (l := c) (by omega)]
          exact h j (by omega) (by omega)
        · rw [List.getElem?_eq_none (by omega), List.getElem?_eq_none (by omega)]
  rw [hbc]
/-- .. in bytes that were sealed -/
theorem sealed_told (b y : List UInt8) (i : Nat) (hl : y.length = b.length + 4) (hi : i < b.length + 4) (hne : y ≠ sealB b) (h : ∀ j, j ≠ i → j ≠ i + 1 → y[j]? = (sealB b)[j]?) : sealB (y.take b.length) ≠ y := by
  intro e
  refine hne ?_
  have h1 : (y.take b.length).length = b.length := by simp; omega
  have h2 := sealB_told b (y.take b.length) i h1.symm hi (fun j h3 h4 => by rw [e]; exact (h j h3 h4).symm)
  rw [h2, e]
end Pl
end Go.Proofs.YthbcdpckckellaaDoor
