import Derived.Test.YthbcdpckckellaaDoorPCrcTwo
import Derived.Test.YthbcdpckckellaaDoorCrc
import Derived.Deep.MidRow
import Derived.Deep.DeepCutAuto
/-! Plain facts on sums (chapter 2), the third part: sums joined, by a table of what becomes of each bit. No program in sight. -/
namespace Go.Proofs.YthbcdpckckellaaDoor
set_option linter.unusedVariables false
set_option linter.unusedSimpArgs false
namespace Pl
def ofK (f : Nat → BitVec 32) (s : BitVec 32) : Nat → BitVec 32
  | 0 => 0
  | k + 1 => if s.getLsbD k then ofK f s k ^^^ f k else ofK f s k
def low (s : BitVec 32) (k : Nat) : BitVec 32 := BitVec.ofNat 32 (s.toNat % 2 ^ k)
theorem low_bit (s : BitVec 32) (k i : Nat) : (low s k).getLsbD i = (decide (i < k) && s.getLsbD i) := by
  unfold low
  rw [BitVec.getLsbD_ofNat, Nat.testBit_mod_two_pow]
  by_cases h : i < 32
  · simp [h, BitVec.getLsbD]
  · have e : s.getLsbD i = false := BitVec.getLsbD_of_ge s i (by omega)
    simp [h, e]
theorem low_succ (s : BitVec 32) (k : Nat) (hk : k < 32) : low s (k + 1) = if s.getLsbD k then low s k ^^^ (1#32 <<< k) else low s k := by
  apply BitVec.eq_of_getLsbD_eq
  intro i hi
  rw [low_bit]
  have h1 : (1#32 <<< k).getLsbD i = decide (i = k) := by
    rw [BitVec.getLsbD_shiftLeft, BitVec.getLsbD_one]
    by_cases h : i = k
    · subst h; simp [hi]
    · by_cases h2 : i < k
      · simp [h, h2]
      · have : i - k ≠ 0 := by omega
        simp [h, this]
  cases hs : s.getLsbD k
  · rw [if_neg (by simp), low_bit]
    by_cases h : i = k
    · subst h; simp [hs]
    · have e : decide (i < k + 1) = decide (i < k) := by rw [decide_eq_decide]; omega
      rw [e]
  · rw [if_pos rfl, BitVec.getLsbD_xor, low_bit, h1]
    by_cases h : i = k
    · subst h; simp [hs]
    · have e : decide (i < k + 1) = decide (i < k) := by rw [decide_eq_decide]; omega
      rw [e]; simp [h]
theorem low_all (s : BitVec 32) : low s 32 = s := by
  apply BitVec.eq_of_getLsbD_eq
  intro i hi
  rw [low_bit]; simp [hi]
theorem ofK_lin (L : BitVec 32 → BitVec 32) (h0 : L 0 = 0) (hL : ∀ s t, L (s ^^^ t) = L s ^^^ L t) (f : Nat → BitVec 32) (hf : ∀ i, i < 32 → f i = L (1#32 <<< i)) (s : BitVec 32) : ∀ k, k ≤ 32 → ofK f s k = L (low s k)
  | 0, _ => by
    show (0 : BitVec 32) = L (low s 0)
    have : low s 0 = 0 := by unfold low; simp [Nat.mod_one]
    rw [this, h0]
  | k + 1, h => by
    have ih := ofK_lin L h0 hL f hf s k (by omega)
    rw [ofK, low_succ s k (by omega), ih, hf k (by omega)]
    cases s.getLsbD k
    · rfl
    · simp [hL]
theorem cN_zero : ∀ n, cN n 0 = 0
  | 0 => rfl
  | n + 1 => by rw [cN, cshift_zero, cN_zero n]
theorem cN_add : ∀ (m n : Nat) (s : BitVec 32), cN (m + n) s = cN n (cN m s)
  | 0, n, s => by rw [Nat.zero_add]; rfl
  | m + 1, n, s => by rw [show m + 1 + n = (m + n) + 1 by omega, cN, cN_add m n, cN]
/-- the table of so many bytes of zeros -/
def mat (e : Nat) (i : Nat) : BitVec 32 := cN e (1#32 <<< i)
theorem of_mat (e : Nat) (s : BitVec 32) : ofK (mat e) s 32 = cN e s := by
  rw [ofK_lin (cN e) (cN_zero e) (cN_xor e) (mat e) (fun i _ => rfl) s 32 (Nat.le_refl _), low_all]
theorem mat_one (i : Nat) : mat 1 i = cshift (1#32 <<< i) := rfl
theorem mat_twice (e i : Nat) : ofK (mat e) (mat e i) 32 = mat (e + e) i := by rw [of_mat, mat, mat, cN_add]
theorem join_odd (e n : Nat) (s : BitVec 32) (h : n % 2 = 1) : cN (e * n) s = cN ((e + e) * (n / 2)) (cN e s) := by
  rw [← cN_add]
  congr 1
  have : n = 2 * (n / 2) + 1 := by omega
  conv => lhs; rw [this]
  rw [Nat.mul_add, Nat.mul_one, ← Nat.mul_assoc, Nat.mul_two, Nat.add_comm]
theorem join_even (e n : Nat) (s : BitVec 32) (h : n % 2 = 0) : cN (e * n) s = cN ((e + e) * (n / 2)) s := by
  congr 1
  have : n = 2 * (n / 2) := by omega
  conv => lhs; rw [this]
  rw [← Nat.mul_assoc, Nat.mul_two]
/-- sums joined -/
def joinB (a b : BitVec 32) (n : Nat) : BitVec 32 := cN n a ^^^ b
theorem join_csum (a b : List UInt8) : joinB (csum a) (csum b) b.length = csum (a ++ b) := by
  unfold joinB; rw [csum_append, BitVec.xor_comm]
end Pl
end Go.Proofs.YthbcdpckckellaaDoor

/-! crc's matrices: in memory, and what one says of a word. -/
namespace Go.Proofs.YthbcdpckckellaaDoor
open Go.RowKit
set_option linter.unusedVariables false
set_option linter.unusedSimpArgs false
theorem abs_m {P : Program} {c : Code} {Q : Exit → Act → World → Prop} {a : Act} {W : World} (S : World → Prop) (h : S W) (k : ∀ wq, S wq → c.wp P Q a wq) : c.wp P Q a W := k W h
def encU (s : BitVec 32) : Value := .int .u32 (s.toNat : Int)
def matL (f : Nat → BitVec 32) : List Value := (List.range 32).map (fun i => encU (f i))
theorem matL_length (f : Nat → BitVec 32) : (matL f).length = 32 := by simp [matL]
theorem matL_at (f : Nat → BitVec 32) (i : Nat) (h : i < 32) : (matL f)[i]? = some (encU (f i)) := by simp [matL, h]
theorem matL_one (f : Nat → BitVec 32) : (matL f).toArray.all (·.oneCell') = true := all_oneCell_toArray (fun v hv => by
  obtain ⟨i, _, rfl⟩ := List.mem_map.1 hv; rfl)
/-- a matrix in memory -/
structure Mat (w : World) (G : Nat) (f : Nat → BitVec 32) : Prop where
  r : w.rangeAt G 0 (matL f)
  t : w.there G 0 32
theorem Mat.cell {w : World} {G : Nat} {f : Nat → BitVec 32} (h : Mat w G f) (k : Nat) (hk : k < 32) : w.cell? ⟨G, k, none⟩ = some (encU (f k)) := by
  have := h.r k _ (matL_at f k hk); rwa [Nat.zero_add] at this
theorem Mat.free {w : World} {G : Nat} {f : Nat → BitVec 32} (h : Mat w G f) (k : Nat) (hk : k < 32) : w.frozen? ⟨G, k, none⟩ = false := by
  have := (h.t k hk).2; rwa [Nat.zero_add] at this
theorem Mat.lt {w : World} {G : Nat} {f : Nat → BitVec 32} (h : Mat w G f) : G < w.heap.size := Sl.lt (a := ⟨G, 0, none⟩) (h.cell 0 (by omega))
theorem Mat.below {w w' : World} {B G : Nat} {f : Nat → BitVec 32} (h : Mat w G f) (k : Below B w w') (hB : G < B) : Mat w' G f :=
  ⟨fun j v hv => (k.cell hB).trans (h.r j v hv), fun j hj => ⟨by rw [k.cell (p := ⟨G, 0 + j, none⟩) hB]; exact (h.t j hj).1, by rw [World.frozen?_of_block (k.block G hB)]; exact (h.t j hj).2⟩⟩
theorem Mat.ext {w : World} {G : Nat} {f g : Nat → BitVec 32} (h : Mat w G f) (e : ∀ i, i < 32 → f i = g i) : Mat w G g := by
  have e2 : matL f = matL g := by unfold matL; exact List.map_congr_left (fun i hi => by rw [e i (List.mem_range.1 hi)])
  exact ⟨by rw [← e2]; exact h.r, h.t⟩
def upd (f : Nat → BitVec 32) (k : Nat) (v : BitVec 32) : Nat → BitVec 32 := fun i => if i = k then v else f i
theorem Mat.set {w : World} {G : Nat} {f : Nat → BitVec 32} (h : Mat w G f) (k : Nat) (hk : k < 32) (v : BitVec 32) : Mat (w.setCell ⟨G, k, none⟩ (encU v)) G (upd f k v) := by
  refine ⟨fun j u hj => ?_, fun j hj => ?_⟩
  · have hj32 : j < 32 := by have := (List.getElem?_eq_some_iff.1 hj).1; rw [matL_length] at this; exact this
    rw [matL_at _ j hj32] at hj
    cases hj
    rw [Nat.zero_add]
    by_cases e : j = k
    · subst e
      rw [World.cell?_setCell_same _ _ _ (h.cell j hj32), upd, if_pos rfl]
    · rw [World.cell?_setCell_other _ _ _ _ (by intro e2; cases e2; exact e rfl), h.cell j hj32, upd, if_neg e]
  · have h1 := h.t j hj
    refine ⟨?_, ?_⟩
    · obtain ⟨u, hu⟩ := Option.isSome_iff_exists.1 h1.1
      by_cases e : (⟨G, k, none⟩ : Addr) = ⟨G, 0 + j, none⟩
      · rw [← e, World.cell?_setCell_same _ _ _ (h.cell k hk)]; rfl
      · rw [World.cell?_setCell_other _ _ _ _ e, hu]; rfl
    · rw [World.frozen?_setCell]; exact h1.2
theorem Mat.store {w : World} {G : Nat} {f : Nat → BitVec 32} (h : Mat w G f) (g : Nat → BitVec 32) : Mat (w.setCells G 0 (matL g)) G g :=
  ⟨World.rangeAt_setCells_same w G 0 _ (by rw [matL_length]; exact h.t), World.there_setCells h.t G 0 _⟩
theorem Below.setCells {B : Nat} {a : World} (b : Nat) (hb : B ≤ b) : ∀ (vs : List Value) (o : Nat) (w : World), Below B a w → Below B a (w.setCells b o vs)
  | [], _, _, h => h
  | v :: r, o, w, h => Below.setCells b hb r (o + 1) _ (Below.setCell h hb v)
theorem Mat.of {w : World} {G : Nat} {f : Nat → BitVec 32} {cs : Array Value} {T : TypeId} (h : w.heap[G]? = some (.cells cs T (0, 0))) (e : cs.toList = matL f) : Mat w G f := by
  have hs : cs.size = 32 := by rw [← Array.length_toList, e, matL_length]
  refine ⟨fun j v hj => ?_, fun j hj => ⟨?_, obj_free h _⟩⟩
  · rw [Nat.zero_add]; exact obj_cell h (by rw [← e] at hj; simpa using hj)
  · rw [Nat.zero_add, obj_cell h (show cs[j]? = some cs[j] by simp [hs, hj])]; rfl
theorem infoU32 : (Tryd.prog.info? 100).map (·.size) = some 1 := by kernel_rfl
theorem shr_u32 (B : BitVec 32) (k : Nat) : ((B >>> k).toNat : Int) = (B.toNat : Int) / 2 ^ k := by
  have h : ((2 : Int) ^ k) = ((2 ^ k : Nat) : Int) := by simp
  rw [h, BitVec.toNat_ushiftRight, Nat.shiftRight_eq_div_pow]; simp
theorem shr_bit (B : BitVec 32) (k : Nat) : (B >>> k).getLsbD 0 = B.getLsbD k := by rw [BitVec.getLsbD_ushiftRight, Nat.add_zero]
theorem Pl.ofK_hi (f : Nat → BitVec 32) (s : BitVec 32) (k : Nat) (h : s.getLsbD k = true) : Pl.ofK f s (k + 1) = Pl.ofK f s k ^^^ f k := by rw [Pl.ofK, if_pos h]
theorem Pl.ofK_lo (f : Nat → BitVec 32) (s : BitVec 32) (k : Nat) (h : s.getLsbD k = false) : Pl.ofK f s (k + 1) = Pl.ofK f s k := by rw [Pl.ofK, if_neg (by rw [h]; decide)]
end Go.Proofs.YthbcdpckckellaaDoor

/-! crc.More, crc.Join. -/
namespace Go.Proofs.YthbcdpckckellaaDoor
open Go.RowKit
set_option linter.unusedVariables false
set_option linter.unusedSimpArgs false
/-- a sum read on -/
def Pl.moreI (s : BitVec 32) (l : List UInt8) : Int := ((~~~ Pl.crun (~~~ s) l).toNat : Int)
theorem Pl.moreI_csum (a b : List UInt8) : Pl.moreI (Pl.csum a) b = Pl.sumI (a ++ b) := by unfold Pl.moreI Pl.sumI; rw [Pl.csum_more]
theorem Pl.turn_raw (s : BitVec 32) : bits .xor .u32 IntKind.u32.max (s.toNat : Int) = ((~~~ s).toNat : Int) := by
  have h := Pl.xor_u32 4294967295#32 s
  rw [show (4294967295#32 : BitVec 32) ^^^ s = ~~~ s from by rw [show (4294967295#32 : BitVec 32) = BitVec.allOnes 32 from rfl, BitVec.allOnes_xor]] at h
  exact h
theorem Pl.shl_one (k : Nat) : (2 : Int) ^ k % 4294967296 = ((1#32 <<< k).toNat : Int) := by
  have h : ((2 : Int) ^ k) = ((2 ^ k : Nat) : Int) := by simp
  rw [h, BitVec.toNat_shiftLeft]
  simp [Nat.shiftLeft_eq]
theorem Pl.and_one (n : Nat) (hn : n ≤ 1000000) : bits .and .i64 (n : Int) 1 = ((n % 2 : Nat) : Int) := by
  unfold bits
  have h : (BitVec.ofInt 64 (n : Int) &&& BitVec.ofInt 64 1).toNat = n % 2 := by
    rw [BitVec.ofInt_natCast, BitVec.toNat_and, BitVec.toNat_ofNat, Nat.mod_eq_of_lt (by omega)]
    have e : (BitVec.ofInt 64 1).toNat = 2 ^ 1 - 1 := by decide
    rw [e, Nat.and_two_pow_sub_one_eq_mod]
  show IntKind.i64.wrap (((BitVec.ofInt 64 (n : Int) &&& BitVec.ofInt 64 1).toNat : Nat) : Int) = _
  rw [h, IntKind.wrap_i64]
  omega
theorem upd_mat (e k : Nat) (i : Nat) : upd (fun i => if i < k then Pl.mat e i else 0) k (Pl.mat e k) i = (fun i => if i < k + 1 then Pl.mat e i else 0) i := by
  unfold upd
  by_cases h : i = k
  · subst h; simp
  · by_cases h2 : i < k
    · simp [h, h2, Nat.lt_succ_of_lt h2]
    · have : ¬ i < k + 1 := by omega
      simp [h, h2, this]
theorem csum_shape (l : List UInt8) : Pl.sumI l = ((Pl.csum l).toNat : Int) := rfl
end Go.Proofs.YthbcdpckckellaaDoor
