import Derived.Test.YthbcdpckckellaaDoorBackS
/-! What is said back comes as it was: in plain Lean. -/
namespace Go.Proofs.YthbcdpckckellaaDoor
open Go.RowKit
set_option linter.unusedVariables false
set_option linter.unusedSimpArgs false
namespace Pl
theorem backF_zero {k t val : Int} {A : List Int} (h : backF k t val A = 0) : backHead k t val ∧ decide (k = 1) = decide (0 < A.length) ∧ A.Pairwise (fun x y => x < y) ∧ pairF A = 0 := by
  unfold backF at h
  split at h
  · rename_i hh
    split at h
    · cases h
    · rename_i hn
      refine ⟨hh, ?_, ?_, h⟩
      · exact Decidable.byContradiction fun q => hn (.inl q)
      · exact Decidable.byContradiction fun q => hn (.inr q)
  · cases h
theorem byte_small {k : Int} (h : 0 ≤ k ∧ k ≤ 255) : ((byteAt k 0).toNat : Int) = k := by
  rw [byteAt_toNat, show (256 : Int) ^ 0 = 1 by decide]; omega
theorem prBytes_at {L : List Pr} {r : Nat} (h : r < L.length) : ((prBytes L).drop (r * 4)).take 4 = putB L[r].base 2 ++ putB L[r].mask 2 := by
  induction L generalizing r with
  | nil => simp at h
  | cons p s ih =>
    have e : prBytes (p :: s) = (putB p.base 2 ++ putB p.mask 2) ++ prBytes s := by unfold prBytes; rw [List.flatMap_cons]
    have hl : (putB p.base 2 ++ putB p.mask 2).length = 4 := by simp [putB_length]
    rw [e]
    cases r with
    | zero =>
      rw [Nat.zero_mul, List.drop_zero, List.take_append_of_le_length (by omega), List.take_of_length_le (by omega)]
      rfl
    | succ r =>
      rw [show (r + 1) * 4 = (putB p.base 2 ++ putB p.mask 2).length + r * 4 by omega, List.drop_append, List.drop_eq_nil_of_le (by omega), List.nil_append, Nat.add_sub_cancel_left]
      exact ih (by simpa using h)
theorem prsOf_back {k t val : Int} {L : List Pr} (hk : k = 1) (hL : ∀ p ∈ L, Seq16 p.base ∧ Seq16 p.mask) : prsOf (backBytes k t val L) = L := by
  subst hk
  have e : backBytes 1 t val L = [byteAt 1 0, byteAt t 0] ++ prBytes L := by unfold backBytes; rw [if_neg (by decide), if_neg (by decide)]
  rw [e]
  unfold prsOf
  have hlen : (([byteAt 1 0, byteAt t 0] ++ prBytes L).length - 2) / 4 = L.length := by
    rw [List.length_append, prBytes_len]
    simp
  rw [hlen]
  apply List.ext_getElem
  · simp
  · intro r h1 h2
    rw [List.getElem_map, List.getElem_range]
    unfold prAt
    have hd : ([byteAt 1 0, byteAt t 0] ++ prBytes L).drop (2 + r * 4) = (prBytes L).drop (r * 4) := by
      rw [← List.drop_drop]
      rfl
    rw [hd, prBytes_at h2]
    obtain ⟨q1, q2⟩ := hL L[r] (List.getElem_mem _)
    have e1 : (putB L[r].base 2 ++ putB L[r].mask 2).take 2 = putB L[r].base 2 := by
      rw [List.take_append_of_le_length (by simp [putB_length]), List.take_of_length_le (by simp [putB_length])]
    have e2 : (putB L[r].base 2 ++ putB L[r].mask 2).drop 2 = putB L[r].mask 2 := by
      rw [List.drop_append, List.drop_eq_nil_of_le (by simp [putB_length])]
      simp [putB_length]
    rw [e1, e2]
    unfold Seq16 at q1 q2
    rw [getB_putB' 2 _ q1.1 (by have : (256 : Int) ^ 2 = 65536 := by decide
                                omega), getB_putB' 2 _ q2.1 (by have : (256 : Int) ^ 2 = 65536 := by decide
                                                                omega)]
theorem rises_same : ∀ {A B : List Int}, A.Pairwise (fun x y => x < y) → B.Pairwise (fun x y => x < y) → (∀ i, i ∈ A ↔ i ∈ B) → A = B
  | [], [], _, _, _ => rfl
  | [], y :: B, _, _, h => absurd ((h y).2 (.head _)) (by simp)
  | x :: A, [], _, _, h => absurd ((h x).1 (.head _)) (by simp)
  | x :: A, y :: B, hA, hB, h => by
    obtain ⟨a1, a2⟩ := List.pairwise_cons.1 hA
    obtain ⟨b1, b2⟩ := List.pairwise_cons.1 hB
    have e : x = y := by
      rcases List.mem_cons.1 ((h x).1 (.head _)) with q | q
      · exact q
      · rcases List.mem_cons.1 ((h y).2 (.head _)) with q' | q'
        · exact q'.symm
        · have := a1 y q'; have := b1 x q; omega
    subst e
    rw [rises_same a2 b2 fun z => ⟨fun hz => by
      rcases List.mem_cons.1 ((h z).1 (.tail _ hz)) with q | q
      · subst q; have := a1 z hz; omega
      · exact q, fun hz => by
      rcases List.mem_cons.1 ((h z).2 (.tail _ hz)) with q | q
      · subst q; have := b1 z hz; omega
      · exact q⟩]
/-- what was said is read as it was -/
theorem back_read {k t val : Int} {A : List Int} {L : List Pr} (hF : backF k t val A = 0) (hL : PairsOf (· ∈ A) L) (hle : L.length ≤ A.length) :
    rdSize (backBytes k t val L) ≤ (backBytes k t val L).length ∧ ∀ k' t' A' val', RdX (backBytes k t val L) k' t' A' val' → k' = k ∧ t' = t ∧ A' = A ∧ val' = val := by
  obtain ⟨⟨k1, k3, t1, t8, v0, vm⟩, hd, hr, hp⟩ := backF_zero hF
  have hA16 := pairF_all hp
  have hLS : ∀ p ∈ L, Seq16 p.base ∧ Seq16 p.mask := fun p hpp => by
    obtain ⟨a1, a2, a3, _⟩ := hL.ok p hpp
    exact ⟨hA16 _ a1, a2, a3⟩
  have hg0 : ((backBytes k t val L).getD 0 0) = byteAt k 0 := rfl
  have hg1 : ((backBytes k t val L).getD 1 0) = byteAt t 0 := rfl
  have hk := byte_small (k := k) ⟨by omega, by omega⟩
  have ht := byte_small (k := t) ⟨by omega, by omega⟩
  have hlen : (backBytes k t val L).length = 2 + (if k = 2 then 1 else if k = 3 then 4 else 4 * L.length) := by
    unfold backBytes
    rw [List.length_append]
    split
    · rfl
    · split
      · rw [putB_length]; rfl
      · rw [prBytes_len]; rfl
  have h2 : ¬ (backBytes k t val L).length < 2 := by omega
  have hkk : k = 1 ∨ k = 2 ∨ k = 3 := by omega
  rcases hkk with rfl | rfl | rfl
  · rw [if_neg (by decide), if_neg (by decide)] at hlen
    have hA0 : 0 < A.length := by simpa using hd.symm
    have hL0 : 0 < L.length := by
      obtain ⟨p, hp1, _⟩ := hL.cov A[0] (List.getElem_mem _)
      exact List.length_pos_of_mem hp1
    refine ⟨?_, fun k' t' A' val' h => ?_⟩
    · unfold rdSize
      rw [if_neg h2, hg0, if_pos (by omega), hlen]
      omega
    · have e1 : k' = 1 := by rw [h.kind, hg0]; exact hk
      have e2 : t' = t := by rw [h.track, hg1]; exact ht
      subst e1 e2
      have hv : val = 0 := by have : most 1 = 0 := by decide
                              omega
      have hv' : val' = 0 := by rw [h.value, if_neg (by decide)]
      refine ⟨rfl, rfl, ?_, by rw [hv, hv']⟩
      have hlo := h.lost
      rw [if_pos rfl, prsOf_back rfl hLS] at hlo
      have hn := hL.fault hp hle
      rcases hlo with ⟨q, _⟩ | ⟨_, q1, q2⟩
      · exact absurd hn q
      · exact rises_same q1 hr fun i => by rw [q2, hL.mem]
  · rw [if_pos rfl] at hlen
    have hA0 : A = [] := by
      have : ¬ 0 < A.length := by simpa using hd.symm
      exact List.eq_nil_of_length_eq_zero (by omega)
    have hs : rdSize (backBytes 2 t val L) = 3 := by
      unfold rdSize
      rw [if_neg h2, hg0, if_neg (by omega), if_pos (by omega)]
    refine ⟨by rw [hs, hlen]; decide, fun k' t' A' val' h => ?_⟩
    have e1 : k' = 2 := by rw [h.kind, hg0]; exact hk
    have e2 : t' = t := by rw [h.track, hg1]; exact ht
    subst e1 e2
    have hlo := h.lost
    rw [if_neg (by decide)] at hlo
    refine ⟨rfl, rfl, by rw [hlo, hA0], ?_⟩
    rw [h.value, if_pos (.inl rfl), hs]
    have hm : most 2 = 3 := by decide
    have hb := byte_small (k := val) ⟨by omega, by omega⟩
    have e : (backBytes 2 t' val L).take 3 = [byteAt 2 0, byteAt t' 0, byteAt val 0] := rfl
    rw [e]
    show getB [byteAt val 0] = val
    unfold getB
    simp only [List.foldl_cons, List.foldl_nil]
    omega
  · rw [if_neg (by decide), if_pos rfl] at hlen
    have hA0 : A = [] := by
      have : ¬ 0 < A.length := by simpa using hd.symm
      exact List.eq_nil_of_length_eq_zero (by omega)
    have hs : rdSize (backBytes 3 t val L) = 6 := by
      unfold rdSize
      rw [if_neg h2, hg0, if_neg (by omega), if_neg (by omega), if_pos (by omega)]
    refine ⟨by rw [hs, hlen]; decide, fun k' t' A' val' h => ?_⟩
    have e1 : k' = 3 := by rw [h.kind, hg0]; exact hk
    have e2 : t' = t := by rw [h.track, hg1]; exact ht
    subst e1 e2
    have hlo := h.lost
    rw [if_neg (by decide)] at hlo
    refine ⟨rfl, rfl, by rw [hlo, hA0], ?_⟩
    rw [h.value, if_pos (.inr rfl), hs]
    have hm : most 3 = 1000000 := by decide
    have e : ((backBytes 3 t' val L).take 6).drop 2 = putB val 4 := by
      rw [List.take_of_length_le (by omega)]
      rfl
    rw [e]
    exact getB_putB' 4 val v0 (by have : (256 : Int) ^ 4 = 4294967296 := by decide
                                  omega)
end Pl
end Go.Proofs.YthbcdpckckellaaDoor
