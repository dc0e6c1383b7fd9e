import Derived.Test.YtefhbjkhmfmkaaaDoorVoiceF
import Derived.Test.YtefhbjkhmfmkaaaDoorPVoiceB
/-! voice.Hear where nothing is wrong. -/
namespace Go.Proofs.YtefhbjkhmfmkaaaDoor
open Go.RowKit
set_option linter.unusedVariables false
set_option linter.unusedSimpArgs false
theorem voiceHear_ok (b bm c N : Nat) (many sp : Int) (f : Pl.Sco) (v : Value) (L : List Vc) (w : World) (hV : Voi w b many sp bm c f) (hL : IsVs w v L) (h0 : Pl.LevF L 0) (hc : ∀ c2, Pl.Cnt (Pl.sc2 f (Pl.lvAt L)) c2 → c2 ≤ 200) (hN : N ≤ b) :
    Calls Tryd.prog 6 #[.pointer (some ⟨b, 0, none⟩), v] w fun e w' => e = .returned .nilIface ∧ (∃ bm' c2 R, Pl.SortedOf (Pl.sc2 f (Pl.lvAt L)) R ∧ Voi w' b many (Pl.nextSp (Pl.sc2 f (Pl.lvAt L)) R sp) bm' c2 (Pl.sc2 f (Pl.lvAt L))) ∧ Below N w w' := by
  have hb := lt_of_block hV.at_
  refine (voiceHear_1 b bm c many sp f v L w hV hL).mono ?_
  rintro e w' ⟨fe, rfl, hk, h⟩
  have hk' : Below N w w' := hk.below (by omega) hN
  rcases h with ⟨h1, h2, h3⟩ | ⟨h1, rfl, h2⟩
  · exfalso
    rcases h2 with h2 | ⟨-, rfl, c2, h4, h5⟩
    · exact h1 (h2.eq h0)
    · have := hc c2 h5; omega
  · exact ⟨by rw [errV_nil], h2, hk'⟩
theorem Vc.num_of {a l : Int} (h1 : 0 ≤ a ∧ a ≤ 200) (h2 : 0 ≤ l ∧ l ≤ 127) : (Vc.mk a l).Num := by
  show (-9223372036854775808 ≤ a ∧ a ≤ 9223372036854775807) ∧ (-9223372036854775808 ≤ l ∧ l ≤ 9223372036854775807)
  omega
theorem vcPair (w : World) (a l b m : Int) (h1 : (Vc.mk a l).Num) (h2 : (Vc.mk b m).Num) : IsVs (w.alloc (.cells #[.int .i64 a, .int .i64 l, .int .i64 b, .int .i64 m] 38)) (.slice (some ⟨w.heap.size, 0, none⟩) 2 2) [⟨a, l⟩, ⟨b, m⟩] := by
  have hb := obj_new w (.cells #[.int .i64 a, .int .i64 l, .int .i64 b, .int .i64 m] 38)
  refine ⟨.inr ⟨w.heap.size, 0, 2, rfl, by simp, by unfold maxLen; omega, fun i hi j u hu => ?_⟩, fun x hx => ?_⟩
  · rw [Nat.zero_add]
    refine obj_cell hb ?_
    have hj : j < 2 := (List.getElem?_eq_some_iff.1 hu).1
    have hi2 : i < 2 := hi
    obtain rfl | rfl : i = 0 ∨ i = 1 := by omega
    all_goals (obtain rfl | rfl : j = 0 ∨ j = 1 := by omega)
    all_goals (simp [Vc.cells] at hu ⊢; exact hu)
  · simp at hx
    rcases hx with rfl | rfl
    · exact h1
    · exact h2
theorem vcOne (w : World) (a l : Int) (h1 : (Vc.mk a l).Num) : IsVs (w.alloc (.cells #[.int .i64 a, .int .i64 l] 38)) (.slice (some ⟨w.heap.size, 0, none⟩) 1 1) [⟨a, l⟩] := by
  have hb := obj_new w (.cells #[.int .i64 a, .int .i64 l] 38)
  refine ⟨.inr ⟨w.heap.size, 0, 1, rfl, by simp, by unfold maxLen; omega, fun i hi j u hu => ?_⟩, fun x hx => ?_⟩
  · rw [Nat.zero_add]
    refine obj_cell hb ?_
    have hj : j < 2 := (List.getElem?_eq_some_iff.1 hu).1
    have hi2 : i < 1 := hi
    obtain rfl : i = 0 := by omega
    all_goals (obtain rfl | rfl : j = 0 ∨ j = 1 := by omega)
    all_goals (simp [Vc.cells] at hu ⊢; exact hu)
  · simp at hx
    rcases hx with rfl
    exact h1
theorem Pl.LevF.one {a l : Int} (h : Pl.vcOk ⟨a, l⟩ = true) : Pl.LevF [⟨a, l⟩] 0 := by
  unfold Pl.LevF
  rw [if_neg (by simp)]
  refine .inl ⟨rfl, fun k hk => ?_⟩
  obtain rfl : k = 0 := by simp at hk; omega
  unfold Pl.vcFault
  simp [h, Pl.lvAt]
theorem Pl.LevF.two {a l b m : Int} (h : Pl.vcOk ⟨a, l⟩ = true) (h' : Pl.vcOk ⟨b, m⟩ = true) (hab : a ≠ b) : Pl.LevF [⟨a, l⟩, ⟨b, m⟩] 0 := by
  unfold Pl.LevF
  rw [if_neg (by simp)]
  refine .inl ⟨rfl, fun k hk => ?_⟩
  have hk2 : k < 2 := hk
  obtain rfl | rfl : k = 0 ∨ k = 1 := by omega
  · unfold Pl.vcFault
    simp [h, Pl.lvAt]
  · unfold Pl.vcFault
    simp [h', Pl.lvAt, hab]
/-- two are heard, the second one at nought -/
theorem loud1 (ob bm c N : Nat) (sp a b : Int) (l x : Nat) (w : World) (hV : Voi w ob 2 sp bm c (Pl.Two a b x 0)) (ha : 0 ≤ a ∧ a ≤ 200) (hb : 0 ≤ b ∧ b ≤ 200) (hab : a ≠ b) (hl : l ≤ 127) (hs : sp = -1 ∨ sp = a) (hx : 0 < Pl.nscN x l) (hN : N ≤ ob) :
    Calls Tryd.prog 6 #[.pointer (some ⟨ob, 0, none⟩), .slice (some ⟨w.heap.size, 0, none⟩) 2 2] (w.alloc (.cells #[.int .i64 a, .int .i64 l, .int .i64 b, .int .i64 0] 38)) fun e w' => e = .returned .nilIface ∧ (∃ bm' c2, Voi w' ob 2 a bm' c2 (Pl.Two a b (Pl.nscN x l : Nat) 0)) ∧ Below N w w' := by
  have hlt := lt_of_block hV.at_
  have kA : Below w.heap.size w (w.alloc (.cells #[.int .i64 a, .int .i64 l, .int .i64 b, .int .i64 0] 38)) := (Below.refl _ _).alloc (Nat.le_refl _) _
  have hS : Pl.sc2 (Pl.Two a b x 0) (Pl.lvAt [⟨a, l⟩, ⟨b, 0⟩]) = Pl.Two a b (Pl.nscN x l : Nat) 0 := by
    have hab' : ¬ b = a := fun e => hab e.symm
    rw [Pl.Two.go hab (fun i h1 h2 => by
      have h1' : ¬ a = i := fun e => h1 e.symm
      have h2' : ¬ b = i := fun e => h2 e.symm
      simp [Pl.lvAt, h1', h2'])]
    rw [show ((Pl.lvAt [⟨a, l⟩, ⟨b, 0⟩] a).getD 0) = l by simp [Pl.lvAt], show ((Pl.lvAt [⟨a, l⟩, ⟨b, 0⟩] b).getD 0) = 0 by simp [Pl.lvAt, hab], Pl.nscN_eq]
    rfl
  refine (voiceHear_ok ob bm c N 2 sp _ _ [⟨a, l⟩, ⟨b, 0⟩] _ (hV.below kA) (vcPair w a l b 0 (Vc.num_of ha (by omega)) (Vc.num_of hb (by omega))) (Pl.LevF.two ((Pl.vcOk_iff _).2 ⟨ha.1, ha.2, by show (0 : Int) ≤ l; omega, by show (l : Int) ≤ 127; omega⟩) ((Pl.vcOk_iff _).2 ⟨hb.1, hb.2, Int.le_refl 0, (by decide : (0 : Int) ≤ 127)⟩) hab) (fun c2 h => by rw [hS] at h; have := h.cnt2; omega) hN).mono ?_
  rintro e w' ⟨rfl, ⟨bm', c2, R, hR, hv⟩, k⟩
  rw [hS] at hR hv
  rw [Pl.next_first ha.1 (by omega) hs hR] at hv
  exact ⟨rfl, ⟨bm', c2, hv⟩, (kA.mono (by omega)).trans k⟩
/-- the other one is heard -/
theorem loud2 (ob bm c N : Nat) (a b : Int) (l x y : Nat) (t : Bool) (w : World) (hV : Voi w ob 2 (if t = true then b else a) bm c (Pl.Two a b x y)) (ha : 0 ≤ a ∧ a ≤ 200) (hb : 0 ≤ b ∧ b ≤ 200) (hab : a ≠ b) (hl : l ≤ 127) (hy : 0 < Pl.nscN y l) (hxy : t = true → Pl.nscN x 0 ≤ Pl.nscN y l + 200) (hN : N ≤ ob) :
    Calls Tryd.prog 6 #[.pointer (some ⟨ob, 0, none⟩), .slice (some ⟨w.heap.size, 0, none⟩) 1 1] (w.alloc (.cells #[.int .i64 b, .int .i64 l] 38)) fun e w' => e = .returned .nilIface ∧ (∃ bm' c2, Voi w' ob 2 (if (t || decide (Pl.nscN x 0 = 0 ∨ Pl.nscN x 0 + 200 < Pl.nscN y l)) = true then b else a) bm' c2 (Pl.Two a b (Pl.nscN x 0 : Nat) (Pl.nscN y l : Nat))) ∧ Below N w w' := by
  have hlt := lt_of_block hV.at_
  have kA : Below w.heap.size w (w.alloc (.cells #[.int .i64 b, .int .i64 l] 38)) := (Below.refl _ _).alloc (Nat.le_refl _) _
  have hS : Pl.sc2 (Pl.Two a b x y) (Pl.lvAt [⟨b, l⟩]) = Pl.Two a b (Pl.nscN x 0 : Nat) (Pl.nscN y l : Nat) := by
    have hab' : ¬ b = a := fun e => hab e.symm
    rw [Pl.Two.go hab (fun i h1 h2 => by
      have h2' : ¬ b = i := fun e => h2 e.symm
      simp [Pl.lvAt, h2'])]
    rw [show ((Pl.lvAt [⟨b, l⟩] b).getD 0) = l by simp [Pl.lvAt], show ((Pl.lvAt [⟨b, l⟩] a).getD 0) = (0 : Nat) by simp [Pl.lvAt, hab'], Pl.nscN_eq, Pl.nscN_eq]
  refine (voiceHear_ok ob bm c N 2 _ _ _ [⟨b, l⟩] _ (hV.below kA) (vcOne w b l (Vc.num_of hb (by omega))) (Pl.LevF.one ((Pl.vcOk_iff _).2 ⟨hb.1, hb.2, by show (0 : Int) ≤ l; omega, by show (l : Int) ≤ 127; omega⟩)) (fun c2 h => by rw [hS] at h; have := h.cnt2; omega) hN).mono ?_
  rintro e w' ⟨rfl, ⟨bm', c2, R, hR, hv⟩, k⟩
  rw [hS] at hR hv
  refine ⟨rfl, ⟨bm', c2, ?_⟩, (kA.mono (by omega)).trans k⟩
  cases t with
  | true =>
    rw [if_pos rfl, Pl.next_stays hab (by omega) (by omega) (by have := hxy rfl; omega) hR] at hv
    simpa using hv
  | false =>
    rw [if_neg (by decide), Pl.next_other hab (by omega) (by omega) hR] at hv
    by_cases q : Pl.nscN x 0 = 0 ∨ Pl.nscN x 0 + 200 < Pl.nscN y l
    · rw [if_pos (by omega)] at hv
      simpa [q] using hv
    · rw [if_neg (by omega)] at hv
      simpa [q] using hv
end Go.Proofs.YtefhbjkhmfmkaaaDoor
