import Derived.Test.YtmmfnalcdekkbaaDoorTreePath
/-! The reference's Tree. -/
namespace Go.Proofs.YtmmfnalcdekkbaaDoor
open Go.RowKit
set_option linter.unusedVariables false
set_option linter.unusedSimpArgs false
/-- k steps up -/
def stp (P : Nat → Int) (x : Int) : Nat → Int
  | 0 => x
  | k + 1 => P (stp P x k).toNat
theorem stp_succ (P : Nat → Int) (x : Int) (k : Nat) : stp P x (k + 1) = stp P (P x.toNat) k := by
  induction k with
  | zero => rfl
  | succ k ih => show P (stp P x (k + 1)).toNat = P (stp P (P x.toNat) k).toNat; rw [ih]
theorem stp_same (P : Nat → Int) (x : Int) (a b t : Nat) (h : stp P x a = stp P x b) : stp P x (a + t) = stp P x (b + t) := by
  induction t with
  | zero => exact h
  | succ t ih => show P (stp P x (a + t)).toNat = P (stp P x (b + t)).toNat; rw [ih]
/-- as long as it goes up -/
theorem upL_stp (P : Nat → Int) : ∀ (f k : Nat) (x : Int), k ≤ f → (∀ j, j < k → 0 ≤ stp P x j) → k ≤ (Pl.upL P f x).length ∧ (stp P x k < 0 → (Pl.upL P f x).length = k) := by
  intro f
  induction f with
  | zero =>
    intro k x hk h
    obtain rfl : k = 0 := by omega
    exact ⟨by omega, fun _ => rfl⟩
  | succ f ih =>
    intro k x hk h
    cases k with
    | zero => exact ⟨by omega, fun hx => by have hx2 : x < 0 := hx; rw [Pl.upL_neg _ _ _ hx2]; rfl⟩
    | succ k =>
      have h0 := h 0 (by omega)
      have h0' : ¬ x < 0 := by have : stp P x 0 = x := rfl; omega
      have q := ih k (P x.toNat) (by omega) (fun j hj => by rw [← stp_succ]; exact h (j + 1) (by omega))
      unfold Pl.upL
      rw [if_neg h0', List.length_cons]
      exact ⟨by omega, fun hx => by rw [stp_succ] at hx; rw [q.2 hx]⟩
/-- who has gone up as often as there are nodes goes on for ever -/
theorem stp_ever {ps : List Int} (hp : ParOk ps) (x : Int) (hx : x < ps.length) (h : ∀ j, j < ps.length + 1 → 0 ≤ stp (atL ps) x j) : 0 ≤ stp (atL ps) x (ps.length + 1) := by
  have hlt : ∀ j, j < ps.length + 1 → stp (atL ps) x j < ps.length := by
    intro j
    induction j with
    | zero => intro _; exact hx
    | succ j ih =>
      intro hj
      have h1 := ih (by omega)
      have h2 := h j (by omega)
      exact (hp _ (by omega)).2
  by_cases hneg : 0 ≤ stp (atL ps) x (ps.length + 1)
  · exact hneg
  · exfalso
    have hnd : ((List.range (ps.length + 1)).map (stp (atL ps) x)).Nodup := by
      refine List.pairwise_map.2 (List.Pairwise.imp_of_mem (fun {a b} ha hb hab e => ?_) List.pairwise_lt_range)
      have hb' := List.mem_range.1 hb
      have q := stp_same (atL ps) x a b (ps.length + 1 - b) e
      rw [show b + (ps.length + 1 - b) = ps.length + 1 by omega] at q
      have := h (a + (ps.length + 1 - b)) (by omega)
      omega
    have := nodup_between ps.length (-1) _ hnd (fun j hj => by
      obtain ⟨i, hi, rfl⟩ := List.mem_map.1 hj
      have hi' := List.mem_range.1 hi
      have h1 := h i hi'
      have h2 := hlt i hi'
      omega)
    simp at this
    omega
set_option maxRecDepth 100000 in
set_option maxHeartbeats 4000000 in
theorem rTree_any (v : Value) (ps : List Int) (w : World) (hv0 : IsSl w v ps) :
    Calls Tryd.prog 11 #[v] w fun e w' => ∃ f : Int, e = .returned (.int .i64 f) ∧ TreeF ps f ∧ w = w' := by
  obtain ⟨oa, cp, rfl, hm, -⟩ := isl_read hv0
  have HV := Lib.hid hv0
  unfold maxLen at hm
  clear hv0
  by_cases hl : 16 < ps.length
  · have HF := Lib.hid (show TreeF ps 4 by unfold TreeF; rw [if_pos hl])
    go_enter Tryd.func11, Tryd.ntmps11
    go_wp2_with fail
    go_ret
    exact ⟨4, rfl, HF.out, rfl⟩
  have H1 := Lib.hid (show ∀ k, k < ps.length → ¬ (-1 ≤ atL ps k ∧ atL ps k < ps.length) → TreeF ps 1 from fun k h1 h2 => by unfold TreeF; rw [if_neg hl]; exact .inl ⟨⟨k, h1, h2⟩, rfl⟩)
  have H3 := Lib.hid (show ParOk ps → ∀ i : Nat, i < ps.length → ps.length < (upOf ps i).length → TreeF ps 3 from fun h i h1 h2 => by unfold TreeF; rw [if_neg hl]; exact .inr (.inl ⟨h, ⟨i, h1, h2⟩, rfl⟩))
  have H0 := Lib.hid (show ParOk ps → (∀ i : Nat, i < ps.length → (upOf ps i).length ≤ ps.length) → TreeF ps 0 from fun h h1 => by unfold TreeF; rw [if_neg hl]; exact .inr (.inr ⟨h, h1, rfl⟩))
  have hl2 : ps.length ≤ 16 := by omega
  clear hl
  go_enter Tryd.func11, Tryd.ntmps11
  go_upto_region 5 with fail
  go_loop [4] (fun s4 => ∃ i : Nat, i ≤ ps.length ∧ s4 = .int .i64 i ∧ Hid (∀ k, k < i → -1 ≤ atL ps k ∧ atL ps k < ps.length)) (fun s4 => ps.length - (intOf s4).toNat)
  case atStart => exact ⟨0, by omega, rfl, Lib.hid (fun k h => by omega)⟩
  case round =>
    obtain ⟨i, hi, rfl, HP⟩ := hrel
    by_cases hlt : i < ps.length
    · obtain ⟨_, _, e, -, rd⟩ := isl_read HV.out
      cases e
      obtain ⟨g, f, rfl, hg, q0⟩ := rd i hlt
      clear rd
      obtain ⟨p, hp⟩ : ∃ p, atL ps i = p := ⟨_, rfl⟩
      have HPi := Lib.hid hp
      rw [hp] at q0
      clear hp
      by_cases c1 : p < -1
      · have HN := Lib.hid (H1.out i hlt (fun h => by rw [HPi.out] at h; omega))
        go_wp2_with fail
        go_ret
        exact ⟨1, rfl, HN.out, rfl⟩
      · by_cases c2 : (ps.length : Int) ≤ p
        · have HN := Lib.hid (H1.out i hlt (fun h => by rw [HPi.out] at h; omega))
          go_wp2_with fail
          go_ret
          exact ⟨1, rfl, HN.out, rfl⟩
        · have HN := Lib.hid (show ∀ k, k < i + 1 → -1 ≤ atL ps k ∧ atL ps k < ps.length from fun k hk => by
            by_cases e : k = i
            · subst e; rw [HPi.out]; omega
            · exact HP.out k (by omega))
          go_wp2_with fail
          go_round
          case measure => simp [intOf]; omega
          case rel => exact ⟨i + 1, by omega, by go_num, HN⟩
    · have HOK := Lib.hid (show ParOk ps from fun k hk => HP.out k (by omega))
      clear HP
      go_upto_region 10 with fail
      go_loop [5] (fun s5 => ∃ i : Nat, i ≤ ps.length ∧ s5 = .int .i64 i ∧ Hid (∀ k : Nat, k < i → (upOf ps k).length ≤ ps.length)) (fun s5 => ps.length - (intOf s5).toNat)
      case atStart => exact ⟨0, by omega, rfl, Lib.hid (fun k h => by omega)⟩
      case round =>
        clear hlt
        obtain ⟨j, hj, rfl, HU⟩ := hrel
        by_cases hlt : j < ps.length
        · go_upto_region 14 with fail
          go_loop [6, 7] (fun s6 s7 => ∃ (k : Nat) (y : Int), k ≤ ps.length + 1 ∧ s7 = .int .i64 k ∧ s6 = .int .i64 y ∧ -1 ≤ y ∧ y < ps.length ∧ Hid (y = stp (atL ps) j k) ∧ Hid (∀ q, q < k → 0 ≤ stp (atL ps) j q)) (fun _ s7 => ps.length + 1 - (intOf s7).toNat)
          case atStart => exact ⟨0, j, by omega, rfl, rfl, by omega, by omega, Lib.hid rfl, Lib.hid (fun q h => by omega)⟩
          case round =>
            obtain ⟨k, y, hk, rfl, rfl, hy1, hy2, HY, HQ⟩ := hrel
            by_cases hy0 : 0 ≤ y
            · obtain ⟨yn, rfl⟩ : ∃ yn : Nat, y = yn := ⟨y.toNat, by omega⟩
              by_cases hkn : k ≤ ps.length
              · obtain ⟨_, _, e, -, rd⟩ := isl_read HV.out
                cases e
                obtain ⟨g, f, rfl, hg, q0⟩ := rd yn (by omega)
                clear rd
                have hpr := HOK.out yn (by omega)
                have HN := Lib.hid (show atL ps yn = stp (atL ps) j (k + 1) by show _ = atL ps (stp (atL ps) j k).toNat; rw [← HY.out]; simp)
                have HQ2 := Lib.hid (show ∀ q, q < k + 1 → 0 ≤ stp (atL ps) j q from fun q hq => by
                  by_cases e : q = k
                  · subst e; rw [← HY.out]; omega
                  · exact HQ.out q (by omega))
                obtain ⟨p, hp⟩ : ∃ p, atL ps yn = p := ⟨_, rfl⟩
                rw [hp] at q0 hpr HN
                obtain ⟨hpr1, hpr2⟩ := hpr
                clear hp HY HQ
                go_wp2_with fail
                go_round
                case measure => simp [intOf]; omega
                case rel => exact ⟨k + 1, p, by omega, by go_num, rfl, hpr1, hpr2, HN, HQ2⟩
              · have hkk : k = ps.length + 1 := by omega
                have HN := Lib.hid (H3.out HOK.out j hlt (by
                  have := (upL_stp (atL ps) (ps.length + 1) k j (by omega) HQ.out).1
                  unfold upOf; omega))
                clear hkk
                go_wp2_with fail
                go_ret
                exact ⟨3, rfl, HN.out, rfl⟩
            · have hkn : k ≤ ps.length := by
                by_cases q : k ≤ ps.length
                · exact q
                · have hkk : k = ps.length + 1 := by omega
                  have := stp_ever HOK.out j (by omega) (by rw [← hkk]; exact HQ.out)
                  rw [← hkk, ← HY.out] at this
                  omega
              have HU2 := Lib.hid (show ∀ m : Nat, m < j + 1 → (upOf ps m).length ≤ ps.length from fun m hm => by
                by_cases e : m = j
                · subst e
                  have := (upL_stp (atL ps) (ps.length + 1) k m (by omega) HQ.out).2 (by rw [← HY.out]; omega)
                  unfold upOf; omega
                · exact HU.out m (by omega))
              go_wp2_with fail
              go_round
              case measure => simp [intOf]; omega
              case rel => exact ⟨j + 1, by omega, by go_num, HU2⟩
        · have HN := Lib.hid (H0.out HOK.out (fun k hk => HU.out k (by omega)))
          go_wp2_with fail
          go_ret
          exact ⟨0, rfl, HN.out, rfl⟩
end Go.Proofs.YtmmfnalcdekkbaaDoor
