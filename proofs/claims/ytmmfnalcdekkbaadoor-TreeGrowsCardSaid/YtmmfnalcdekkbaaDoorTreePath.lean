import Derived.Test.YtmmfnalcdekkbaaDoorTreeUp
import Derived.Test.YtmmfnalcdekkbaaDoorTreeBuild
/-! tree's check, Kids, Path; slices.Reverse. -/
namespace Go.Proofs.YtmmfnalcdekkbaaDoor
open Go.RowKit
set_option linter.unusedVariables false
set_option linter.unusedSimpArgs false
/-- the way up from a node -/
def upOf (ps : List Int) (i : Int) : List Int := Pl.upL (atL ps) (ps.length + 1) i
/-- the fault of parents -/
def TreeF (ps : List Int) (f : Int) : Prop :=
  if 16 < ps.length then f = 4 else ((∃ k, k < ps.length ∧ ¬ (-1 ≤ atL ps k ∧ atL ps k < ps.length)) ∧ f = 1) ∨ (ParOk ps ∧ (∃ i : Nat, i < ps.length ∧ ps.length < (upOf ps i).length) ∧ f = 3) ∨ (ParOk ps ∧ (∀ i : Nat, i < ps.length → (upOf ps i).length ≤ ps.length) ∧ f = 0)
theorem TreeF.eq {ps : List Int} {f g : Int} (h : TreeF ps f) (k : TreeF ps g) : f = g := by
  unfold TreeF at h k
  by_cases h1 : 16 < ps.length
  · rw [if_pos h1] at h k; omega
  rw [if_neg h1] at h k
  rcases h with ⟨⟨a, a1, a2⟩, rfl⟩ | ⟨a, ⟨b, b1, b2⟩, rfl⟩ | ⟨a, b, rfl⟩
  · rcases k with ⟨_, rfl⟩ | ⟨c, _, rfl⟩ | ⟨c, _, rfl⟩
    · rfl
    · exact absurd (c a a1) a2
    · exact absurd (c a a1) a2
  · rcases k with ⟨⟨c, c1, c2⟩, rfl⟩ | ⟨c, _, rfl⟩ | ⟨c, d, rfl⟩
    · exact absurd (a c c1) c2
    · rfl
    · have := d b b1; omega
  · rcases k with ⟨⟨c, c1, c2⟩, rfl⟩ | ⟨c, ⟨d, d1, d2⟩, rfl⟩ | ⟨c, d, rfl⟩
    · exact absurd (a c c1) c2
    · have := b d d1; omega
    · rfl
structure GoodT (ps : List Int) : Prop where
  len : ps.length ≤ 16
  ok : ParOk ps
  up : ∀ i : Nat, i < ps.length → (upOf ps i).length ≤ ps.length
theorem TreeF.good {ps : List Int} : TreeF ps 0 ↔ GoodT ps := by
  unfold TreeF
  constructor
  · intro h
    by_cases h1 : 16 < ps.length
    · rw [if_pos h1] at h; omega
    rw [if_neg h1] at h
    rcases h with ⟨_, h⟩ | ⟨_, _, h⟩ | ⟨a, b, _⟩
    · omega
    · omega
    · exact ⟨by omega, a, b⟩
  · rintro ⟨h1, h2, h3⟩
    rw [if_neg (by omega)]
    exact .inr (.inr ⟨h2, h3, rfl⟩)
set_option maxRecDepth 100000 in
set_option maxHeartbeats 4000000 in
theorem treecheck_any (v : Value) (ps : List Int) (w : World) (hv0 : IsSl w v ps) :
    Calls Tryd.prog 21 #[v] w fun e w' => ∃ f : Int, e = .returned (errV f) ∧ TreeF ps f ∧ Below w.heap.size w w' := by
  obtain ⟨oa, cp, rfl, hm, -⟩ := isl_read hv0
  have HV := Lib.hid hv0
  unfold maxLen at hm
  clear hv0
  by_cases hl : 16 < ps.length
  · have HF := Lib.hid (show TreeF ps 4 by unfold TreeF; rw [if_pos hl])
    go_enter Tryd.func21, Tryd.ntmps21
    go_wp2_with fail
    go_ret
    exact ⟨4, rfl, HF.out, Below.refl _ _⟩
  have H1 := Lib.hid (show ∀ k, k < ps.length → ¬ (-1 ≤ atL ps k ∧ atL ps k < ps.length) → TreeF ps 1 from fun k h1 h2 => by unfold TreeF; rw [if_neg hl]; exact .inl ⟨⟨k, h1, h2⟩, rfl⟩)
  have H3 := Lib.hid (show ParOk ps → ∀ i : Nat, i < ps.length → ps.length < (upOf ps i).length → TreeF ps 3 from fun h i h1 h2 => by unfold TreeF; rw [if_neg hl]; exact .inr (.inl ⟨h, ⟨i, h1, h2⟩, rfl⟩))
  have H0 := Lib.hid (show ParOk ps → (∀ i : Nat, i < ps.length → (upOf ps i).length ≤ ps.length) → TreeF ps 0 from fun h h1 => by unfold TreeF; rw [if_neg hl]; exact .inr (.inr ⟨h, h1, rfl⟩))
  have hl2 : ps.length ≤ 16 := by omega
  clear hl
  go_enter Tryd.func21, Tryd.ntmps21
  go_upto_region 4 with fail
  go_loop [12] (fun s12 => ∃ i : Nat, i ≤ ps.length ∧ s12 = .int .i64 i ∧ Hid (∀ k, k < i → -1 ≤ atL ps k ∧ atL ps k < ps.length)) (fun s12 => ps.length - (intOf s12).toNat)
  case atStart => exact ⟨0, by omega, rfl, Lib.hid (fun k h => by omega)⟩
  case round =>
    obtain ⟨i, hi, rfl, HP⟩ := hrel
    by_cases hlt : i < ps.length
    · obtain ⟨_, _, e, -, rd⟩ := isl_read HV.out
      cases e
      obtain ⟨g, f, rfl, hg, q0⟩ := rd i hlt
      clear rd
      obtain ⟨p, hp⟩ : ∃ p, atL ps i = p := ⟨_, rfl⟩
      have HPi := Lib.hid hp
      rw [hp] at q0
      clear hp
      have AM := Lib.hid (fun y => among_any p ps.length y)
      have HA := Lib.hid (Pl.amB_iff p ps.length)
      obtain ⟨r, hr⟩ : ∃ r, Pl.amB p ps.length = r := ⟨_, rfl⟩
      rw [hr] at AM HA
      clear hr
      by_cases hp1 : p = -1
      · subst hp1
        have HN := Lib.hid (show ∀ k, k < i + 1 → -1 ≤ atL ps k ∧ atL ps k < ps.length from fun k hk => by
          by_cases e : k = i
          · subst e; rw [HPi.out]; omega
          · exact HP.out k (by omega))
        go_wp2_with fail
        go_round
        case measure => simp [intOf]; omega
        case rel => exact ⟨i + 1, by omega, by go_num, HN⟩
      · have hne : (p != -1) = true := by simp [hp1]
        cases r
        · have HN := Lib.hid (H1.out i hlt (fun h => by rw [HPi.out] at h; have := HA.out.2 (by omega); cases this))
          go_wp2_with (go_at_call 16; (with_reducible refine (AM.out _).mono ?_); rintro e w2 ⟨rfl, rfl⟩)
          go_ret
          exact ⟨1, rfl, HN.out, Below.refl _ _⟩
        · have HN := Lib.hid (show ∀ k, k < i + 1 → -1 ≤ atL ps k ∧ atL ps k < ps.length from fun k hk => by
            by_cases e : k = i
            · subst e; rw [HPi.out]; have := HA.out.1 rfl; omega
            · exact HP.out k (by omega))
          go_wp2_with (go_at_call 16; (with_reducible refine (AM.out _).mono ?_); rintro e w2 ⟨rfl, rfl⟩)
          go_round
          case measure => simp [intOf]; omega
          case rel => exact ⟨i + 1, by omega, by go_num, HN⟩
    · have HOK := Lib.hid (show ParOk ps from fun k hk => HP.out k (by omega))
      clear HP
      go_upto_region 10 with fail
      go_loopw [29] (fun s29 wr => ∃ i : Nat, i ≤ ps.length ∧ s29 = .int .i64 i ∧ Hid (∀ k : Nat, k < i → (upOf ps k).length ≤ ps.length) ∧ Hid (Below w.heap.size w wr)) (fun s29 _ => ps.length - (intOf s29).toNat)
      case atStart => exact ⟨0, by omega, rfl, Lib.hid (fun k h => by omega), Lib.hid (Below.refl _ _)⟩
      case round =>
        clear hlt
        obtain ⟨j, hj, rfl, HU, KB⟩ := hrel
        by_cases hlt : j < ps.length
        · have UP := Lib.hid (treeUp_any (.slice oa ps.length cp) ps j wr (HV.out.below KB.out) (by omega) HOK.out (by omega))
          rw [show Pl.upL (atL ps) (ps.length + 1) j = upOf ps j from rfl] at UP
          have HLu := Lib.hid (show (upOf ps j).length ≤ ps.length + 1 from Pl.upL_len _ _ _)
          obtain ⟨A, hA⟩ : ∃ A, upOf ps j = A := ⟨_, rfl⟩
          rw [hA] at UP HLu
          have HA := Lib.hid hA
          have hAl := HLu.out
          clear hA
          go_upto_region 12 with fail
          by_cases hc : ps.length < A.length
          · have HN := Lib.hid (H3.out HOK.out j hlt (by rw [HA.out]; exact hc))
            go_wp2_with (go_at_call 22; (with_reducible refine UP.out.mono ?_); rintro e w2 ⟨v', rfl, ho, k⟩; obtain ⟨o', c', rfl, -⟩ := isl_read ho.sl; have K := Lib.hid (KB.out.trans (k.mono KB.out.size)); clear ho k)
            go_ret
            exact ⟨3, rfl, HN.out, K.out⟩
          · have HN := Lib.hid (show ∀ k : Nat, k < j + 1 → (upOf ps k).length ≤ ps.length from fun k hk => by
              by_cases e : k = j
              · subst e; rw [HA.out]; omega
              · exact HU.out k (by omega))
            go_wp2_with (go_at_call 22; (with_reducible refine UP.out.mono ?_); rintro e w2 ⟨v', rfl, ho, k⟩; obtain ⟨o', c', rfl, -⟩ := isl_read ho.sl; have K := Lib.hid (KB.out.trans (k.mono KB.out.size)); clear ho k)
            go_roundw
            case measure => simp [intOf]; omega
            case rel => exact ⟨j + 1, by omega, by go_num, HN, K⟩
        · have HN := Lib.hid (H0.out HOK.out (fun k hk => HU.out k (by omega)))
          go_wp2_with fail
          go_ret
          exact ⟨0, rfl, HN.out, KB.out⟩
end Go.Proofs.YtmmfnalcdekkbaaDoor
