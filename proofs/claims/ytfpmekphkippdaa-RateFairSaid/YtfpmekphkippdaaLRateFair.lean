import Derived.Test.YtfpmekphkippdaaFairA
/-! The walk of the law RateFair. -/
namespace Go.Proofs.Ytfpmekphkippdaa
open Go.RowKit
set_option linter.unusedVariables false
set_option linter.unusedSimpArgs false
theorem fact_fair (b : Nat) (W : World) (h : Sl encI W (.slice (some ⟨b, 0, none⟩) 3 3) [2, 9, 9]) :
    Calls Try.prog 4 #[.int .i64 10, .slice (some ⟨b, 0, none⟩) 3 3] W fun e w' => ∃ (g f c : Nat), e = .returned (.tuple #[.slice (some ⟨g, f, none⟩) 3 c, .nilIface]) ∧ w'.cell? ⟨g, f, none⟩ = some (.int .i64 2) ∧ w'.cell? ⟨g, f + 1, none⟩ = some (.int .i64 4) ∧ w'.cell? ⟨g, f + 2, none⟩ = some (.int .i64 4) ∧ Below W.heap.size W w' := by
  refine (fair_any 10 _ [2, 9, 9] W h).mono fun e w' ⟨h1, h2⟩ => ?_
  have hF : Pl.fairF 10 [2, 9, 9] = 0 := by decide
  rcases h2 with ⟨h2, _⟩ | ⟨_, s, left, oa, c, h3, h4, h5, _⟩
  · exact absurd hF h2
  · have key : s = 4 ∧ left = 0 := by
      have a := h5.sum
      have b' := h5.lt
      have c' := h5.s0
      have d := h5.l0
      simp only [Pl.sumMin, Pl.over] at a b'
      by_cases q1 : s < 2
      · rw [if_pos q1, if_pos (by omega)] at a
        rw [if_pos q1, if_pos (by omega)] at b'
        omega
      · by_cases q2 : s < 9
        · rw [if_neg q1, if_pos q2] at a b'
          omega
        · rw [if_neg q1, if_neg q2] at a
          omega
    obtain ⟨rfl, rfl⟩ := key
    have hR : Pl.fairGo 4 0 [2, 9, 9] = [2, 4, 4] := by decide
    rw [hR] at h4
    rcases h4 with ⟨h, _⟩ | ⟨g, f, c2, e2, q1, q2, q3⟩
    · cases h
    · cases e2
      exact ⟨g, f, c, h3, q3 0 (by simp), q3 1 (by simp), q3 2 (by simp), h1⟩
theorem tot_nonneg : ∀ {A : List Int}, (∀ x ∈ A, 0 ≤ x) → 0 ≤ Pl.tot A
  | [], _ => Int.le_refl _
  | a :: A, h => by
    have h1 := h a (by simp)
    have h2 := tot_nonneg (A := A) fun x hx => h x (by simp [hx])
    unfold Pl.tot; omega
set_option maxRecDepth 100000 in
set_option maxHeartbeats 4000000 in
theorem walk_RateFair_run (w : World) (T : Int) (oa : Option Addr) (ca : Nat) (A : List Int) (o1 : Sl encI w (.slice oa A.length ca) A) :
    Calls Try.prog 3 #[.int .i64 T, .slice oa A.length ca] w fun e w' => e = .returned (.bool true) ∧ Below w.heap.size w w' := by
  have H1 := Lib.hid o1
  have hlen := o1.len
  unfold maxLen at hlen
  clear o1
  go_enter Try.func3, Try.ntmps3
  have kA : Below w.heap.size w (w.alloc (.cells #[.int .i64 2, .int .i64 9, .int .i64 9] 3)) := (Below.refl _ _).alloc (Nat.le_refl _) _
  have F1 := Lib.hid (fact_fair w.heap.size (w.alloc (.cells #[.int .i64 2, .int .i64 9, .int .i64 9] 3)) (Sl.own (obj_new _ _) (by simp) (Nat.le_refl _) (by unfold maxLen; omega) (fun j hj => by
    have hj4 : j < 3 := hj
    obtain rfl | rfl | rfl : j = 0 ∨ j = 1 ∨ j = 2 := by omega
    all_goals rfl)))
  have KA := Lib.hid kA
  clear kA
  go_upto_region 2 with (go_at_call 4; (with_reducible refine F1.out.mono ?_); rintro e y ⟨g, f, c, rfl, q0, q1, q2, k1⟩; have KY := Lib.hid (KA.out.trans (k1.mono KA.out.size)); clear k1)
  clear F1 KA
  have i0 : (0 : Int) < 3 := by decide
  have i1 : (1 : Int) < 3 := by decide
  have i2 : (2 : Int) < 3 := by decide
  go_upto_region 4 with fail
  clear q0 q1 q2 i0 i1 i2
  have F2 := Lib.hid (fair_any T _ A y (H1.out.below KY.out))
  by_cases hF : Pl.fairF T A = 0
  case neg =>
    have F3 := Lib.hid (show Calls Try.prog 4 #[.int .i64 T, .slice oa A.length ca] y fun e w' => e = .returned (.tuple #[.slice none 0 0, .iface 28 (.int .i64 (Pl.fairF T A))]) ∧ Below y.heap.size y w' from F2.out.mono fun e w' ⟨h1, h2⟩ => by
      rcases h2 with ⟨_, h2⟩ | ⟨h2, _⟩
      · exact ⟨h2, h1⟩
      · exact absurd h2 hF)
    clear F2 hF
    generalize Pl.fairF T A = ff at *
    go_wp2_with (go_at_call 4; (with_reducible refine F3.out.mono ?_); rintro e z ⟨rfl, k1⟩; have KZ := Lib.hid (KY.out.trans (k1.mono KY.out.size)); clear k1)
    go_ret
    exact ⟨by first | rfl | simp, KZ.out⟩
  have hT : Pl.rate T ∧ ¬ Pl.wrongs A ∧ A.length ≤ 200 := by
    unfold Pl.fairF at hF
    split at hF
    · cases hF
    · rename_i h1
      split at hF
      · cases hF
      · rename_i h2
        exact ⟨Classical.byContradiction fun h => h2 (.inl h), fun h => h2 (.inr h), by omega⟩
  have F3 := Lib.hid (show Calls Try.prog 4 #[.int .i64 T, .slice oa A.length ca] y fun e w' => ∃ (s left : Int) (oc : Option Addr) (c' : Nat), e = .returned (.tuple #[.slice oc A.length c', .nilIface]) ∧ Sl encI w' (.slice oc A.length c') (Pl.fairGo s left A) ∧ Pl.FairS A T s left ∧ Below y.heap.size y w' from F2.out.mono fun e w' ⟨h1, h2⟩ => by
    rcases h2 with ⟨h2, _⟩ | ⟨_, h2⟩
    · exact absurd hF h2
    · exact h2)
  have hA0 : ∀ x ∈ A, 0 ≤ x ∧ x ≤ 1000000 := fun x hx => Classical.byContradiction fun h => hT.2.1 ⟨x, hx, h⟩
  have HA0 := Lib.hid hA0
  have hT1 : 0 ≤ T ∧ T ≤ 1000000 := hT.1
  have hl2 := hT.2.2
  clear F2 hF hT hA0
  go_upto_region 7 with (go_at_call 4; (with_reducible refine F3.out.mono ?_); rintro e z ⟨s, left, oc, cc, rfl, r1, r2, k1⟩; have SL := Lib.hid r1; have FS := Lib.hid r2; have KZ := Lib.hid (KY.out.trans (k1.mono KY.out.size)); have SA := Lib.hid ((H1.out.below KY.out).below k1); clear r1 r2 k1)
  clear F3 H1 KY
  have FQ := Lib.hid (FS.out.fair fun x hx => (HA0.out x hx).1)
  have RL := Lib.hid (Pl.fairGo_len s A left)
  clear FS
  obtain ⟨R, hR⟩ : ∃ R, Pl.fairGo s left A = R := ⟨_, rfl⟩
  rw [hR] at SL FQ RL
  clear hR
  obtain ⟨n, hn⟩ : ∃ n, A.length = n := ⟨_, rfl⟩
  have HN := Lib.hid hn
  rw [hn] at hl2
  have HR0 := Lib.hid (show ∀ x ∈ R, 0 ≤ x from fun x hx => by
    obtain ⟨j, hj, rfl⟩ := List.getElem_of_mem hx
    exact (FQ.out.1 j (by rw [← RL.out]; exact hj) hj).1)
  have CELL := Lib.hid (show ∀ j (hj : j < n), ∃ g f g' f' x a, oc = some ⟨g, f, none⟩ ∧ oa = some ⟨g', f', none⟩ ∧ z.cell? ⟨g, f + j, none⟩ = some (.int .i64 x) ∧ z.cell? ⟨g', f' + j, none⟩ = some (.int .i64 a) ∧ ∃ (h1 : j < A.length) (h2 : j < R.length), R[j] = x ∧ A[j] = a from fun j hj => by
    have h1 : j < A.length := by omega
    have h2 : j < R.length := by rw [RL.out]; exact h1
    rcases SL.out with ⟨q, _⟩ | ⟨g, f, c1, e1, _, _, q1⟩
    · rw [q] at h2; simp at h2
    · rcases SA.out with ⟨q, _⟩ | ⟨g', f', c2, e2, _, _, q2⟩
      · rw [q] at h1; simp at h1
      · simp only [Value.slice.injEq] at e1 e2
        exact ⟨g, f, g', f', R[j], A[j], e1.1, e2.1, q1 j h2, q2 j h1, h1, h2, rfl, rfl⟩)
  have hnR : R.length = n := by rw [RL.out]; exact hn
  have HNR := Lib.hid hnR
  try rw [hn]
  clear hn SL SA hnR
  go_upto_region 11 with fail
  go_loopw [9, 10] (fun s9 s10 wr => ∃ i k : Nat, i ≤ n ∧ s10 = .int .i64 i ∧ s9 = .int .i64 (Pl.tot (R.take i)) ∧ Hid (wr = z.drewN k)) (fun _ s10 _ => n - (intOf s10).toNat)
  case atStart => exact ⟨0, 0, by omega, rfl, by simp [Pl.tot], Lib.hid rfl⟩
  case round =>
    obtain ⟨i, k, hi, rfl, rfl, HW⟩ := hrel
    by_cases hlt : i < n
    · have e1 : (i : Int) < (n : Int) := by omega
      have i0 : (0 : Int) ≤ (i : Int) := by omega
      obtain ⟨g1, f1, g2, f2, x, a, rfl, rfl, c1, c2, h1, h2, rx, ra⟩ := CELL.out i hlt
      have hb := FQ.out.1 i h1 h2
      rw [rx, ra] at hb
      have hax := HA0.out a (ra ▸ List.getElem_mem h1)
      have ht : R.take (i + 1) = R.take i ++ [x] := by rw [List.take_add_one, ← rx]; simp [h2]
      have hle : Pl.tot (R.take i) + x ≤ T := by
        have h3 := Pl.tot_append (R.take (i + 1)) (R.drop (i + 1))
        rw [List.take_append_drop, ht, Pl.tot_append] at h3
        have h4 := tot_nonneg (A := R.drop (i + 1)) fun y hy => HR0.out y (List.mem_of_mem_drop hy)
        have h5 := FQ.out.2.1
        simp only [Pl.tot] at h3
        omega
      have h0 : 0 ≤ Pl.tot (R.take i) := tot_nonneg fun y hy => HR0.out y (List.mem_of_mem_take hy)
      have HT2 := Lib.hid (show Pl.tot (R.take (i + 1)) = Pl.tot (R.take i) + x from by rw [ht, Pl.tot_append]; simp [Pl.tot])
      obtain ⟨sm, hsm⟩ : ∃ sm, Pl.tot (R.take i) = sm := ⟨_, rfl⟩
      rw [hsm] at hle h0 HT2 ⊢
      have w1 : IntKind.i64.wrap (sm + x) = sm + x := by rw [IntKind.wrap_i64]; omega
      have c1' : wr.cell? ⟨g1, f1 + i, none⟩ = some (.int .i64 x) := by rw [HW.out]; exact c1
      have c2' : wr.cell? ⟨g2, f2 + i, none⟩ = some (.int .i64 a) := by rw [HW.out]; exact c2
      have d1 : decide (x < 0) = false := decide_eq_false (by omega)
      have d2 : decide (a < x) = false := decide_eq_false (by omega)
      have b1 : ¬ x < 0 := by omega
      have b2 : ¬ a < x := by omega
      have NX := Lib.hid (show ∀ q, wr.drewN q = z.drewN (k + q) from fun q => by rw [HW.out, World.drewN_drewN])
      clear c1 c2 h1 h2 rx ra hb hax ht hsm HW
      go_wp2_with fail
      go_quiet (fail)
      go_wp2_with fail
      go_roundw
      case measure => simp only [intOf]; omega
      case rel => exact ⟨i + 1, _, by omega, by simp, by rw [HT2.out], Lib.hid (NX.out _)⟩
    · have hin : i = n := by omega
      subst hin
      have e1 : ¬ (i : Int) < (i : Int) := by omega
      have hsum : Pl.tot (R.take i) = Pl.tot R := by rw [List.take_of_length_le (by rw [HNR.out]; omega)]
      rw [hsum]
      have hle := FQ.out.2.1
      have EQ := Lib.hid FQ.out.2.2
      have EB := Lib.hid FQ.out.1
      obtain ⟨sm, hsm⟩ : ∃ sm, Pl.tot R = sm := ⟨_, rfl⟩
      rw [hsm] at hle EQ ⊢
      have e2 : ¬ T < sm := by omega
      clear hsum hsm hlt FQ
      go_upto_region 19 with fail
      go_loopw [11] (fun s11 x => ∃ j k : Nat, j ≤ i ∧ s11 = .int .i64 j ∧ Hid (x = z.drewN k)) (fun s11 _ => i - (intOf s11).toNat)
      case atStart => exact ⟨0, k, by omega, rfl, HW⟩
      case round =>
        clear HW
        obtain ⟨j, k, hj, rfl, HW⟩ := hrel
        by_cases hlt : j < i
        · have e3 : (j : Int) < (i : Int) := by omega
          have j0 : (0 : Int) ≤ (j : Int) := by omega
          obtain ⟨g1, f1, g2, f2, x, a, rfl, rfl, c1, c2, h1, h2, rx, ra⟩ := CELL.out j hlt
          have c1' : wr.cell? ⟨g1, f1 + j, none⟩ = some (.int .i64 x) := by rw [HW.out]; exact c1
          have c2' : wr.cell? ⟨g2, f2 + j, none⟩ = some (.int .i64 a) := by rw [HW.out]; exact c2
          have NX := Lib.hid (show ∀ q, wr.drewN q = z.drewN (k + q) from fun q => by rw [HW.out, World.drewN_drewN])
          by_cases hxa : x = a
          · subst hxa
            clear c1 c2 h1 h2 rx ra HW EQ
            go_wp2_with fail
            go_quiet (fail)
            go_wp2_with fail
            go_roundw
            case measure => simp only [intOf]; omega
            case rel => exact ⟨j + 1, _, by omega, by simp, Lib.hid (NX.out _)⟩
          · have q := EQ.out j h1 h2 (by rw [rx, ra]; exact hxa)
            have hsT : sm = T := q.1
            have RS := Lib.hid (show ∀ k (hk : k < R.length), R[k] ≤ x + 1 from fun k hk => by have := q.2 k hk; rw [rx] at this; exact this)
            have hx0 : 0 ≤ x ∧ x ≤ 1000000 := by
              have a1 := EB.out j h1 h2
              rw [rx, ra] at a1
              have a2 := HA0.out a (ra ▸ List.getElem_mem h1)
              omega
            have d1 : (x == a) = false := beq_eq_false_iff_ne.2 hxa
            have d2 : (sm == T) = true := by rw [hsT]; simp
            have d3 : (sm != T) = false := by simp [hsT]
            have w1 : IntKind.i64.wrap (x + 1) = x + 1 := by rw [IntKind.wrap_i64]; omega
            have HRX := Lib.hid (show ∀ h : j < R.length, R[j] = x from fun _ => rx)
            have HXA := Lib.hid hxa
            have HST := Lib.hid hsT
            clear c1 c2 h1 h2 rx ra HW EQ q hxa hsT
            go_wp2_with fail
            go_quiet (fail)
            go_upto_region 25 with fail
            go_loopw [12] (fun s12 y2 => ∃ t q : Nat, t ≤ i ∧ s12 = .int .i64 t ∧ Hid (y2 = z.drewN q)) (fun s12 _ => i - (intOf s12).toNat)
            case atStart => exact ⟨0, _, by omega, rfl, Lib.hid (NX.out _)⟩
            case round =>
              clear NX c1' c2'
              obtain ⟨t, q, ht, rfl, HW2⟩ := hrel
              by_cases hlt2 : t < i
              · have e4 : (t : Int) < (i : Int) := by omega
                have t0 : (0 : Int) ≤ (t : Int) := by omega
                obtain ⟨g1', f1', g2', f2', x2, a2, o1, o2, c1, c2, h1, h2, rx, ra⟩ := CELL.out t hlt2
                cases o1
                obtain ⟨g3, f3, g4, f4, x3, a3, o1, o2', c3, c4, h3, h4, rx3, ra3⟩ := CELL.out j hlt
                cases o1
                have c1' : wr.cell? ⟨g1, f1 + t, none⟩ = some (.int .i64 x2) := by rw [HW2.out]; exact c1
                have c2' : wr.cell? ⟨g1, f1 + j, none⟩ = some (.int .i64 x3) := by rw [HW2.out]; exact c3
                have hxx : x3 = x := by rw [← rx3]; exact HRX.out h4
                rw [hxx] at c2'
                have hle2 := RS.out t h2
                rw [rx] at hle2
                have d5 : decide (x + 1 < x2) = false := decide_eq_false (by omega)
                have b5 : ¬ x + 1 < x2 := by omega
                have NX := Lib.hid (show ∀ q2, wr.drewN q2 = z.drewN (q + q2) from fun q2 => by rw [HW2.out, World.drewN_drewN])
                clear c1 c2 c3 c4 h1 h2 h3 h4 rx ra rx3 ra3 hxx hle2 HW2 o2 o2'
                go_wp2_with fail
                go_quiet (fail)
                go_wp2_with fail
                go_roundw
                case measure => simp only [intOf]; omega
                case rel => exact ⟨t + 1, _, by omega, by simp, Lib.hid (NX.out _)⟩
              · have hti : t = i := by omega
                subst hti
                have e4 : ¬ (t : Int) < (t : Int) := by omega
                clear hlt2
                go_wp2_with fail
                go_roundw
                case measure => simp only [intOf]; omega
                case rel => exact ⟨j + 1, _, by omega, by simp, HW2⟩
        · have hji : j = i := by omega
          subst hji
          have e3 : ¬ (j : Int) < (j : Int) := by omega
          clear hlt
          have KF := Lib.hid (show Below w.heap.size w wr from by rw [HW.out]; exact Below.drewN KZ.out k)
          go_wp2_with fail
          go_ret
          exact ⟨rfl, KF.out⟩
theorem walk_RateFair (w : World) (T : Int) (hT : (Lit.int .i64 T).wf = true) (v1 : Value) (A : List Int) (o1 : IsInts w v1 A) :
    Calls Try.prog 3 #[.int .i64 T, v1] w fun e w' => e = .returned (.bool true) ∧ Below w.heap.size w w' := by
  have h := o1.1
  obtain ⟨oa, c, rfl⟩ : ∃ oa c, v1 = .slice oa A.length c := by
    rcases h with ⟨h1, oa, cap, rfl, _⟩ | ⟨b, off, cap, rfl, _⟩
    · subst h1; exact ⟨_, _, rfl⟩
    · exact ⟨_, _, rfl⟩
  exact walk_RateFair_run w T oa c A h
end Go.Proofs.Ytfpmekphkippdaa
