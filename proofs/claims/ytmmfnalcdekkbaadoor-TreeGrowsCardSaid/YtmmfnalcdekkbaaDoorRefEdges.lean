import Derived.Test.YtmmfnalcdekkbaaDoorTreeCheck
/-! The reference's Edges. -/
namespace Go.Proofs.YtmmfnalcdekkbaaDoor
open Go.RowKit
set_option linter.unusedVariables false
set_option linter.unusedSimpArgs false
set_option maxRecDepth 100000 in
set_option maxHeartbeats 4000000 in
theorem rEdges_any (n : Int) (v : Value) (L : List Ed) (w : World) (hL0 : IsEds w v L) :
    Calls Tryd.prog 4 #[.int .i64 n, v] w fun e w' => ∃ f : Int, e = .returned (.int .i64 f) ∧ Pl.EdgesF n L f ∧ Below w.heap.size w w' := by
  obtain ⟨oa, cp, rfl, hlc, hcm, -⟩ := eds_read hL0
  have HL := Lib.hid hL0
  unfold maxLen at hcm
  clear hL0
  by_cases hn : n < 1 ∨ 16 < n
  · have HF := Lib.hid (show Pl.EdgesF n L 1 by unfold Pl.EdgesF; rw [if_pos hn])
    rcases hn with hn | hn
    · go_enter Tryd.func4, Tryd.ntmps4
      go_wp2_with fail
      go_ret
      exact ⟨1, rfl, HF.out, Below.refl _ _⟩
    · have hn2 : ¬ n < 1 := by omega
      go_enter Tryd.func4, Tryd.ntmps4
      go_wp2_with fail
      go_ret
      exact ⟨1, rfl, HF.out, Below.refl _ _⟩
  by_cases hl : 200 < L.length
  · have HF := Lib.hid (show Pl.EdgesF n L 4 by unfold Pl.EdgesF; rw [if_neg hn, if_pos hl])
    obtain ⟨n1, n2⟩ : 1 ≤ n ∧ n ≤ 16 := by omega
    clear hn
    go_enter Tryd.func4, Tryd.ntmps4
    go_wp2_with fail
    go_ret
    exact ⟨4, rfl, HF.out, Below.refl _ _⟩
  have HG := Lib.hid (show (∀ k (h : k < L.length), Pl.edFault n L k L[k] = 0) → Pl.EdgesF n L 0 from fun h => by unfold Pl.EdgesF; rw [if_neg hn, if_neg hl]; exact .inl ⟨rfl, h⟩)
  have HB := Lib.hid (show ∀ f : Int, f ≠ 0 → ∀ k (h : k < L.length), Pl.edFault n L k L[k] = f → (∀ j (hj : j < k), Pl.edFault n L j (L[j]'(Nat.lt_trans hj h)) = 0) → Pl.EdgesF n L f from fun f hf k h h1 h2 => by unfold Pl.EdgesF; rw [if_neg hn, if_neg hl]; exact .inr ⟨hf, k, h, h1, h2⟩)
  obtain ⟨n1, n2⟩ : 1 ≤ n ∧ n ≤ 16 := by omega
  have hl2 : L.length ≤ 200 := by omega
  clear hn hl
  go_enter Tryd.func4, Tryd.ntmps4
  go_upto_region 6 with fail
  go_loopw [5] (fun s5 wr => ∃ i : Nat, i ≤ L.length ∧ s5 = .int .i64 i ∧ Hid (∀ j (hj : j < L.length), j < i → Pl.edFault n L j L[j] = 0) ∧ Hid (Below w.heap.size w wr)) (fun s5 _ => L.length - (intOf s5).toNat)
  case atStart => exact ⟨0, by omega, rfl, Lib.hid (fun j _ h => by omega), Lib.hid (Below.refl _ _)⟩
  case round =>
    obtain ⟨i, hi, rfl, HN, KB⟩ := hrel
    by_cases hlt : i < L.length
    · obtain ⟨_, _, e, -, -, rd⟩ := eds_read (HL.out.below KB.out)
      cases e
      obtain ⟨g, f, rfl, hg, q0, q1, q2, -⟩ := rd i hlt
      have GE := Lib.hid (show Pl.edOk n ⟨L[i].a, L[i].b, L[i].c⟩ = true → (L.take i).any (Pl.edSame ⟨L[i].a, L[i].b, L[i].c⟩) = false → Pl.edFault n L i L[i] = 0 from fun h h2 => Pl.edFault_ok h h2)
      have GC := Lib.hid (show Pl.edOk n ⟨L[i].a, L[i].b, L[i].c⟩ = true → (L.take i).any (Pl.edSame ⟨L[i].a, L[i].b, L[i].c⟩) = true → Pl.edFault n L i L[i] = 7 from fun h h2 => Pl.edFault_clash h h2)
      have GX := Lib.hid (show Pl.edOk n ⟨L[i].a, L[i].b, L[i].c⟩ = false → Pl.edFault n L i L[i] = 1 from fun h => Pl.edFault_bad h)
      clear rd
      generalize L[i].a = xa at *
      generalize L[i].b = xb at *
      generalize L[i].c = xc at *
      go_upto_region 9 with fail
      obtain ⟨B, hBz⟩ : ∃ B, wr.heap.size = B := ⟨_, rfl⟩
      refine abs_t (fun y => Hid (EdIn y wr.heap.size xa xb xc) ∧ Hid (Below w.heap.size w y)) ⟨Lib.hid (obj_new _ _), Lib.hid (KB.out.alloc KB.out.size _)⟩ ?_
      rw [hBz]
      clear q0 q1 q2 hBz
      rintro y ⟨EB, KY⟩
      obtain ⟨q0, q1, q2⟩ := EB.out.cells
      obtain ⟨ok, hok⟩ : ∃ ok, Pl.edOk n ⟨xa, xb, xc⟩ = ok := ⟨_, rfl⟩
      have HOK := Lib.hid hok
      go_cut [64] from 28 to 64 (fun v z => v = .bool (!ok) ∧ y = z)
      case first =>
        have HE := Lib.hid (show (ok = true ↔ (0 ≤ xa ∧ xa < n ∧ 0 ≤ xb ∧ xb < n ∧ xa ≠ xb ∧ 1 ≤ xc ∧ xc ≤ 1000000)) from by rw [← hok]; simp [Pl.edOk])
        clear hok
        cases ok
        · have Fin := Lib.hid (show ∀ r : Bool, r = true → Value.bool r = .bool (!false) from fun r h => by rw [h]; rfl)
          have HNE := Lib.hid (show ¬ (0 ≤ xa ∧ xa < n ∧ 0 ≤ xb ∧ xb < n ∧ xa ≠ xb ∧ 1 ≤ xc ∧ xc ≤ 1000000) from fun h => by have := HE.out.2 h; cases this)
          by_cases c1 : xa < 0
          · go_wp2_with fail
            go_meet
            exact ⟨rfl, rfl⟩
          · by_cases c2 : n ≤ xa
            · go_wp2_with fail
              go_meet
              exact ⟨rfl, rfl⟩
            · by_cases c3 : xb < 0
              · go_wp2_with fail
                go_meet
                exact ⟨rfl, rfl⟩
              · by_cases c4 : n ≤ xb
                · go_wp2_with fail
                  go_meet
                  exact ⟨rfl, rfl⟩
                · by_cases c5 : xa = xb
                  · have d5 : (xa == xb) = true := by simp [c5]
                    clear c5
                    go_wp2_with fail
                    go_meet
                    exact ⟨rfl, rfl⟩
                  · have d5 : (xa == xb) = false := by simp [c5]
                    have C5 := Lib.hid c5
                    clear c5
                    by_cases c6 : xc < 1
                    · go_wp2_with fail
                      go_meet
                      exact ⟨rfl, rfl⟩
                    · have c7 : 1000000 < xc := by
                        by_cases q : 1000000 < xc
                        · exact q
                        · exact absurd ⟨by omega, by omega, by omega, by omega, C5.out, by omega, by omega⟩ HNE.out
                      go_wp2_with fail
                      go_meet
                      exact ⟨rfl, rfl⟩
        · obtain ⟨c1, c2, c3, c4, c5, c6, c7⟩ := HE.out.1 rfl
          have d5 : (xa == xb) = false := by simp [c5]
          clear c5
          have e1 : ¬ xa < 0 := by omega
          have e2 : ¬ n ≤ xa := by omega
          have e3 : ¬ xb < 0 := by omega
          have e4 : ¬ n ≤ xb := by omega
          have e6 : ¬ xc < 1 := by omega
          have e7 : decide (1000000 < xc) = false := by simp; omega
          go_wp2_with fail
          go_meet
          exact ⟨by simp [e7], rfl⟩
      case rest =>
      obtain ⟨rfl, rfl⟩ := hcut
      clear hok
      cases ok
      · clear q0 q1 q2
        go_wp2_with fail
        go_ret
        exact ⟨1, rfl, HB.out 1 (by decide) i hlt (GX.out HOK.out) (fun j hj => HN.out j (by omega) hj), KY.out⟩
      · clear q0 q1 q2 KB
        go_upto_region 12 with fail
        obtain ⟨yo, hyo⟩ : ∃ yo, y = yo := ⟨_, rfl⟩
        rw [hyo] at KY EB ⊢
        clear hyo
        go_loopw [7] (fun s7 wr => ∃ k : Nat, k ≤ i ∧ s7 = .int .i64 k ∧ Hid ((L.take k).any (Pl.edSame ⟨xa, xb, xc⟩) = false) ∧ Hid (EdIn wr B xa xb xc) ∧ Hid (Below w.heap.size w wr)) (fun s7 _ => i - (intOf s7).toNat)
        case atStart => exact ⟨0, by omega, rfl, Lib.hid (by simp), EB, KY⟩
        case round =>
          clear KY EB
          obtain ⟨k, hk, rfl, HA, EB, KY⟩ := hrel
          by_cases hki : k < i
          · have hkl : k < L.length := by omega
            obtain ⟨_, _, e, -, -, rd⟩ := eds_read (HL.out.below KY.out)
            cases e
            obtain ⟨g', f', e2, hg', q0, q1, q2, -⟩ := rd k hkl
            cases e2
            have HT := Lib.hid (show (L.take (k + 1)).any (Pl.edSame ⟨xa, xb, xc⟩) = ((L.take k).any (Pl.edSame ⟨xa, xb, xc⟩) || Pl.edSame ⟨xa, xb, xc⟩ ⟨L[k].a, L[k].b, L[k].c⟩) by rw [Pl.take_succ' L k hkl, List.any_append]; simp)
            rw [HA.out, Bool.false_or] at HT
            have HTI := Lib.hid (show (L.take (k + 1)).any (Pl.edSame ⟨xa, xb, xc⟩) = true → (L.take i).any (Pl.edSame ⟨xa, xb, xc⟩) = true from fun h => by
              obtain ⟨x, h1, h2⟩ := List.any_eq_true.1 h
              exact List.any_eq_true.2 ⟨x, (List.take_subset_take_left L (by omega)) h1, h2⟩)
            clear rd HA
            generalize L[k].a = ya at *
            generalize L[k].b = yb at *
            generalize L[k].c = yc at *
            go_upto_region 15 with fail
            obtain ⟨C, hC⟩ : ∃ C, wr.heap.size = C := ⟨_, rfl⟩
            refine abs_t (fun y => Hid (EdIn y wr.heap.size ya yb yc) ∧ Hid (EdIn y B xa xb xc) ∧ Hid (Below w.heap.size w y)) ⟨Lib.hid (obj_new _ _), Lib.hid (obj_old EB.out _), Lib.hid (KY.out.alloc KY.out.size _)⟩ ?_
            rw [hC]
            clear q0 q1 q2 hC EB KY
            rintro y ⟨EC, EB, KY⟩
            obtain ⟨q0, q1, q2⟩ := EC.out.cells
            obtain ⟨p0, p1, p2⟩ := EB.out.cells
            obtain ⟨m, hm⟩ : ∃ m, Pl.edSame ⟨xa, xb, xc⟩ ⟨ya, yb, yc⟩ = m := ⟨_, rfl⟩
            have HM := Lib.hid hm
            have HMM := Lib.hid (show m = true ↔ (ya = xa ∧ yb = xb) ∨ (ya = xb ∧ yb = xa) from by rw [← hm]; unfold Pl.edSame; simp; omega)
            rw [hm] at HT
            clear hm
            go_cut [99] from 74 to 99 (fun v z => v = .bool m ∧ y = z)
            case first =>
              by_cases e1 : ya = xa
              · have d1 : (ya == xa) = true := by simp [e1]
                by_cases e2 : yb = xb
                · have d2 : (yb == xb) = true := by simp [e2]
                  have HX := Lib.hid (HMM.out.2 (.inl ⟨e1, e2⟩))
                  clear e1 e2
                  go_wp2_with fail
                  go_meet
                  exact ⟨by rw [HX.out], rfl⟩
                · have d2 : (yb == xb) = false := by simp [e2]
                  by_cases e3 : ya = xb
                  · have d3 : (ya == xb) = true := by simp [e3]
                    by_cases e4 : yb = xa
                    · have d4 : (yb == xa) = true := by simp [e4]
                      have HX := Lib.hid (HMM.out.2 (.inr ⟨e3, e4⟩))
                      clear e1 e2 e3 e4
                      go_wp2_with fail
                      go_meet
                      exact ⟨by rw [HX.out], rfl⟩
                    · have d4 : (yb == xa) = false := by simp [e4]
                      have HX := Lib.hid (show m = false by
                        cases q : m with
                        | false => rfl
                        | true => exact absurd (HMM.out.1 q) (by omega))
                      clear e1 e2 e3 e4
                      go_wp2_with fail
                      go_meet
                      exact ⟨by rw [HX.out], rfl⟩
                  · have d3 : (ya == xb) = false := by simp [e3]
                    have HX := Lib.hid (show m = false by
                      cases q : m with
                      | false => rfl
                      | true => exact absurd (HMM.out.1 q) (by omega))
                    clear e1 e2 e3
                    go_wp2_with fail
                    go_meet
                    exact ⟨by rw [HX.out], rfl⟩
              · have d1 : (ya == xa) = false := by simp [e1]
                by_cases e3 : ya = xb
                · have d3 : (ya == xb) = true := by simp [e3]
                  by_cases e4 : yb = xa
                  · have d4 : (yb == xa) = true := by simp [e4]
                    have HX := Lib.hid (HMM.out.2 (.inr ⟨e3, e4⟩))
                    clear e1 e3 e4
                    go_wp2_with fail
                    go_meet
                    exact ⟨by rw [HX.out], rfl⟩
                  · have d4 : (yb == xa) = false := by simp [e4]
                    have HX := Lib.hid (show m = false by
                      cases q : m with
                      | false => rfl
                      | true => exact absurd (HMM.out.1 q) (by omega))
                    clear e1 e3 e4
                    go_wp2_with fail
                    go_meet
                    exact ⟨by rw [HX.out], rfl⟩
                · have d3 : (ya == xb) = false := by simp [e3]
                  have HX := Lib.hid (show m = false by
                    cases q : m with
                    | false => rfl
                    | true => exact absurd (HMM.out.1 q) (by omega))
                  clear e1 e3
                  go_wp2_with fail
                  go_meet
                  exact ⟨by rw [HX.out], rfl⟩
            case rest =>
            obtain ⟨rfl, rfl⟩ := hcut
            clear q0 q1 q2 p0 p1 p2
            cases m
            · go_wp2_with fail
              go_roundw
              case measure => simp [intOf]; omega
              case rel => exact ⟨k + 1, by omega, by go_num, HT, EB, KY⟩
            · go_wp2_with fail
              go_ret
              exact ⟨7, rfl, HB.out 7 (by decide) i hlt (GC.out HOK.out (HTI.out HT.out)) (fun j hj => HN.out j (by omega) hj), KY.out⟩
          · have hkk : k = i := by omega
            have HAi := Lib.hid (show (L.take i).any (Pl.edSame ⟨xa, xb, xc⟩) = false by have := HA.out; rw [hkk] at this; exact this)
            clear HA
            have HNX := Lib.hid (show ∀ j (hj : j < L.length), j < i + 1 → Pl.edFault n L j L[j] = 0 from fun j hj hji => by
              by_cases e : j = i
              · subst e; exact GE.out HOK.out HAi.out
              · exact HN.out j hj (by omega))
            have HKK := Lib.hid hkk
            clear hkk
            go_wp2_with fail
            go_roundw
            case measure => simp [intOf]; omega
            case rel => exact ⟨i + 1, by omega, by go_num, HNX, KY⟩
    · go_wp2_with fail
      go_ret
      exact ⟨0, rfl, HG.out (fun k hk => HN.out k hk (by omega)), KB.out⟩
end Go.Proofs.YtmmfnalcdekkbaaDoor
