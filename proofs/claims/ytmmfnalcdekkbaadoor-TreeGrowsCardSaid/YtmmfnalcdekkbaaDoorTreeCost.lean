import Derived.Test.YtmmfnalcdekkbaaDoorTreeBuildB
import Derived.Test.YtmmfnalcdekkbaaDoorTreeKids
/-! tree.Cost. -/
namespace Go.Proofs.YtmmfnalcdekkbaaDoor
open Go.RowKit
set_option linter.unusedVariables false
set_option linter.unusedSimpArgs false
/-- what the edges up from the first k nodes cost; none: one is not there -/
def costSum (L : List Ed) (ps : List Int) : Nat → Option Int
  | 0 => some 0
  | k + 1 => match costSum L ps k with
    | none => none
    | some s => if atL ps k < 0 then some s else if Pl.costF L (atL ps k) k = 0 then none else some (s + Pl.costF L (atL ps k) k)
theorem costSum_none {L : List Ed} {ps : List Int} {k m : Nat} (h : costSum L ps k = none) (hm : k ≤ m) : costSum L ps m = none := by
  induction m with
  | zero => obtain rfl : k = 0 := by omega
            exact h
  | succ m ih =>
    by_cases e : k = m + 1
    · subst e; exact h
    · unfold costSum; rw [ih (by omega)]
/-- what Cost says -/
def CostE (n : Int) (L : List Ed) (ps : List Int) (f s : Int) : Prop :=
  (f ≠ 0 ∧ Pl.EdgesF n L f ∧ s = 0) ∨ (Pl.GoodE n L ∧ f ≠ 0 ∧ TreeF ps f ∧ s = 0) ∨ (Pl.GoodE n L ∧ GoodT ps ∧ (ps.length : Int) ≠ n ∧ f = 3 ∧ s = 0) ∨
    (Pl.GoodE n L ∧ GoodT ps ∧ (ps.length : Int) = n ∧ costSum L ps ps.length = none ∧ f = 5 ∧ s = 0) ∨ (Pl.GoodE n L ∧ GoodT ps ∧ (ps.length : Int) = n ∧ costSum L ps ps.length = some s ∧ f = 0)
theorem treeCheck_good (n : Int) (v : Value) (L : List Ed) (w : World) (hL0 : IsEds w v L) (hg : Pl.GoodE n L) :
    Calls Tryd.prog 6 #[.int .i64 n, v] w fun e w' => e = .returned .nilIface ∧ Below w.heap.size w w' :=
  (treeCheck_any n v L w hL0).mono fun e w' ⟨f, h1, h2, h3⟩ => by
    obtain rfl := h2.eq (Pl.EdgesF.good.2 hg)
    exact ⟨h1, h3⟩
theorem treeCheck_bad (n : Int) (v : Value) (L : List Ed) (w : World) (hL0 : IsEds w v L) (hg : ¬ Pl.GoodE n L) :
    Calls Tryd.prog 6 #[.int .i64 n, v] w fun e w' => ∃ f : Int, e = .returned (.iface 42 (.int .i64 f)) ∧ (f ≠ 0 ∧ Pl.EdgesF n L f) ∧ Below w.heap.size w w' :=
  (treeCheck_any n v L w hL0).mono fun e w' ⟨f, h1, h2, h3⟩ => by
    have hf : f ≠ 0 := fun e => by subst e; exact hg (Pl.EdgesF.good.1 h2)
    rw [errV_hit _ hf] at h1
    exact ⟨f, h1, ⟨hf, h2⟩, h3⟩
set_option maxRecDepth 100000 in
set_option maxHeartbeats 4000000 in
theorem treeCost_any (n : Int) (v v2 : Value) (L : List Ed) (ps : List Int) (w : World) (hL0 : IsEds w v L) (hp0 : IsSl w v2 ps) :
    Calls Tryd.prog 14 #[.int .i64 n, v, v2] w fun e w' => ∃ f s : Int, e = .returned (.tuple #[.int .i64 s, errV f]) ∧ CostE n L ps f s ∧ Below w.heap.size w w' := by
  obtain ⟨oa, cp, rfl, hlc, hcm, -⟩ := eds_read hL0
  obtain ⟨o2, c2, rfl, hm2, -⟩ := isl_read hp0
  have HL := Lib.hid hL0
  have HP := Lib.hid hp0
  unfold maxLen at hm2
  by_cases hg : Pl.GoodE n L
  · have TC := Lib.hid (treeCheck_good n _ L w hL0 hg)
    have HG := Lib.hid hg
    by_cases ht : GoodT ps
    · have TD := Lib.hid (fun y (k : Below w.heap.size w y) => treecheck_good _ ps y (hp0.below k) ht)
      have HT := Lib.hid ht
      have hp16 := ht.len
      by_cases hn : (ps.length : Int) = n
      · subst hn
        have CO := Lib.hid (fun y (k : Below w.heap.size w y) => costs_any ps.length oa cp L y (hL0.below k) hg)
        clear hL0 hp0 hg ht hlc hcm
        obtain ⟨N, hN⟩ : ∃ N, w.heap.size = N := ⟨_, rfl⟩
        have HN := Lib.hid hN
        rw [hN] at TC TD CO ⊢
        clear hN
        have hz := zero256
        go_enter Tryd.func14, Tryd.ntmps14
        go_upto_region 9 with (first
          | (go_at_call 6; (with_reducible refine TC.out.mono ?_); rintro e w2 ⟨rfl, k⟩; have K := Lib.hid k; clear k)
          | (go_at_call 21; (with_reducible refine (TD.out _ K.out).mono ?_); rintro e w3 ⟨rfl, k⟩; have K3 := Lib.hid (K.out.trans (k.mono (by rw [← HN.out]; exact K.out.size))); clear k))
        go_upto_region 10 with (go_at_call 20; (with_reducible refine (CO.out _ K3.out).mono ?_); rintro e w4 ⟨cs, rfl, h2, h3, k⟩; have H2 := Lib.hid h2; have H3 := Lib.hid h3; have K4 := Lib.hid (K3.out.trans (k.mono (by rw [← HN.out]; exact K3.out.size))); clear h2 h3 k; have hst := store256 w4 cs L H2.out H3.out)
        clear hst
        refine abs_t (fun y => Hid (MatC y w4.heap.size L) ∧ Hid (Below N w y)) ⟨Lib.hid (MatC.of w4 cs L H2.out H3.out), Lib.hid (Below.setCellsE _ (by rw [← HN.out]; exact K4.out.size) _ _ _ (K4.out.alloc (by rw [← HN.out]; exact K4.out.size) _))⟩ ?_
        generalize w4.heap.size = G at *
        clear hz H2 H3 K4 K K3 CO TC TD
        rintro y ⟨MA, KB⟩
        go_upto_region 12 with fail
        go_loop [11, 34] (fun s11 s34 => ∃ (i : Nat) (s : Int), i ≤ ps.length ∧ s34 = .int .i64 i ∧ s11 = .int .i64 s ∧ 0 ≤ s ∧ s ≤ 1000000 * i ∧ Hid (costSum L ps i = some s)) (fun _ s34 => ps.length - (intOf s34).toNat)
        case atStart => exact ⟨0, 0, by omega, rfl, rfl, by omega, by omega, Lib.hid rfl⟩
        case round =>
          obtain ⟨i, s, hi, rfl, rfl, hs0, hs1, CS⟩ := hrel
          by_cases hlt : i < ps.length
          · obtain ⟨_, _, e, -, rd⟩ := isl_read (HP.out.below (by rw [HN.out]; exact KB.out))
            cases e
            obtain ⟨g, f, rfl, hg, q0⟩ := rd i hlt
            clear rd
            have hpr := HT.out.ok i hlt
            have HX := Lib.hid (show costSum L ps (i + 1) = if atL ps i < 0 then some s else if Pl.costF L (atL ps i) i = 0 then none else some (s + Pl.costF L (atL ps i) i) by
              show (match costSum L ps i with | none => none | some s => if atL ps i < 0 then some s else if Pl.costF L (atL ps i) i = 0 then none else some (s + Pl.costF L (atL ps i) i)) = _
              rw [CS.out])
            obtain ⟨p, hp⟩ : ∃ p, atL ps i = p := ⟨_, rfl⟩
            rw [hp] at q0 HX hpr
            clear hp CS
            by_cases hp0 : p < 0
            · rw [if_pos hp0] at HX
              go_wp2_with fail
              go_round
              case measure => simp [intOf]; omega
              case rel => exact ⟨i + 1, s, by omega, by go_num, rfl, hs0, by omega, HX⟩
            · rw [if_neg hp0] at HX
              obtain ⟨k, rfl⟩ : ∃ k : Nat, p = k := ⟨p.toNat, by omega⟩
              obtain ⟨-, hpr2⟩ := hpr
              have c0 : y.cell? ⟨G, k * 16 + i, none⟩ = some (.int .i64 (Pl.costF L k i)) := by
                have := MA.out (k * 16 + i) (by omega)
                rw [costAt_eq L k i (by omega)] at this
                exact this
              have hcb := HG.out.cost_lo k i
              obtain ⟨c, hc⟩ : ∃ c, Pl.costF L k i = c := ⟨_, rfl⟩
              rw [hc] at c0 hcb HX
              clear hc
              obtain ⟨hc0, hc1⟩ := hcb
              by_cases hcz : c = 0
              · rw [if_pos hcz] at HX
                have d : (c == 0) = true := by simp [hcz]
                have HF := Lib.hid (costSum_none HX.out (show i + 1 ≤ ps.length by omega))
                clear hcz
                go_wp2_with fail
                go_ret2
                exact ⟨5, 0, rfl, .inr (.inr (.inr (.inl ⟨HG.out, HT.out, rfl, HF.out, rfl, rfl⟩))), KB.out⟩
              · rw [if_neg hcz] at HX
                have d : (c == 0) = false := by simp [hcz]
                clear hcz
                have hw : IntKind.i64.wrap (s + c) = s + c := by rw [IntKind.wrap_i64]; omega
                go_wp2_with fail
                go_round
                case measure => simp [intOf]; omega
                case rel => exact ⟨i + 1, s + c, by omega, by go_num, rfl, by omega, by omega, HX⟩
          · have hii : i = ps.length := by omega
            subst hii
            go_wp2_with fail
            go_ret2
            exact ⟨0, s, rfl, .inr (.inr (.inr (.inr ⟨HG.out, HT.out, rfl, CS.out, rfl⟩))), KB.out⟩
      · have hne : ((ps.length : Int) != n) = true := by simp [hn]
        have HNE := Lib.hid hn
        clear hL0 hp0 hg ht hlc hcm hn
        go_enter Tryd.func14, Tryd.ntmps14
        go_wp2_with (first
          | (go_at_call 6; (with_reducible refine TC.out.mono ?_); rintro e w2 ⟨rfl, k⟩; have K := Lib.hid k; clear k)
          | (go_at_call 21; (with_reducible refine (TD.out _ K.out).mono ?_); rintro e w3 ⟨rfl, k⟩; have K3 := Lib.hid (K.out.trans (k.mono K.out.size)); clear k))
        go_ret2
        exact ⟨3, 0, rfl, .inr (.inr (.inl ⟨HG.out, HT.out, HNE.out, rfl, rfl⟩)), K3.out⟩
    · have TD := Lib.hid (fun y (k : Below w.heap.size w y) => treecheck_bad _ ps y (hp0.below k) ht)
      clear hL0 hp0 hg ht hlc hcm
      go_enter Tryd.func14, Tryd.ntmps14
      go_wp2_with (first
        | (go_at_call 6; (with_reducible refine TC.out.mono ?_); rintro e w2 ⟨rfl, k⟩; have K := Lib.hid k; clear k)
        | (go_at_call 21; (with_reducible refine (TD.out _ K.out).mono ?_); rintro e w3 ⟨f, rfl, hf, k⟩; have K3 := Lib.hid (K.out.trans (k.mono K.out.size)); have HF := Lib.hid hf; clear k hf))
      go_ret2
      exact ⟨f, 0, by rw [errV_hit _ HF.out.1]; rfl, .inr (.inl ⟨HG.out, HF.out.1, HF.out.2, rfl⟩), K3.out⟩
  · have TC := Lib.hid (treeCheck_bad n _ L w hL0 hg)
    clear hL0 hp0 hg hlc hcm
    go_enter Tryd.func14, Tryd.ntmps14
    go_wp2_with (go_at_call 6; (with_reducible refine TC.out.mono ?_); rintro e w2 ⟨f, rfl, hf, k⟩; have K := Lib.hid k; have HF := Lib.hid hf; clear k hf)
    go_ret2
    exact ⟨f, 0, by rw [errV_hit _ HF.out.1]; rfl, .inl ⟨HF.out.1, HF.out.2, rfl⟩, K.out⟩
end Go.Proofs.YtmmfnalcdekkbaaDoor
