import Derived.Test.YtnbcajciobfljaaViewBump
import Derived.Test.YtnbcajciobfljaaSameMb
/-! The walk of the law ViewOnce. -/
namespace Go.Proofs.Ytnbcajciobfljaa
open Go.RowKit
set_option linter.unusedVariables false
set_option linter.unusedSimpArgs false
theorem merge_good (v1 v2 : Value) (A B : List Mb) (w : World) (h1 : IsMs w v1 A) (h2 : IsMs w v2 B) (g1 : Pl.GoodV A) (g2 : Pl.GoodV B) :
    Calls Try.prog 6 #[v1, v2] w fun e w' => ∃ v', e = .returned (.tuple #[v', .nilIface]) ∧ IsMs w' v' (Pl.mergeV A B) ∧ Below w.heap.size w w' :=
  (merge_any v1 v2 A B w h1 h2).mono fun e w' ⟨f, v', h, hf, hm, k⟩ => by
    obtain rfl : f = 0 := hf.eq ⟨0, g1.view, .inr ⟨rfl, g2.view⟩⟩
    exact ⟨v', by rw [h, errV_nil], by rw [if_pos rfl] at hm; exact hm, k⟩
theorem merge_bad (v1 v2 : Value) (A B : List Mb) (w : World) (h1 : IsMs w v1 A) (h2 : IsMs w v2 B) (g : ¬ (Pl.GoodV A ∧ Pl.GoodV B)) :
    Calls Try.prog 6 #[v1, v2] w fun e w' => ∃ (v' : Value) (k : Int), e = .returned (.tuple #[v', .iface 38 (.int .i64 k)]) ∧ Below w.heap.size w w' :=
  (merge_any v1 v2 A B w h1 h2).mono fun e w' ⟨f, v', h, hf, hm, k⟩ => by
    have h0 : f ≠ 0 := fun e => by subst e; exact g hf.zero
    exact ⟨v', f, by rw [h, errV_hit f h0], k⟩
theorem newer_good (v1 v2 : Value) (A B : List Mb) (w : World) (h1 : IsMs w v1 A) (h2 : IsMs w v2 B) (g1 : Pl.GoodV A) (g2 : Pl.GoodV B) :
    Calls Try.prog 8 #[v1, v2] w fun e w' => ∃ v', e = .returned (.tuple #[v', .nilIface]) ∧ IsMs w' v' (Pl.newerV A B) ∧ Below w.heap.size w w' :=
  (newer_any v1 v2 A B w h1 h2).mono fun e w' ⟨f, v', h, hf, hm, k⟩ => by
    obtain rfl : f = 0 := hf.eq ⟨0, g1.view, .inr ⟨rfl, g2.view⟩⟩
    exact ⟨v', by rw [h, errV_nil], by rw [if_pos rfl] at hm; exact hm, k⟩
theorem check_bad (v1 : Value) (A : List Mb) (w : World) (h1 : IsMs w v1 A) (g : ¬ Pl.GoodV A) :
    Calls Try.prog 9 #[v1] w fun e w' => ∃ k : Int, e = .returned (.iface 38 (.int .i64 k)) ∧ Below w.heap.size w w' :=
  (viewCheck_any v1 A w h1).mono fun e w' ⟨f, h, hf, k⟩ => by
    have h0 : f ≠ 0 := fun e => by subst e; exact g hf.good
    exact ⟨f, by rw [h, errV_hit f h0], k⟩
theorem check_good (v1 : Value) (A : List Mb) (w : World) (h1 : IsMs w v1 A) (g : Pl.GoodV A) :
    Calls Try.prog 9 #[v1] w fun e w' => e = .returned .nilIface ∧ Below w.heap.size w w' :=
  (viewCheck_any v1 A w h1).mono fun e w' ⟨f, h, hf, k⟩ => by
    obtain rfl : f = 0 := hf.eq g.view
    exact ⟨by rw [h, errV_nil], k⟩
theorem bump_none (w : World) :
    Calls Try.prog 5 #[.slice none 0 0, .int .i64 3, .bool true] w fun e w' => ∃ b f c, e = .returned (.tuple #[.slice (some ⟨b, f, none⟩) 1 c, .nilIface]) ∧ 1 ≤ c ∧ w'.cell? ⟨b, f, none⟩ = some (.int .i64 3) ∧ w'.cell? ⟨b, f + 1, none⟩ = some (.int .i64 1) ∧ Below w.heap.size w w' :=
  (bump_any (.slice none 0 0) [] 3 true w (IsMs.nil w)).mono fun e w' ⟨f, v', h, hf, hm, k⟩ => by
    have g0 : Pl.GoodV [] := ⟨by decide, by simp, List.Pairwise.nil⟩
    obtain rfl : f = 0 := hf.eq ⟨0, g0.view, .inr ⟨rfl, by decide⟩⟩
    rw [if_pos rfl, show Pl.putV [] (Pl.bumpM [] 3 true) = [⟨3, 1, true⟩] from rfl] at hm
    obtain ⟨oa, c, e2, hc, -, -, rd⟩ := ms_read hm
    obtain ⟨b, f, e3, -, q0, q1, -⟩ := rd 0 (by decide)
    refine ⟨b, f, c, ?_, ?_, ?_, ?_, k⟩
    · rw [h, e2, e3, errV_nil]; rfl
    · exact hc
    · simpa using q0
    · simpa using q1
set_option maxRecDepth 100000 in
set_option maxHeartbeats 8000000 in
theorem walk_ViewOnce (w : World) (v1 : Value) (A : List Mb) (o1 : IsMs w v1 A) (v2 : Value) (B : List Mb) (o2 : IsMs w v2 B) (v3 : Value) (C : List Mb) (o3 : IsMs w v3 C) :
    Calls Try.prog 3 #[v1, v2, v3] w fun e w' => e = .returned (.bool true) ∧ Below w.heap.size w w' := by
  have H1 := Lib.hid o1
  have H2 := Lib.hid o2
  have H3 := Lib.hid o3
  have BN := Lib.hid (bump_none w)
  have ok0 : (0 : Int) < 1 := by decide
  clear o1 o2 o3
  go_enter Try.func3, Try.ntmps3
  go_upto_region 2 with (go_at_call 5; (with_reducible refine BN.out.mono ?_); rintro r z0 ⟨b, f, c, rfl, hc, q0, q1, k⟩; have K0 := Lib.hid k; clear k)
  go_upto_region 4 with fail
  clear q0 q1 BN
  by_cases hg : Pl.GoodV A ∧ Pl.GoodV B
  case neg =>
    have M1 := Lib.hid (fun y (k : Below w.heap.size w y) => merge_bad v1 v2 A B y (H1.out.below k) (H2.out.below k) hg)
    have M2 := Lib.hid (fun y (k : Below w.heap.size w y) => merge_bad v2 v1 B A y (H2.out.below k) (H1.out.below k) (fun q => hg ⟨q.2, q.1⟩))
    clear hg
    go_upto_region 5 with (go_at_call 6; (with_reducible refine (M1.out _ K0.out).mono ?_); rintro r z1 ⟨va, ka, rfl, k⟩; have K1 := Lib.hid (K0.out.trans (k.mono K0.out.size)); clear k)
    go_upto_region 6 with (go_at_call 6; (with_reducible refine (M2.out _ K1.out).mono ?_); rintro r z2 ⟨vb, kb, rfl, k⟩; have K2 := Lib.hid (K1.out.trans (k.mono K1.out.size)); clear k)
    go_wp2_with fail
    go_ret
    exact ⟨rfl, K2.out⟩
  obtain ⟨g1, g2⟩ := hg
  have G1 := Lib.hid g1
  have G2 := Lib.hid g2
  have GAB := Lib.hid (Pl.mergeV_good g1 g2.ok)
  have ECO := Lib.hid (Pl.mergeV_comm g2 g1)
  have EAG := Lib.hid (Pl.mergeV_again g1 g2)
  have ENE := Lib.hid (Pl.mergeV_newer g1 g2)
  have GNE := Lib.hid (Pl.newerV_good (A := A) g2)
  obtain ⟨AB, hAB⟩ : ∃ AB, Pl.mergeV A B = AB := ⟨_, rfl⟩
  have M1 := Lib.hid (fun y (k : Below w.heap.size w y) => by have := merge_good v1 v2 A B y (H1.out.below k) (H2.out.below k) g1 g2; rw [hAB] at this; exact this)
  have M2 := Lib.hid (fun y (k : Below w.heap.size w y) => by have := merge_good v2 v1 B A y (H2.out.below k) (H1.out.below k) g2 g1; rw [ECO.out, hAB] at this; exact this)
  rw [hAB] at GAB EAG ENE
  have HAB := Lib.hid hAB
  clear g1 g2 hAB
  go_upto_region 5 with (go_at_call 6; (with_reducible refine (M1.out _ K0.out).mono ?_); rintro r z1 ⟨va, rfl, ha, k⟩; have X1 := Lib.hid ha; have K1 := Lib.hid (K0.out.trans (k.mono K0.out.size)); clear k ha)
  go_upto_region 6 with (go_at_call 6; (with_reducible refine (M2.out _ K1.out).mono ?_); rintro r z2 ⟨vb, rfl, hb, k⟩; have Y2 := Lib.hid hb; have X2 := Lib.hid (X1.out.below k); have K2 := Lib.hid (K1.out.trans (k.mono K1.out.size)); clear k hb)
  clear M1 M2 X1 K0 K1 ECO
  have S8 := Lib.hid (sameMbs_b va vb AB z2 X2.out Y2.out)
  go_upto_region 9 with (go_at_call 7; (with_reducible refine S8.out.mono ?_); rintro r z3 ⟨rfl, k⟩; have X3 := Lib.hid (X2.out.below k); have K3 := Lib.hid (K2.out.trans (k.mono K2.out.size)); clear k)
  clear S8 X2 Y2 K2
  have M9 := Lib.hid (by have := merge_good va v1 AB A z3 X3.out (H1.out.below K3.out) GAB.out G1.out; rw [EAG.out] at this; exact this)
  go_upto_region 10 with (go_at_call 6; (with_reducible refine M9.out.mono ?_); rintro r z4 ⟨vc, rfl, hb, k⟩; have Y4 := Lib.hid hb; have X4 := Lib.hid (X3.out.below k); have K4 := Lib.hid (K3.out.trans (k.mono K3.out.size)); clear k hb)
  clear M9 X3 K3 EAG
  have S10 := Lib.hid (sameMbs_b vc va AB z4 Y4.out X4.out)
  go_upto_region 11 with (go_at_call 7; (with_reducible refine S10.out.mono ?_); rintro r z5 ⟨rfl, k⟩; have X5 := Lib.hid (X4.out.below k); have K5 := Lib.hid (K4.out.trans (k.mono K4.out.size)); clear k)
  clear S10 X4 Y4 K4
  have M11 := Lib.hid (newer_good v1 v2 A B z5 (H1.out.below K5.out) (H2.out.below K5.out) G1.out G2.out)
  go_upto_region 12 with (go_at_call 8; (with_reducible refine M11.out.mono ?_); rintro r z6 ⟨vd, rfl, hb, k⟩; have Y6 := Lib.hid hb; have X6 := Lib.hid (X5.out.below k); have K6 := Lib.hid (K5.out.trans (k.mono K5.out.size)); clear k hb)
  clear M11 X5 K5
  have M12 := Lib.hid (by have := merge_good v1 vd A (Pl.newerV A B) z6 (H1.out.below K6.out) Y6.out G1.out GNE.out; rw [ENE.out] at this; exact this)
  go_upto_region 13 with (go_at_call 6; (with_reducible refine M12.out.mono ?_); rintro r z7 ⟨ve, rfl, hb, k⟩; have Y7 := Lib.hid hb; have X7 := Lib.hid (X6.out.below k); have K7 := Lib.hid (K6.out.trans (k.mono K6.out.size)); clear k hb)
  clear M12 X6 K6 Y6 GNE ENE
  have S13 := Lib.hid (sameMbs_b ve va AB z7 Y7.out X7.out)
  go_upto_region 14 with (go_at_call 7; (with_reducible refine S13.out.mono ?_); rintro r z8 ⟨rfl, k⟩; have X8 := Lib.hid (X7.out.below k); have K8 := Lib.hid (K7.out.trans (k.mono K7.out.size)); clear k)
  clear S13 X7 Y7 K7
  go_upto_region 16 with fail
  by_cases hc3 : Pl.GoodV C
  case neg =>
    have M1 := Lib.hid (merge_bad v2 v3 B C z8 (H2.out.below K8.out) (H3.out.below K8.out) (fun q => hc3 q.2))
    have CK := Lib.hid (fun y (k : Below w.heap.size w y) => check_bad v3 C y (H3.out.below k) hc3)
    clear hc3
    go_upto_region 17 with (go_at_call 6; (with_reducible refine M1.out.mono ?_); rintro r z9 ⟨vf, kf, rfl, k⟩; have K9 := Lib.hid (K8.out.trans (k.mono K8.out.size)); clear k)
    go_wp2_with (go_at_call 9; (with_reducible refine (CK.out _ K9.out).mono ?_); rintro r z10 ⟨kg, rfl, k⟩; have K10 := Lib.hid (K9.out.trans (k.mono K9.out.size)); clear k)
    go_ret
    exact ⟨rfl, K10.out⟩
  have G3 := Lib.hid hc3
  have GBC := Lib.hid (Pl.mergeV_good G2.out hc3.ok)
  have EAS := Lib.hid (Pl.mergeV_assoc G1.out G2.out hc3)
  rw [HAB.out] at EAS
  obtain ⟨BC, hBC⟩ : ∃ BC, Pl.mergeV B C = BC := ⟨_, rfl⟩
  rw [hBC] at EAS GBC
  have M16 := Lib.hid (by have := merge_good v2 v3 B C z8 (H2.out.below K8.out) (H3.out.below K8.out) G2.out hc3; rw [hBC] at this; exact this)
  clear hc3 hBC
  go_upto_region 17 with (go_at_call 6; (with_reducible refine M16.out.mono ?_); rintro r z9 ⟨vf, rfl, hb, k⟩; have Y9 := Lib.hid hb; have X9 := Lib.hid (X8.out.below k); have K9 := Lib.hid (K8.out.trans (k.mono K8.out.size)); clear k hb)
  clear M16 X8 K8
  go_upto_region 19 with fail
  have M19 := Lib.hid (by have := merge_good va v3 AB C z9 X9.out (H3.out.below K9.out) GAB.out G3.out; rw [EAS.out] at this; exact this)
  go_upto_region 20 with (go_at_call 6; (with_reducible refine M19.out.mono ?_); rintro r zA ⟨vg, rfl, hb, k⟩; have XA := Lib.hid hb; have YA := Lib.hid (Y9.out.below k); have KA := Lib.hid (K9.out.trans (k.mono K9.out.size)); clear k hb)
  clear M19 X9 Y9 K9
  have M20 := Lib.hid (merge_good v1 vf A BC zA (H1.out.below KA.out) YA.out G1.out GBC.out)
  go_upto_region 21 with (go_at_call 6; (with_reducible refine M20.out.mono ?_); rintro r zB ⟨vh, rfl, hb, k⟩; have YB := Lib.hid hb; have XB := Lib.hid (XA.out.below k); have KB := Lib.hid (KA.out.trans (k.mono KA.out.size)); clear k hb)
  clear M20 XA YA KA
  have S21 := Lib.hid (sameMbs_b vg vh _ zB XB.out YB.out)
  go_wp2_with (go_at_call 7; (with_reducible refine S21.out.mono ?_); rintro r zC ⟨rfl, k⟩; have KC := Lib.hid (KB.out.trans (k.mono KB.out.size)); clear k)
  go_ret
  exact ⟨rfl, KC.out⟩
end Go.Proofs.Ytnbcajciobfljaa
