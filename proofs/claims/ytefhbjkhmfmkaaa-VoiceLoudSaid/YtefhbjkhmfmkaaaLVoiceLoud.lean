import Derived.Test.YtefhbjkhmfmkaaaVoiceG
/-! The walk of the law VoiceLoud. -/
namespace Go.Proofs.Ytefhbjkhmfmkaaa
open Go.RowKit
set_option linter.unusedVariables false
set_option linter.unusedSimpArgs false
set_option maxRecDepth 100000 in
set_option maxHeartbeats 2000000 in
theorem walk_VoiceLoud (a : Int) (ha : (Lit.int .i64 a).wf = true) (b : Int) (hb : (Lit.int .i64 b).wf = true) (l : Int) (hl : (Lit.int .i64 l).wf = true) (w : World) :
    Calls Try.prog 3 #[.int .i64 a, .int .i64 b, .int .i64 l] w fun e w' => e = .returned (.bool true) ∧ Below w.heap.size w w' := by
  have NW := Lib.hid (voiceNew_ok 2 (by omega) w)
  clear ha hb hl
  go_enter Try.func3, Try.ntmps3
  go_upto_region 2 with (go_at_call 5; (with_reducible refine NW.out.mono ?_); rintro r z0 ⟨ob, bm, rfl, h1, h2, h3, h4, h5, k⟩; have OB := Lib.hid h1; have V0 := Lib.hid (show Voi z0 ob 2 (-1) bm 0 (Pl.Two a b (0 : Nat) 0) from ⟨h4, by have := h5; rw [Pl.Two.start a b] at this; exact this, fun i s h => by simp [Pl.Two] at h, by omega, fun e => h3 e.symm, by omega⟩); have K0 := Lib.hid k; clear h1 h2 h3 h4 h5 k)
  clear NW
  by_cases c1 : a < 0
  · go_wp2_with fail
    go_ret
    exact ⟨rfl, K0.out⟩
  by_cases c2 : 200 < a
  · go_wp2_with fail
    go_ret
    exact ⟨rfl, K0.out⟩
  by_cases c3 : b < 0
  · go_wp2_with fail
    go_ret
    exact ⟨rfl, K0.out⟩
  by_cases c4 : 200 < b
  · go_wp2_with fail
    go_ret
    exact ⟨rfl, K0.out⟩
  by_cases c5 : a = b
  · subst c5
    go_wp2_with fail
    go_ret
    exact ⟨rfl, K0.out⟩
  by_cases c6 : l < 20
  · go_wp2_with fail
    go_ret
    exact ⟨rfl, K0.out⟩
  by_cases c7 : 127 < l
  · go_wp2_with fail
    go_ret
    exact ⟨rfl, K0.out⟩
  obtain ⟨n, hn⟩ : ∃ n : Nat, l = n := ⟨l.toNat, by omega⟩
  subst hn
  have HA := Lib.hid (show 0 ≤ a ∧ a ≤ 200 from by omega)
  have HB := Lib.hid (show 0 ≤ b ∧ b ≤ 200 from by omega)
  have HC := Lib.hid (show a ≠ b from c5)
  have HL := Lib.hid (show 20 ≤ n ∧ n ≤ 127 from by omega)
  have CK := Lib.hid (show Pl.chk1 n 10 0 = true from Pl.chk_all ⟨n, by omega⟩ (by show 20 ≤ n; omega))
  go_upto_region 5 with fail
  clear c1 c2 c3 c4 c5 c6 c7
  go_loopw [8, 9] (fun s8 s9 wr => ∃ (i x : Nat) (sp : Int) (bm c : Nat), i ≤ 10 ∧ s9 = .int .i64 i ∧ s8 = .nilIface ∧ Hid (i = 10 → sp = a) ∧ Hid (sp = -1 ∨ sp = a) ∧ Hid (Voi wr ob 2 sp bm c (Pl.Two a b x 0)) ∧ Hid (Pl.chk1 n (10 - i) x = true) ∧ Hid (Below w.heap.size w wr)) (fun _ s9 _ => 10 - (intOf s9).toNat)
  case atStart => exact ⟨0, 0, -1, _, 0, by omega, rfl, rfl, Lib.hid (by omega), Lib.hid (.inl rfl), V0, CK, K0⟩
  case round =>
    clear V0 CK K0
    obtain ⟨i, x, sp, bm, c, hi, rfl, rfl, HS, HP, VR, CR, KR⟩ := hrel
    by_cases hlt : i < 10
    · have CR2 := CR.out
      rw [show 10 - i = (10 - (i + 1)) + 1 by omega] at CR2
      unfold Pl.chk1 at CR2
      rw [Bool.and_eq_true, decide_eq_true_eq] at CR2
      have CX := Lib.hid CR2.1
      have CY := Lib.hid CR2.2
      have hlt2 : (i : Int) < 10 := by omega
      have LD := Lib.hid (loud1 ob _ c w.heap.size sp a b n x wr VR.out HA.out HB.out HC.out HL.out.2 HP.out CX.out OB.out)
      clear CR2 CR VR HP HS
      go_upto_region 8 with (go_at_call 6; (with_reducible refine LD.out.mono ?_); rintro r z1 ⟨rfl, ⟨bm1, c1, h1⟩, k⟩; have V1 := Lib.hid h1; have K1 := Lib.hid (KR.out.trans k); clear h1 k)
      have SP := Lib.hid (voiceSpeaker_any ob _ 2 a z1 V1.out.at_)
      clear LD KR
      go_wp2_with (go_at_call 7; (with_reducible refine SP.out.mono ?_); rintro r z2 ⟨rfl, rfl⟩)
      go_roundw
      case measure => simp only [intOf]; omega
      case rel => exact ⟨i + 1, _, a, _, _, by omega, by simp, rfl, Lib.hid (fun _ => rfl), Lib.hid (.inr rfl), V1, CY, K1⟩
    · have hie : i = 10 := by omega
      subst hie
      obtain rfl : a = sp := (HS.out rfl).symm
      clear hlt hi HS HP
      rw [show ((10 : Nat) : Int) = (10 : Int) from rfl]
      go_upto_region 12 with fail
      go_loopw [8, 10, 11] (fun s8 s10 s11 wr => ∃ (i x y : Nat) (t : Bool) (bm c : Nat), i ≤ 40 ∧ s11 = .int .i64 i ∧ s10 = .bool t ∧ s8 = .nilIface ∧ Hid (Voi wr ob 2 (if t = true then b else a) bm c (Pl.Two a b x y)) ∧ Hid (Pl.chk2 n (40 - i) x y t = true) ∧ Hid (Below w.heap.size w wr)) (fun _ _ s11 _ => 40 - (intOf s11).toNat)
      case atStart => exact ⟨0, x, 0, false, _, c, by omega, rfl, rfl, rfl, VR, CR, KR⟩
      case round =>
        clear VR CR KR
        obtain ⟨i, x, y, t, bm, c, hi, rfl, rfl, rfl, VR, CR, KR⟩ := hrel
        by_cases hlt : i < 40
        · have CR2 := CR.out
          rw [show 40 - i = (40 - (i + 1)) + 1 by omega] at CR2
          unfold Pl.chk2 at CR2
          rw [Bool.and_eq_true, Bool.and_eq_true, decide_eq_true_eq] at CR2
          have CX := Lib.hid CR2.1.1
          have CZ := Lib.hid (show t = true → Pl.nscN x 0 ≤ Pl.nscN y n + 200 from fun e => by have := CR2.1.2; rw [e] at this; simpa using this)
          have CY := Lib.hid CR2.2
          have hlt2 : (i : Int) < 40 := by omega
          have LD := Lib.hid (loud2 ob _ c w.heap.size a b n x y t wr VR.out HA.out HB.out HC.out HL.out.2 CX.out CZ.out OB.out)
          have TT := Lib.hid (show t = true → (t || decide (Pl.nscN x 0 = 0 ∨ Pl.nscN x 0 + 200 < Pl.nscN y n)) = true from fun e => by rw [e]; rfl)
          generalize (t || decide (Pl.nscN x 0 = 0 ∨ Pl.nscN x 0 + 200 < Pl.nscN y n)) = t1 at *
          obtain ⟨sp1, hsp1⟩ : ∃ s, (if t1 = true then b else a) = s := ⟨_, rfl⟩
          rw [hsp1] at LD
          have SPE := Lib.hid hsp1
          have hcc := HC.out
          clear CR2 CR VR hsp1
          go_upto_region 15 with (go_at_call 6; (with_reducible refine LD.out.mono ?_); rintro r z1 ⟨rfl, ⟨bm1, c1, h1⟩, k⟩; have V1 := Lib.hid h1; have K1 := Lib.hid (KR.out.trans k); clear h1 k)
          have SP := Lib.hid (voiceSpeaker_any ob _ 2 sp1 z1 V1.out.at_)
          have V2 := Lib.hid (show Voi z1 ob 2 (if t1 = true then b else a) _ _ (Pl.Two a b (Pl.nscN x 0 : Nat) (Pl.nscN y n : Nat)) from by rw [SPE.out]; exact V1.out)
          clear LD KR V1
          have hbs : (sp1 == b) = t1 := by
            have := SPE.out
            cases t1
            · simp at this; subst this; simp [hcc]
            · simp at this; subst this; simp
          cases t
          · go_wp2_with (go_at_call 7; (with_reducible refine SP.out.mono ?_); rintro r z2 ⟨rfl, rfl⟩)
            go_roundw
            case measure => simp only [intOf]; omega
            case rel => exact ⟨i + 1, _, _, t1, _, _, by omega, by simp, rfl, rfl, V2, CY, K1⟩
          · have ht1 : t1 = true := TT.out rfl
            subst ht1
            have hs2 : sp1 = b := by simpa using SPE.out.symm
            subst hs2
            go_wp2_with (go_at_call 7; (with_reducible refine SP.out.mono ?_); rintro r z2 ⟨rfl, rfl⟩)
            go_roundw
            case measure => simp only [intOf]; omega
            case rel => exact ⟨i + 1, _, _, true, _, _, by omega, by simp, rfl, rfl, V2, CY, K1⟩
        · have hie : i = 40 := by omega
          subst hie
          have := CR.out
          obtain rfl : t = true := by simpa [Pl.chk2] using this
          clear this
          go_wp2_with fail
          go_ret
          exact ⟨rfl, KR.out⟩
end Go.Proofs.Ytefhbjkhmfmkaaa
