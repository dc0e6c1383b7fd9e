import Derived.Test.YtefhbjkhmfmkaaaDoorRefVoiceA
import Derived.Test.YtefhbjkhmfmkaaaDoorPVoiceD
/-! choirref3.Voices.Hear. -/
namespace Go.Proofs.YtefhbjkhmfmkaaaDoor
open Go.RowKit
set_option linter.unusedVariables false
set_option linter.unusedSimpArgs false
theorem Pl.LevF.bad {L : List Vc} {f : Int} (hl : ¬ 200 < L.length) (hf : f ≠ 0) (k : Nat) (hk : k < L.length) (h : Pl.rFault L k L[k] = f) (hj : ∀ j (hj : j < k), Pl.vcFault L j (L[j]'(by omega)) = 0) : Pl.LevF L f := by
  unfold Pl.LevF
  rw [if_neg hl]
  exact .inr ⟨hf, k, hk, by rw [← Pl.rFault_eq]; exact h, hj⟩
theorem Pl.LevF.good {L : List Vc} (hl : ¬ 200 < L.length) (hj : ∀ j (hj : j < L.length), Pl.vcFault L j L[j] = 0) : Pl.LevF L 0 := by
  unfold Pl.LevF
  rw [if_neg hl]
  exact .inl ⟨rfl, hj⟩
/-- what the reference's round leaves -/
def RHear (w w' : World) (b : Nat) (many sp : Int) (K L : List Vc) (fe : Int) : Prop :=
  (fe ≠ 0 ∧ (Pl.LevF L fe ∨ (Pl.LevF L 0 ∧ fe = 4 ∧ ∃ N : List Vc, 200 < N.length ∧ N.Pairwise (fun x y => x.who < y.who) ∧ ∀ who lv, (⟨who, lv⟩ : Vc) ∈ N ↔ Pl.sc2 (Pl.lvAt K) (Pl.lvAt L) who = some lv)) ∧ Below w.heap.size w w') ∨
  (Pl.LevF L 0 ∧ fe = 0 ∧ ∃ (v' : Value) (N : List Vc), N.length ≤ 200 ∧ N.Pairwise (fun x y => x.who < y.who) ∧ (∀ who lv, (⟨who, lv⟩ : Vc) ∈ N ↔ Pl.sc2 (Pl.lvAt K) (Pl.lvAt L) who = some lv) ∧ vcK.Own w' w.heap.size v' N ∧ ∀ R, Pl.SortedOf (Pl.sc2 (Pl.lvAt K) (Pl.lvAt L)) R → RVo w' b many (Pl.nextSp (Pl.sc2 (Pl.lvAt K) (Pl.lvAt L)) R sp) v')
set_option maxRecDepth 100000 in
set_option maxHeartbeats 2000000 in
theorem rVoiceHear_1 (b : Nat) (many sp : Int) (vK v : Value) (K L : List Vc) (w : World) (hR : RVo w b many sp vK) (hK : IsVs w vK K) (hKl : K.length ≤ 200) (hKr : K.Pairwise fun x y => x.who < y.who) (hKs : Pl.Sok (Pl.lvAt K)) (hL : IsVs w v L) (hsp : -1 ≤ sp ∧ sp ≤ 200) :
    Calls Tryd.prog 7 #[.pointer (some ⟨b, 0, none⟩), v] w fun e w' => ∃ fe : Int, e = .returned (.int .i64 fe) ∧ KeepsBut b w w' ∧ RHear w w' b many sp K L fe := by
  obtain ⟨oL, cL, rfl, hlL, hcL, -, rL⟩ := vs_read hL
  unfold maxLen at hcL
  have RL := Lib.hid (show ∀ y, Below w.heap.size w y → ∀ k (hk : k < L.length), ∃ g f, oL = some ⟨g, f, none⟩ ∧ y.cell? ⟨g, f + k * 2, none⟩ = some (.int .i64 L[k].who) ∧ y.cell? ⟨g, f + k * 2 + 1, none⟩ = some (.int .i64 L[k].lvl) from fun y kk k hk => by
    obtain ⟨g, f, e, hb, q0, q1, -⟩ := rL k hk
    exact ⟨g, f, e, (kk.cell (p := ⟨g, f + k * 2, none⟩) hb).trans q0, (kk.cell (p := ⟨g, f + k * 2 + 1, none⟩) hb).trans q1⟩)
  have HR := Lib.hid hR
  have HK := Lib.hid hK
  have HKL := Lib.hid hKl
  have HKR := Lib.hid hKr
  have HKS := Lib.hid hKs
  have HSP := Lib.hid hsp
  have K0 := Lib.hid (Below.refl w.heap.size w)
  clear rL hL hR hK hKl hKr hKs hsp
  go_enter Tryd.func7, Tryd.ntmps7
  go_upto_region 1 with fail
  by_cases h200 : 200 < L.length
  · have e1 : (200 : Int) < (L.length : Int) := by omega
    go_wp2_with fail
    go_ret
    exact ⟨4, rfl, KeepsBut.refl _ _, .inl ⟨by decide, .inl (by unfold Pl.LevF; rw [if_pos h200]), Below.refl _ _⟩⟩
  have e0 : ¬ (200 : Int) < (L.length : Int) := by omega
  have H2 := Lib.hid h200
  clear h200
  go_upto_region 3 with fail
  clear e0
  go_upto_block 0 with fail
  go_cut [5, 6] from 19 to 70 (fun _ _ z => Hid (Pl.LevF L 0) ∧ Hid (Below w.heap.size w z))
  case first =>
    as_aux_lemma =>
    go_upto_region 4 with fail
    go_loopw [5, 6] (fun s5 _ wr => ∃ i : Nat, i ≤ L.length ∧ s5 = .int .i64 i ∧ Hid (∀ j (hj : j < i) (hl : j < L.length), Pl.vcFault L j L[j] = 0) ∧ Hid (Below w.heap.size w wr)) (fun s5 _ _ => L.length - (intOf s5).toNat)
    case atStart => exact ⟨0, by omega, rfl, Lib.hid (fun j hj => by omega), K0⟩
    case round =>
      as_aux_lemma =>
      clear K0
      obtain ⟨i, hi, rfl, HN, KR⟩ := hrel
      by_cases hlt : i < L.length
      · obtain ⟨g, fo, rfl, q0, q1⟩ := RL.out _ KR.out i hlt
        have RW := Lib.hid (show ∀ y, Below w.heap.size w y → ∀ k (hk : k < L.length), y.cell? ⟨g, fo + k * 2, none⟩ = some (.int .i64 L[k].who) from fun y kk k hk => by
          obtain ⟨g', f', e, r0, -⟩ := RL.out y kk k hk
          cases e; exact r0)
        have HB := Lib.hid (show ∀ f : Int, f ≠ 0 → Pl.rFault L i L[i] = f → Pl.LevF L f from fun f hf h => Pl.LevF.bad H2.out hf i hlt h (fun j hj => HN.out j hj (by omega)))
        have HZ := Lib.hid (show Pl.rFault L i L[i] = 0 → ∀ j (hj : j < i + 1) (hl : j < L.length), Pl.vcFault L j L[j] = 0 from fun h j hj hl => by
          by_cases e : j = i
          · subst e; rw [← Pl.rFault_eq]; exact h
          · exact HN.out j (by omega) hl)
        have OK := Lib.hid (show Pl.vcOk L[i] = decide (0 ≤ L[i].who ∧ L[i].who ≤ 200 ∧ 0 ≤ L[i].lvl ∧ L[i].lvl ≤ 127) from rfl)
        have FX := Lib.hid (show Pl.rFault L i L[i] = if Pl.vcOk L[i] = true then (if (L.take i).any (fun u => decide (u.who = L[i].who)) = true then 7 else 0) else 1 from rfl)
        have e1 : (i : Int) < (L.length : Int) := by omega
        generalize Pl.rFault L i L[i] = fi at *
        generalize Pl.vcOk L[i] = ok at *
        generalize hxw : L[i].who = xw at *
        have XW := Lib.hid hxw
        clear hxw
        generalize L[i].lvl = xl at *
        by_cases hok : 0 ≤ xw ∧ xw ≤ 200 ∧ 0 ≤ xl ∧ xl ≤ 127
        case neg =>
          have F1 := Lib.hid (HB.out 1 (by decide) (by rw [FX.out, OK.out, decide_eq_false hok]; rfl))
          have hcase : xw < 0 ∨ (0 ≤ xw ∧ 200 < xw) ∨ (0 ≤ xw ∧ xw ≤ 200 ∧ xl < 0) ∨ (0 ≤ xw ∧ xw ≤ 200 ∧ 0 ≤ xl ∧ 127 < xl) := by omega
          clear hok FX OK HZ HB
          rcases hcase with h1 | ⟨h1, h2⟩ | ⟨h1, h2, h3⟩ | ⟨h1, h2, h3, h4⟩
          all_goals
            go_wp2_with fail
            go_ret
            exact ⟨1, rfl, Below.toKeeps KR.out (Nat.le_refl _), .inl ⟨by decide, .inl F1.out, KR.out⟩⟩
        have OK1 := Lib.hid (show ok = true from by rw [OK.out]; exact decide_eq_true hok)
        obtain ⟨h1, h2, h3, h4⟩ := hok
        go_upto_region 9 with fail
        clear h1 h2 h3 h4 q0 q1
        go_loopw [6] (fun s6 wq => ∃ k : Nat, k ≤ i ∧ s6 = .int .i64 k ∧ Hid (∀ j (hj : j < k) (hl : j < L.length), L[j].who ≠ xw) ∧ Hid (Below w.heap.size w wq)) (fun s6 _ => i - (intOf s6).toNat)
        case atStart => exact ⟨0, by omega, rfl, Lib.hid (fun j hj => by omega), KR⟩
        case round =>
          as_aux_lemma =>
          clear KR
          obtain ⟨k, hk, rfl, HM, KQ⟩ := hrel
          by_cases hkl : k < i
          · have r0 := RW.out _ KQ.out k (by omega)
            have r1 := RW.out _ KQ.out i hlt
            rw [XW.out] at r1
            have e2 : (k : Int) < (i : Int) := by omega
            have e3 : (k : Int) < (L.length : Int) := by omega
            have F7 := Lib.hid (show L[k].who = xw → Pl.LevF L 7 from fun h => HB.out 7 (by decide) (by
              rw [FX.out, if_pos OK1.out, if_pos]
              rw [List.any_eq_true]
              exact ⟨L[k], List.mem_take_iff_getElem.2 ⟨k, by omega, rfl⟩, by simp [h]⟩))
            have HS := Lib.hid (show L[k].who ≠ xw → ∀ j (hj : j < k + 1) (hl : j < L.length), L[j].who ≠ xw from fun h j hj hl => by
              by_cases e : j = k
              · subst e; exact h
              · exact HM.out j (by omega) hl)
            generalize L[k].who = xk at *
            by_cases hx : xk = xw
            · have F8 := Lib.hid (F7.out hx)
              subst hx
              clear F7 HS HB
              go_wp2_with fail
              go_quiet (fail)
              go_wp2_with fail
              go_ret
              exact ⟨7, rfl, Below.toKeeps (Below.drewN KQ.out _) (Nat.le_refl _), .inl ⟨by decide, .inl F8.out, Below.drewN KQ.out _⟩⟩
            · have H3 := Lib.hid (HS.out hx)
              have hx2 : (xk == xw) = false := by rw [beq_eq_false_iff_ne]; exact hx
              clear F7 HS hx HB
              go_wp2_with fail
              go_quiet (fail)
              go_wp2_with fail
              go_roundw
              case measure => simp only [intOf]; omega
              case rel => exact ⟨k + 1, by omega, by simp, H3, Lib.hid (Below.drewN KQ.out _)⟩
          · have hki : k = i := by omega
            subst hki
            have H4 := Lib.hid (HZ.out (by
              rw [FX.out, if_pos OK1.out, if_neg]
              intro h
              rw [List.any_eq_true] at h
              obtain ⟨u, hu, hx⟩ := h
              obtain ⟨j, hj, rfl⟩ := List.mem_take_iff_getElem.1 hu
              exact HM.out j (by omega) (by omega) (by simpa using hx)))
            have e4 : ¬ (k : Int) < (k : Int) := by omega
            clear HZ HB FX hkl
            go_wp2_with fail
            go_roundw
            case measure => simp only [intOf]; omega
            case rel => exact ⟨k + 1, by omega, by simp, H4, KQ⟩
      · have hie : i = L.length := by omega
        subst hie
        have HG := Lib.hid (Pl.LevF.good H2.out (fun j hj => HN.out j hj hj))
        have e1 : ¬ (L.length : Int) < (L.length : Int) := by omega
        clear hlt
        go_wp2_with fail
        go_meet
        exact ⟨HG, KR⟩
  case rest =>
  as_aux_lemma =>
  obtain ⟨L0, K1⟩ := hcut
  clear K0
  have LD := Lib.hid L0.out.distinct
  have KD := Lib.hid (show K.Pairwise fun x y => x.who ≠ y.who from HKR.out.imp fun {a b} h e => by omega)
  have LOK := Lib.hid L0.out.ok
  obtain ⟨oK, cK, rfl, hlK, hcK, -, rK⟩ := vs_read HK.out
  unfold maxLen at hcK
  have RK := Lib.hid (show ∀ y, Below w.heap.size w y → ∀ k (hk : k < K.length), ∃ g f, oK = some ⟨g, f, none⟩ ∧ y.cell? ⟨g, f + k * 2, none⟩ = some (.int .i64 K[k].who) ∧ y.cell? ⟨g, f + k * 2 + 1, none⟩ = some (.int .i64 K[k].lvl) from fun y kk k hk => by
    obtain ⟨g, f, e, hb, q0, q1, -⟩ := rK k hk
    exact ⟨g, f, e, (kk.cell (p := ⟨g, f + k * 2, none⟩) hb).trans q0, (kk.cell (p := ⟨g, f + k * 2 + 1, none⟩) hb).trans q1⟩)
  have C2 := Lib.hid (show ∀ y, Below w.heap.size w y → y.cell? ⟨b, 2, none⟩ = some (.slice oK K.length cK) from fun y kk => obj_cell (Below.heapAt kk HR.out (lt_of_block HR.out)) rfl)
  clear rK
  have hcut0 := Lib.hid (RecK.Own.nil (R := vcK) wc w.heap.size)
  go_upto_region 14 with fail
  go_upto_block 4 with fail
  go_cut [7, 8, 9, 10, 11, 12] from 71 to 140 (fun v7 _ _ _ _ _ z => ∃ N : List Vc, Hid (Pl.NextL (Pl.lvAt K) (Pl.lvAt L) 201 N) ∧ Hid (vcK.Own z w.heap.size v7 N) ∧ Hid (Below w.heap.size w z))
  case first =>
    as_aux_lemma =>
    go_upto_region 15 with fail
    go_loopw [7, 8, 9, 10, 11, 12] (fun s7 s8 _ _ _ _ wr => ∃ (k : Nat) (N : List Vc), k ≤ 201 ∧ s8 = .int .i64 k ∧ Hid (Pl.NextL (Pl.lvAt K) (Pl.lvAt L) k N) ∧ Hid (vcK.Own wr w.heap.size s7 N) ∧ Hid (Below w.heap.size w wr)) (fun _ s8 _ _ _ _ _ => 201 - (intOf s8).toNat)
    case atStart => exact ⟨0, [], by omega, rfl, Lib.hid (Pl.NextL.start _ _), hcut0, K1⟩
    case round =>
      as_aux_lemma =>
      clear K1 hcut0
      obtain ⟨k, N, hk, rfl, NX, NO, KR⟩ := hrel
      obtain ⟨y, hy⟩ : ∃ y, y = wr := ⟨_, rfl⟩
      subst hy
      by_cases hkl : k < 201
      · have e1 : (k : Int) ≤ 200 := by omega
        have c2 := C2.out _ KR.out
        go_upto_region 19 with fail
        go_loopw [9, 10] (fun s9 s10 wq => ∃ i : Nat, i ≤ K.length ∧ s10 = .int .i64 i ∧ s9 = .int .i64 ((Pl.lvAt (K.take i) k).getD 0) ∧ y = wq) (fun _ s10 _ => K.length - (intOf s10).toNat)
        case atStart => exact ⟨0, by omega, rfl, rfl, rfl⟩
        case round =>
          as_aux_lemma =>
          obtain ⟨i, hi, rfl, rfl, rfl⟩ := hrel
          by_cases hlt : i < K.length
          · obtain ⟨g, fo, rfl, q0, q1⟩ := RK.out _ KR.out i hlt
            have ST := Lib.hid (Pl.lvAt_step KD.out hlt k)
            have e2 : (i : Int) < (K.length : Int) := by omega
            generalize K[i].who = xw at *
            generalize K[i].lvl = xl at *
            by_cases hx : xw = (k : Int)
            · subst hx
              have ST2 := Lib.hid (show (Pl.lvAt (K.take (i + 1)) k).getD 0 = xl from by rw [ST.out, if_pos rfl]; rfl)
              go_wp2_with fail
              go_roundw
              case measure => simp only [intOf]; omega
              case rel => exact ⟨i + 1, by omega, by simp, by rw [ST2.out], by first | rfl | trivial⟩
            · have hx2 : (xw == (k : Int)) = false := by rw [beq_eq_false_iff_ne]; exact hx
              have ST2 := Lib.hid (show (Pl.lvAt (K.take (i + 1)) k).getD 0 = (Pl.lvAt (K.take i) k).getD 0 from by rw [ST.out, if_neg (fun e => hx e.symm)])
              clear hx
              go_wp2_with fail
              go_roundw
              case measure => simp only [intOf]; omega
              case rel => exact ⟨i + 1, by omega, by simp, by rw [ST2.out], by first | rfl | trivial⟩
          · have hie : i = K.length := by omega
            subst hie
            rw [List.take_length]
            have e2 : ¬ (K.length : Int) < (K.length : Int) := by omega
            have SB := Lib.hid (show 0 ≤ (Pl.lvAt K k).getD 0 ∧ (Pl.lvAt K k).getD 0 ≤ 16256 from by
              cases e : Pl.lvAt K k with
              | none => simp
              | some s => have := HKS.out _ _ e; simp; omega)
            obtain ⟨s, hs⟩ : ∃ s, (Pl.lvAt K k).getD 0 = s := ⟨_, rfl⟩
            rw [hs] at SB ⊢
            have HS := Lib.hid hs
            clear hs hlt
            obtain ⟨d, hd⟩ : ∃ d, (s + 7) / 8 = d := ⟨_, rfl⟩
            obtain ⟨q, hq⟩ : ∃ q, s / 8 = q := ⟨_, rfl⟩
            obtain ⟨r, hr⟩ : ∃ r, s % 8 = r := ⟨_, rfl⟩
            have q1 : s.tdiv 8 = q := by rw [← hq]; exact Int.tdiv_eq_ediv_of_nonneg (by have := SB.out; omega)
            have q2 : s.tmod 8 = r := by rw [← hr]; exact Int.tmod_eq_emod_of_nonneg (by have := SB.out; omega)
            have QR := Lib.hid (show 0 ≤ q ∧ q ≤ 2040 ∧ (0 < r → q + 1 = d) ∧ (¬ 0 < r → q = d) from by have := SB.out; omega)
            have SD := Lib.hid (show 0 ≤ s - d ∧ s - d ≤ 16256 from by have := SB.out; omega)
            have ND := Lib.hid (show ∀ l, Pl.nsc s l = s - d + 16 * l from fun l => by unfold Pl.nsc; rw [hd])
            clear hd hq hr
            have w1 : IntKind.i64.wrap q = q := by rw [IntKind.wrap_i64]; have := QR.out; omega
            have w2 : IntKind.i64.wrap (q + 1) = q + 1 := by rw [IntKind.wrap_i64]; have := QR.out; omega
            go_upto_if 106 with fail
            go_cut [11] from 71 to 140 (fun v z => v = .int .i64 d ∧ y = z)
            case first =>
              as_aux_lemma =>
              by_cases h8 : 0 < r
              · have hqd := Lib.hid (QR.out.2.2.1 h8)
                have d8 : decide (0 < r) = true := decide_eq_true h8
                try rw [d8]
                go_wp2_with fail
                go_meet
                exact ⟨by first | rw [hqd.out] | rfl, rfl⟩
              · have hqd := Lib.hid (QR.out.2.2.2 h8)
                have d8 : decide (0 < r) = false := decide_eq_false h8
                try rw [d8]
                go_wp2_with fail
                go_meet
                exact ⟨by first | rw [hqd.out] | rfl, rfl⟩
            case rest =>
            as_aux_lemma =>
            obtain ⟨rfl, rfl⟩ := hcut
            clear w1 w2 q1 q2 QR
            obtain ⟨u0, hu0⟩ : ∃ u, s - d = u := ⟨_, rfl⟩
            rw [hu0] at SD ND
            have w3 : IntKind.i64.wrap (s - d) = u0 := by rw [IntKind.wrap_i64]; have := SD.out; omega
            clear hu0
            go_upto_region 28 with fail
            clear w3
            obtain ⟨hsd1, hsd2⟩ := SD.out
            go_loopw [9, 12] (fun s9 s12 wq => ∃ (i : Nat) (u : Int), i ≤ L.length ∧ s12 = .int .i64 i ∧ s9 = .int .i64 u ∧ 0 ≤ u ∧ u ≤ 20000 ∧ Hid (u = u0 + 16 * (Pl.lvAt (L.take i) k).getD 0) ∧ y = wq) (fun _ s12 _ => L.length - (intOf s12).toNat)
            case atStart => exact ⟨0, u0, by omega, rfl, rfl, by omega, by omega, Lib.hid (by simp [Pl.lvAt]), rfl⟩
            case round =>
              as_aux_lemma =>
              obtain ⟨i, u, hi, rfl, rfl, hu1, hu2, HU, rfl⟩ := hrel
              by_cases hlt : i < L.length
              · obtain ⟨g, fo, rfl, q0, q1⟩ := RL.out _ KR.out i hlt
                have ST := Lib.hid (Pl.lvAt_step LD.out hlt k)
                have SN := Lib.hid (Pl.lvAt_new LD.out hlt)
                have XB := (Pl.vcOk_iff _).1 (LOK.out.2 L[i] (List.getElem_mem _))
                have e2 : (i : Int) < (L.length : Int) := by omega
                generalize L[i].who = xw at *
                generalize L[i].lvl = xl at *
                obtain ⟨-, -, xl1, xl2⟩ := XB
                by_cases hx : xw = (k : Int)
                · subst hx
                  have hu3 : u = u0 := by rw [HU.out, SN.out]; simp
                  have ST2 := Lib.hid (show u + 16 * xl = u0 + 16 * (Pl.lvAt (L.take (i + 1)) k).getD 0 from by rw [ST.out, if_pos rfl, hu3]; rfl)
                  have w5 : IntKind.i64.wrap (16 * xl) = 16 * xl := by rw [IntKind.wrap_i64]; omega
                  have w6 : IntKind.i64.wrap (u + 16 * xl) = u + 16 * xl := by rw [IntKind.wrap_i64]; omega
                  have hb1 : 0 ≤ u + 16 * xl := by omega
                  have hb2 : u + 16 * xl ≤ 20000 := by omega
                  clear hu3
                  go_wp2_with fail
                  go_roundw
                  case measure => simp only [intOf]; omega
                  case rel => exact ⟨i + 1, _, by omega, by simp, rfl, hb1, hb2, ST2, by first | rfl | trivial⟩
                · have hx2 : (xw == (k : Int)) = false := by rw [beq_eq_false_iff_ne]; exact hx
                  have ST2 := Lib.hid (show u = u0 + 16 * (Pl.lvAt (L.take (i + 1)) k).getD 0 from by rw [ST.out, if_neg (fun e => hx e.symm)]; exact HU.out)
                  clear hx
                  go_wp2_with fail
                  go_roundw
                  case measure => simp only [intOf]; omega
                  case rel => exact ⟨i + 1, u, by omega, by simp, rfl, hu1, hu2, ST2, by first | rfl | trivial⟩
              · have hie : i = L.length := by omega
                subst hie
                have e2 : ¬ (L.length : Int) < (L.length : Int) := by omega
                have SN := Lib.hid (show Pl.nsc ((Pl.lvAt K k).getD 0) ((Pl.lvAt L k).getD 0) = u from by
                  rw [HS.out, ND.out, HU.out, List.take_length])
                by_cases hu : 0 < u
                · have N2 := Lib.hid (NX.out.more SN.out (by omega))
                  obtain ⟨gN, capN, wN, hrun, ho, hk2⟩ := vc_more NO.out ⟨k, u⟩ (by have := NX.out.len; omega) KR.out (Nat.le_refl _)
                  have HRUN := Lib.hid hrun
                  have HO := Lib.hid ho
                  have HK2 := Lib.hid hk2
                  clear hrun ho hk2 hlt hsd1 hsd2
                  go_wp2_with (at_builtin; refine Lib.wpList_append_run _ rfl (.tmp 135) (.tmp 139) 30 30 rfl _ _ rfl rfl _ _ HRUN.out ?_)
                  go_roundw
                  case measure => simp only [intOf]; omega
                  case rel => exact ⟨k + 1, _, by omega, by simp, N2, HO, HK2⟩
                · have N2 := Lib.hid (NX.out.skip (by rw [SN.out]; omega))
                  clear hlt hsd1 hsd2
                  go_wp2_with fail
                  go_roundw
                  case measure => simp only [intOf]; omega
                  case rel => exact ⟨k + 1, N, by omega, by simp, N2, NO, KR⟩
      · have hke : k = 201 := by omega
        subst hke
        have e1 : ¬ ((201 : Nat) : Int) ≤ 200 := by omega
        clear hkl
        go_wp2_with fail
        go_meet
        exact ⟨N, NX, NO, KR⟩
  case rest =>
  as_aux_lemma =>
  obtain ⟨N, NX, NO, KN⟩ := hcut
  clear K1 hcut0 RK RL C2 KD LD HKL HKR HSP
  have GOK := Lib.hid (show Pl.Gok (Pl.lvAt L) from fun i s hs => L0.out.lv hs)
  have S2 := Lib.hid (Pl.sc2_ok HKS.out GOK.out)
  have MEM := Lib.hid (show ∀ who lv, (⟨who, lv⟩ : Vc) ∈ N ↔ Pl.sc2 (Pl.lvAt K) (Pl.lvAt L) who = some lv from fun who lv => (NX.out.mem who lv).trans ⟨fun h => h.2.2, fun h => ⟨(S2.out _ _ h).1, by have := (S2.out _ _ h).2.1; omega, h⟩⟩)
  have NUM := Lib.hid (show ∀ x ∈ N, x.Num from fun x hx => by
    have := S2.out x.who x.lvl ((MEM.out x.who x.lvl).1 hx)
    exact ⟨⟨by omega, by omega⟩, by omega, by omega⟩)
  obtain ⟨o7, c7, rfl, hl7, hm7, -, -⟩ := vs_read (vcK_vs NO.out NUM.out)
  unfold maxLen at hm7
  go_upto_region 34 with fail
  by_cases h200 : 200 < N.length
  · have e1 : (200 : Int) < (N.length : Int) := by omega
    go_wp2_with fail
    go_ret
    exact ⟨4, rfl, Below.toKeeps KN.out (Nat.le_refl _), .inl ⟨by decide, .inr ⟨L0.out, rfl, N, h200, NX.out.ris, MEM.out⟩, KN.out⟩⟩
  have H2 := Lib.hid (show N.length ≤ 200 from by omega)
  have e1 : ¬ (200 : Int) < (N.length : Int) := by omega
  have HBL := Lib.hid (lt_of_block HR.out)
  have R1 := Lib.hid (show RVo wc b many sp _ from Below.heapAt KN.out HR.out HBL.out)
  have e2 := obj_cell R1.out (k := 2) rfl
  have fr2 := obj_free R1.out 2
  have PR := Lib.hid (show RVo (wc.setCell ⟨b, 2, none⟩ (.slice o7 N.length c7)) b many sp (.slice o7 N.length c7) from obj_set R1.out 2 _)
  have PK := Lib.hid (show KeepsBut b w (wc.setCell ⟨b, 2, none⟩ (.slice o7 N.length c7)) from KeepsBut.set (Below.toKeeps KN.out (Nat.le_refl _)) _ _)
  have PO := Lib.hid (show vcK.Own (wc.setCell ⟨b, 2, none⟩ (.slice o7 N.length c7)) w.heap.size (.slice o7 N.length c7) N from NO.out.keep (fun g _ h1 h2 => (KeepsBut.set (KeepsBut.refl b wc) _ _).block g h2 (by have := HBL.out; omega)))
  clear h200
  go_upto_region 37 with fail
  refine abs_t (fun y => Hid (RVo y b many sp (.slice o7 N.length c7)) ∧ Hid (vcK.Own y w.heap.size (.slice o7 N.length c7) N) ∧ Hid (KeepsBut b w y)) ⟨PR, PO, PK⟩ ?_
  clear e1 e2 fr2 PR PO PK R1 NO KN
  rintro y ⟨PR, PO, PK⟩
  obtain ⟨o8, c8, e8, -, -, -, rN⟩ := vs_read (vcK_vs PO.out NUM.out)
  cases e8
  have RN := Lib.hid (show ∀ z, Below y.heap.size y z → ∀ k (hk : k < N.length), ∃ g f, o7 = some ⟨g, f, none⟩ ∧ z.cell? ⟨g, f + k * 2, none⟩ = some (.int .i64 N[k].who) ∧ z.cell? ⟨g, f + k * 2 + 1, none⟩ = some (.int .i64 N[k].lvl) from fun z kk k hk => by
    obtain ⟨g, f, e, hb, q0, q1, -⟩ := rN k hk
    exact ⟨g, f, e, (kk.cell (p := ⟨g, f + k * 2, none⟩) hb).trans q0, (kk.cell (p := ⟨g, f + k * 2 + 1, none⟩) hb).trans q1⟩)
  have RB := Lib.hid (show ∀ z, Below y.heap.size y z → RVo z b many sp (.slice o7 N.length c7) from fun z kk => Below.heapAt kk PR.out (lt_of_block PR.out))
  clear rN
  go_upto_region 40 with fail
  go_loopw [13, 14, 15] (fun s13 s14 s15 wr => ∃ (i : Nat) (a c : Int), i ≤ N.length ∧ s15 = .int .i64 i ∧ s13 = .int .i64 a ∧ s14 = .int .i64 c ∧ Hid (Pl.AtOf N sp i a) ∧ Hid (Pl.BestOf N i c) ∧ Hid (Below y.heap.size y wr)) (fun _ _ s15 _ => N.length - (intOf s15).toNat)
  case atStart => exact ⟨0, -1, -1, by omega, rfl, rfl, rfl, Lib.hid (Pl.AtOf.start _ _), Lib.hid (Pl.BestOf.start _), Lib.hid (Below.refl _ _)⟩
  case round =>
    as_aux_lemma =>
    obtain ⟨i, a, c, hi, rfl, rfl, rfl, HA, HB, KY⟩ := hrel
    by_cases hlt : i < N.length
    · have e1 : (i : Int) < (N.length : Int) := by omega
      obtain ⟨g, fo, rfl, q0, q1⟩ := RN.out _ KY.out i hlt
      have c1 : wr.cell? ⟨b, 1, none⟩ = some (.int .i64 sp) := obj_cell (RB.out _ KY.out) rfl
      have RG := Lib.hid (show ∀ z, Below y.heap.size y z → ∀ k (hk : k < N.length), z.cell? ⟨g, fo + k * 2, none⟩ = some (.int .i64 N[k].who) ∧ z.cell? ⟨g, fo + k * 2 + 1, none⟩ = some (.int .i64 N[k].lvl) from fun z kk k hk => by
        obtain ⟨g', f', e, r0, r1⟩ := RN.out z kk k hk
        cases e; exact ⟨r0, r1⟩)
      have HH := Lib.hid (show N[i].who = sp → Pl.AtOf N sp (i + 1) (i : Int) from fun h => Pl.AtOf.hit hlt h)
      have HM := Lib.hid (show N[i].who ≠ sp → Pl.AtOf N sp (i + 1) a from fun h => HA.out.miss hlt h)
      obtain ⟨xl, hxl⟩ : ∃ x, N[i].lvl = x := ⟨_, rfl⟩
      have XLE := Lib.hid hxl
      rw [hxl] at q1
      clear hxl
      generalize N[i].who = xw at *
      go_upto_region 42 with fail
      by_cases hx : xw = sp
      · have HA2 := Lib.hid (HH.out hx)
        subst hx
        clear HH HM
        go_quiet (fail)
        go_upto_region 44 with fail
        refine abs_t (fun z => Hid (Below y.heap.size y z)) (Lib.hid (Below.drewN KY.out _)) ?_
        clear KY q0 q1 c1
        rintro z KZ
        have q1 : z.cell? ⟨g, fo + i * 2 + 1, none⟩ = some (.int .i64 xl) := by rw [← XLE.out]; exact (RG.out z KZ.out i hlt).2
        rcases HB.out with ⟨h1, h2⟩ | ⟨j, hj, h1, h2, -⟩
        · subst h2
          have B2 := Lib.hid (show Pl.BestOf N (i + 1) (i : Int) from by subst h1; exact Pl.BestOf.first hlt)
          have d1 : decide ((-1 : Int) < 0) = true := by decide
          clear h1
          go_quiet (fail)
          go_wp2_with fail
          go_roundw
          case measure => simp only [intOf]; omega
          case rel => exact ⟨i + 1, i, i, by omega, by simp, rfl, rfl, HA2, B2, Lib.hid (Below.drewN KZ.out _)⟩
        · subst h1
          have r1 := (RG.out z KZ.out j hj).2
          have d1 : decide ((j : Int) < 0) = false := by simp
          have j1 : (0 : Int) ≤ (j : Int) := by omega
          have j2 : (j : Int) < (N.length : Int) := by omega
          have BN := Lib.hid (show N[j].lvl < xl → Pl.BestOf N (i + 1) (i : Int) from fun h => HB.out.new hlt hj (by rw [XLE.out]; exact h))
          have BO := Lib.hid (show ¬ N[j].lvl < xl → Pl.BestOf N (i + 1) (j : Int) from fun h => HB.out.old hlt hj (by rw [XLE.out]; exact h))
          generalize N[j].lvl = jl at *
          by_cases hl : jl < xl
          · have B2 := Lib.hid (BN.out hl)
            have d2 : decide (jl < xl) = true := decide_eq_true hl
            clear BN BO
            go_quiet (fail)
            go_wp2_with fail
            go_roundw
            case measure => simp only [intOf]; omega
            case rel => exact ⟨i + 1, i, i, by omega, by simp, rfl, rfl, HA2, B2, Lib.hid (Below.drewN KZ.out _)⟩
          · have B2 := Lib.hid (BO.out hl)
            have d2 : decide (jl < xl) = false := decide_eq_false hl
            clear BN BO hl
            go_quiet (fail)
            go_wp2_with fail
            go_roundw
            case measure => simp only [intOf]; omega
            case rel => exact ⟨i + 1, i, j, by omega, by simp, rfl, rfl, HA2, B2, Lib.hid (Below.drewN KZ.out _)⟩
      · have HA2 := Lib.hid (HM.out hx)
        have hx2 : (xw == sp) = false := by rw [beq_eq_false_iff_ne]; exact hx
        clear HH HM hx
        go_quiet (fail)
        go_upto_region 44 with fail
        refine abs_t (fun z => Hid (Below y.heap.size y z)) (Lib.hid (Below.drewN KY.out _)) ?_
        clear KY q0 q1 c1
        rintro z KZ
        have q1 : z.cell? ⟨g, fo + i * 2 + 1, none⟩ = some (.int .i64 xl) := by rw [← XLE.out]; exact (RG.out z KZ.out i hlt).2
        rcases HB.out with ⟨h1, h2⟩ | ⟨j, hj, h1, h2, -⟩
        · subst h2
          have B2 := Lib.hid (show Pl.BestOf N (i + 1) (i : Int) from by subst h1; exact Pl.BestOf.first hlt)
          have d1 : decide ((-1 : Int) < 0) = true := by decide
          clear h1
          go_quiet (fail)
          go_wp2_with fail
          go_roundw
          case measure => simp only [intOf]; omega
          case rel => exact ⟨i + 1, a, i, by omega, by simp, rfl, rfl, HA2, B2, Lib.hid (Below.drewN KZ.out _)⟩
        · subst h1
          have r1 := (RG.out z KZ.out j hj).2
          have d1 : decide ((j : Int) < 0) = false := by simp
          have j1 : (0 : Int) ≤ (j : Int) := by omega
          have j2 : (j : Int) < (N.length : Int) := by omega
          have BN := Lib.hid (show N[j].lvl < xl → Pl.BestOf N (i + 1) (i : Int) from fun h => HB.out.new hlt hj (by rw [XLE.out]; exact h))
          have BO := Lib.hid (show ¬ N[j].lvl < xl → Pl.BestOf N (i + 1) (j : Int) from fun h => HB.out.old hlt hj (by rw [XLE.out]; exact h))
          generalize N[j].lvl = jl at *
          by_cases hl : jl < xl
          · have B2 := Lib.hid (BN.out hl)
            have d2 : decide (jl < xl) = true := decide_eq_true hl
            clear BN BO
            go_quiet (fail)
            go_wp2_with fail
            go_roundw
            case measure => simp only [intOf]; omega
            case rel => exact ⟨i + 1, a, i, by omega, by simp, rfl, rfl, HA2, B2, Lib.hid (Below.drewN KZ.out _)⟩
          · have B2 := Lib.hid (BO.out hl)
            have d2 : decide (jl < xl) = false := decide_eq_false hl
            clear BN BO hl
            go_quiet (fail)
            go_wp2_with fail
            go_roundw
            case measure => simp only [intOf]; omega
            case rel => exact ⟨i + 1, a, j, by omega, by simp, rfl, rfl, HA2, B2, Lib.hid (Below.drewN KZ.out _)⟩
    · have hie : i = N.length := by omega
      subst hie
      have e1 : ¬ (N.length : Int) < (N.length : Int) := by omega
      clear hlt hi
      go_upto_region 46 with fail
      refine abs_t (fun z => Hid (Below y.heap.size y z)) KY ?_
      clear KY
      rintro z KZ
      have RZ := Lib.hid (RB.out z KZ.out)
      have OZ := Lib.hid (show vcK.Own z w.heap.size (.slice o7 N.length c7) N from PO.out.below KZ.out)
      have KBz := Lib.hid (show KeepsBut b w z from Keeps.trans PK.out (Below.toKeeps KZ.out (Nat.le_refl _)))
      have s1 := obj_cell RZ.out (k := 1) rfl
      have fr1 := obj_free RZ.out 1
      have HB0 := Lib.hid HB.out
      rcases HB.out with ⟨h1, h2⟩ | ⟨j, hj, h1, -, -⟩
      · subst h2
        have N0 := Lib.hid h1
        clear h1
        have PR2 := Lib.hid (show RVo (z.setCell ⟨b, 1, none⟩ (.int .i64 (-1))) b many (-1) (.slice o7 N.length c7) from obj_set RZ.out 1 _)
        have PK2 := Lib.hid (show KeepsBut b w (z.setCell ⟨b, 1, none⟩ (.int .i64 (-1))) from KeepsBut.set KBz.out _ _)
        have PO2 := Lib.hid (show vcK.Own (z.setCell ⟨b, 1, none⟩ (.int .i64 (-1))) w.heap.size (.slice o7 N.length c7) N from OZ.out.keep (fun g _ h1 h2 => (KeepsBut.set (KeepsBut.refl b z) _ _).block g h2 (by have := HBL.out; omega)))
        go_wp2_with fail
        go_ret
        exact ⟨0, rfl, PK2.out, .inr ⟨L0.out, rfl, _, N, H2.out, NX.out.ris, MEM.out, PO2.out, fun R hR => by rw [Pl.next_none MEM.out hR N0.out]; exact PR2.out⟩⟩
      · subst h1
        obtain ⟨g, fo, rfl, q0, q1⟩ := RN.out _ KZ.out j hj
        have RG := Lib.hid (show ∀ k (hk : k < N.length), z.cell? ⟨g, fo + k * 2 + 1, none⟩ = some (.int .i64 N[k].lvl) from fun k hk => by
          obtain ⟨g', f', e, r0, r1⟩ := RN.out z KZ.out k hk
          cases e; exact r1)
        have d1 : decide ((j : Int) < 0) = false := by simp
        have j0 : ¬ (j : Int) < 0 := by omega
        have j1 : (0 : Int) ≤ (j : Int) := by omega
        have j2 : (j : Int) < (N.length : Int) := by omega
        have LJ := Lib.hid (S2.out N[j].who N[j].lvl ((MEM.out _ _).1 (List.getElem_mem hj)))
        rcases HA.out with ⟨h2, h3⟩ | ⟨m, hm, h2, h3, h4⟩
        · subst h2
          have A0 := Lib.hid HA.out
          have d2 : decide ((-1 : Int) < 0) = true := by decide
          clear h3
          go_upto_region 48 with fail
          go_quiet (fail)
          go_upto_region 49 with fail
          refine abs_t (fun q => Hid (Below y.heap.size y q)) (Lib.hid (Below.drewN KZ.out _)) ?_
          clear s1 fr1 q0 q1
          rintro q KQ
          have RZ2 := Lib.hid (RB.out q KQ.out)
          have OZ2 := Lib.hid (PO.out.below KQ.out)
          have KB2 := Lib.hid (show KeepsBut b w q from Keeps.trans PK.out (Below.toKeeps KQ.out (Nat.le_refl _)))
          have s1 := obj_cell RZ2.out (k := 1) rfl
          have fr1 := obj_free RZ2.out 1
          have q0 : q.cell? ⟨g, fo + j * 2, none⟩ = some (.int .i64 N[j].who) := by
            obtain ⟨g', f', e, r0, r1⟩ := RN.out q KQ.out j hj
            cases e; exact r0
          have PR2 := Lib.hid (show RVo (q.setCell ⟨b, 1, none⟩ (.int .i64 N[j].who)) b many N[j].who (.slice (some ⟨g, fo, none⟩) N.length c7) from obj_set RZ2.out 1 _)
          have PK2 := Lib.hid (show KeepsBut b w (q.setCell ⟨b, 1, none⟩ (.int .i64 N[j].who)) from KeepsBut.set KB2.out _ _)
          have PO2 := Lib.hid (show vcK.Own (q.setCell ⟨b, 1, none⟩ (.int .i64 N[j].who)) w.heap.size (.slice (some ⟨g, fo, none⟩) N.length c7) N from OZ2.out.keep (fun g _ h1 h2 => (KeepsBut.set (KeepsBut.refl b q) _ _).block g h2 (by have := HBL.out; omega)))
          go_wp2_with fail
          go_ret
          exact ⟨0, rfl, PK2.out, .inr ⟨L0.out, rfl, _, N, H2.out, NX.out.ris, MEM.out, PO2.out, fun R hR => by rw [Pl.next_gone MEM.out NX.out.ris hR HB0.out hj A0.out]; exact PR2.out⟩⟩
        · subst h2
          have A0 := Lib.hid HA.out
          have d2 : decide ((m : Int) < 0) = false := by simp
          have m1 : (0 : Int) ≤ (m : Int) := by omega
          have m2 : (m : Int) < (N.length : Int) := by omega
          have r1 := RG.out m hm
          have LM := Lib.hid (S2.out N[m].who N[m].lvl ((MEM.out _ _).1 (List.getElem_mem hm)))
          have w1 : IntKind.i64.wrap (N[m].lvl + 200) = N[m].lvl + 200 := by rw [IntKind.wrap_i64]; have := LM.out; omega
          by_cases hgt : N[m].lvl + 200 < N[j].lvl
          · have d3 : decide (N[m].lvl + 200 < N[j].lvl) = true := decide_eq_true hgt
            have HG := Lib.hid hgt
            clear h4
            go_upto_region 48 with fail
            go_quiet (fail)
            go_upto_region 49 with fail
            refine abs_t (fun q => Hid (Below y.heap.size y q)) (Lib.hid (Below.drewN KZ.out _)) ?_
            clear s1 fr1 q0 q1
            rintro q KQ
            have RZ2 := Lib.hid (RB.out q KQ.out)
            have OZ2 := Lib.hid (PO.out.below KQ.out)
            have KB2 := Lib.hid (show KeepsBut b w q from Keeps.trans PK.out (Below.toKeeps KQ.out (Nat.le_refl _)))
            have s1 := obj_cell RZ2.out (k := 1) rfl
            have fr1 := obj_free RZ2.out 1
            have q0 : q.cell? ⟨g, fo + j * 2, none⟩ = some (.int .i64 N[j].who) := by
              obtain ⟨g', f', e, r0, r1⟩ := RN.out q KQ.out j hj
              cases e; exact r0
            have PR2 := Lib.hid (show RVo (q.setCell ⟨b, 1, none⟩ (.int .i64 N[j].who)) b many N[j].who (.slice (some ⟨g, fo, none⟩) N.length c7) from obj_set RZ2.out 1 _)
            have PK2 := Lib.hid (show KeepsBut b w (q.setCell ⟨b, 1, none⟩ (.int .i64 N[j].who)) from KeepsBut.set KB2.out _ _)
            have PO2 := Lib.hid (show vcK.Own (q.setCell ⟨b, 1, none⟩ (.int .i64 N[j].who)) w.heap.size (.slice (some ⟨g, fo, none⟩) N.length c7) N from OZ2.out.keep (fun g _ h1 h2 => (KeepsBut.set (KeepsBut.refl b q) _ _).block g h2 (by have := HBL.out; omega)))
            go_wp2_with fail
            go_ret
            exact ⟨0, rfl, PK2.out, .inr ⟨L0.out, rfl, _, N, H2.out, NX.out.ris, MEM.out, PO2.out, fun R hR => by rw [Pl.next_still MEM.out NX.out.ris hR HB0.out hj A0.out hm, if_pos HG.out]; exact PR2.out⟩⟩
          · have d3 : decide (N[m].lvl + 200 < N[j].lvl) = false := decide_eq_false hgt
            have HG := Lib.hid hgt
            clear h4 hgt
            go_upto_region 48 with fail
            go_quiet (fail)
            go_wp2_with fail
            go_ret
            exact ⟨0, rfl, Keeps.drewN KBz.out _, .inr ⟨L0.out, rfl, _, N, H2.out, NX.out.ris, MEM.out, OZ.out.below (Below.drewN (Below.refl _ _) _), fun R hR => by rw [Pl.next_still MEM.out NX.out.ris hR HB0.out hj A0.out hm, if_neg (by have := HG.out; omega)]; exact Below.heapAt (Below.drewN (Below.refl _ _) _) RZ.out (lt_of_block RZ.out)⟩⟩
end Go.Proofs.YtefhbjkhmfmkaaaDoor
