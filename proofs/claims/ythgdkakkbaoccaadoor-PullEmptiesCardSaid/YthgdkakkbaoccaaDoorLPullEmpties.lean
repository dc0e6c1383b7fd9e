import Derived.Test.YthgdkakkbaoccaaDoorPEmpties
import Derived.Test.YthgdkakkbaoccaaDoorTold
import Derived.Deep.QuietTactic
import Derived.BigQuiet
import Derived.Deep.DeepCutAuto
import Derived.Deep.Onto
import Derived.StillTailTactics
/-! The walk of the law PullEmpties. -/
namespace Go.Proofs.YthgdkakkbaoccaaDoor
open Go.RowKit Go.Maps Go.Proofs
set_option linter.unusedVariables false
set_option linter.unusedSimpArgs false
set_option maxRecDepth 100000 in
set_option maxHeartbeats 8000000 in
theorem walk_PullEmpties_run (w : World) (hE : Env w) (oa1 : Option Addr) (n1 c1 : Nat) (x1 : Nat → Wt) (hm1 : n1 ≤ maxLen) (hz1 : ∀ k, k < n1 → ∃ b f, oa1 = some ⟨b, f, none⟩ ∧ b < w.heap.size ∧ w.cell? ⟨b, f + k * 3, none⟩ = some (.int .i64 (x1 k).who) ∧ w.cell? ⟨b, f + k * 3 + 1, none⟩ = some (.int .i64 (x1 k).track) ∧ w.cell? ⟨b, f + k * 3 + 2, none⟩ = some (.int .i64 (x1 k).lay) ∧ (x1 k).Good)
    (tr : Int) :
    Calls Tryd.prog 6 #[.slice oa1 n1 c1, .int .i64 tr] w fun e w' => e = .returned (.bool true) ∧ Below w.heap.size w w' := by
  have HZ1 := Lib.hid hz1
  have HE := Lib.hid hE
  clear hz1 hE
  unfold maxLen at hm1
  go_enter Tryd.func6, Tryd.ntmps6
  go_wp2_with fail
  refine (pullNew_ok 1 (by decide) (by decide) _).mono ?_
  rintro e w5 ⟨b, mp, rfl, P5, k5⟩
  by_cases ht : 1 ≤ tr ∧ tr ≤ 8
  case neg =>
    have HT := Lib.hid ht
    clear ht P5
    have K5 := Lib.hid k5
    clear k5
    go_wp2_with fail
    all_goals first
      | (exfalso; have := HT.out; omega)
      | (go_ret; exact ⟨rfl, K5.out⟩)
  obtain ⟨ht1, ht2⟩ := ht
  obtain ⟨t, rfl⟩ : ∃ t : Nat, tr = t := ⟨tr.toNat, by omega⟩
  have kb5 := Lib.hid k5
  have P5' := Lib.hid P5
  have HB := Lib.hid (lt_of_block P5.at_)
  have HMP := Lib.hid (fun k hk => (P5.map k hk).lt)
  have hN : w.heap.size ≤ w5.heap.size := kb5.out.size
  clear P5 k5
  go_upto_region 6 with fail
  go_loopw [7, 8] (fun s7 s8 wr => ∃ (i many : Nat) (C : Nat → Nat) (F : Nat → Int → Option Int), i ≤ 30 ∧ i ≤ n1 ∧ many ≤ i ∧ s8 = .int .i64 i ∧ s7 = .int .i64 many ∧ Hid (Emp t many C F) ∧ Hid (Pul w.heap.size wr b 0 1 mp (fun _ => 0) (fun _ => 0) C F) ∧ Hid (Below w.heap.size w wr)) (fun _ s8 _ => 30 - (intOf s8).toNat)
  case atStart => exact ⟨0, 0, _, _, by omega, by omega, by omega, rfl, rfl, Lib.hid (Emp.start t), P5', kb5⟩
  case round =>
    clear P5' kb5
    obtain ⟨i, many, C, F, hi30, hin, hmi, rfl, rfl, EM, P, kb⟩ := hrel
    by_cases hlt : i < n1 ∧ i < 30
    · obtain ⟨hl1, hl2⟩ := hlt
      obtain ⟨b1, f1, rfl, hb1, q0, q1, q2, hg⟩ := HZ1.out i hl1
      rw [← kb.out.cell (p := ⟨b1, f1 + i * 3, none⟩) hb1] at q0
      rw [← kb.out.cell (p := ⟨b1, f1 + i * 3 + 2, none⟩) hb1] at q2
      generalize x1 i = x at *
      obtain ⟨who, track, lay⟩ := x
      dsimp only at q0 q1 q2
      go_upto_region 8 with fail
      go_still_tail 12, (by kernel_rfl)
      change wpList _ _ _ _ _ wr.drew
      have P2 : Hid (Pul w.heap.size wr.drew b 0 1 mp (fun _ => 0) (fun _ => 0) C F) := Lib.hid (P.out.drewN 1)
      have kb2 : Hid (Below w.heap.size w wr.drew) := Lib.hid (Below.drewN kb.out 1)
      clear P kb q0 q1 q2
      generalize wr.drew = y at *
      by_cases hok : Pl.rightOk who t ∧ 0 ≤ lay ∧ lay ≤ 3
      · obtain ⟨hr, hl⟩ := hok
        have hCC : C t < 1000000 := by have := EM.out.le; omega
        have WK := Lib.hid (pullWant_ok w.heap.size b 0 1 mp _ _ C F who t lay hr hl hCC y P2.out)
        have EM2 := Lib.hid (EM.out.want who lay hr hl (fun h => pos_of_some (P2.out.map t (by omega)) plaw Tryd.underlying3 who (by rw [WF.isSome]; exact h)))
        clear EM
        go_wp2_with (go_at_call 39; refine WK.out.mono ?_; rintro e y2 ⟨rfl, PA, kA⟩)
        go_roundw
        case measure => simp [intOf]; omega
        case rel => exact ⟨i + 1, many + 1, _, _, by omega, by omega, by omega, rfl, rfl, EM2, Lib.hid PA, Lib.hid (kb2.out.trans (kA.below P2.out kb2.out.size))⟩
      · have WK := Lib.hid (pullWant_bad b who t lay hok y)
        clear hok
        go_wp2_with (go_at_call 39; refine WK.out.mono ?_; rintro e y2 ⟨rfl, kA⟩)
        go_roundw
        case measure => simp [intOf]; omega
        case rel => exact ⟨i + 1, many, C, F, by omega, by omega, by omega, rfl, rfl, EM, Lib.hid (P2.out.below kA), Lib.hid (kb2.out.trans (kA.mono kb2.out.size))⟩
    · have hlt' := Lib.hid hlt
      clear hlt
      go_upto_region 6 with fail
      go_cut [38] (fun v x => v = .bool false ∧ wr = x)
      case first =>
        go_wp2_with fail
        all_goals first
          | (exfalso; have := hlt'.out; omega)
          | (go_meet; exact ⟨rfl, rfl⟩)
          | (go_meet; exact ⟨by rw [decide_eq_false (by have := hlt'.out; omega)], rfl⟩)
      case rest =>
        obtain ⟨rfl, rfl⟩ := hcut
        have hCm := EM.out.le
        have HB0 := Lib.hid (lt_of_block P.out.at_)
        have HMP0 := Lib.hid (fun k hk => (P.out.map k hk).lt)
        obtain ⟨B0, hB0⟩ : ∃ B0, wr.heap.size = B0 := ⟨_, rfl⟩
        obtain ⟨m, hmC⟩ : ∃ m, C t = m := ⟨_, rfl⟩
        have hm0 : m = 0 ↔ many = 0 := by
          have := EM.out.pos
          omega
        rw [hB0] at HB0 HMP0
        go_wp2_with fail
        refine (pullWho_any w.heap.size b 0 1 mp _ _ C F t ⟨by omega, by omega⟩ (by omega) _ P.out).mono ?_
        rintro e w6 ⟨v, S, rfl, hS, hmem, hlen, hrow, k6⟩
        rw [hmC] at hlen
        rw [hB0] at hrow
        obtain ⟨oS, capS, rfl, -⟩ := intRow_read hrow
        have P6 := Lib.hid (P.out.below k6)
        have kb6 := Lib.hid (kb.out.trans (k6.mono kb.out.size))
        have hs6 := kb6.out.size
        have RS := Lib.hid hS
        have HM := Lib.hid hmem
        have RO6 := Lib.hid hrow
        clear P kb k6 hS hmem hrow
        obtain ⟨n, hn, hn3, hnn⟩ := need_is (F t) (EM.out.bnd t)
        have ND : ∀ j, 1 ≤ j → j ≤ 8 → IsNeed (F j) (oneNeed t n j) := fun j _ _ => by
          unfold oneNeed
          by_cases e : j = t
          · subst e; rw [if_pos rfl]; exact hn
          · rw [if_neg e]; exact ⟨by omega, fun i x h => (by rw [EM.out.oth j e i] at h; cases h), .inl rfl⟩
        go_wp2_with fail
        refine (pullChanged_any w.heap.size b 0 1 mp _ _ C F EM.out.bnd (oneNeed t n) ND (fun j => by unfold oneNeed; split <;> omega) _ kb6.out.size P6.out).mono ?_
        rintro e w7 ⟨v7, rfl, r7, P7, k7⟩
        obtain ⟨o7, cap7, rfl, -⟩ := wantRow_read r7
        have hl7 := chg_len t (by omega) (by omega) n
        have hno : n + 1 = 0 ↔ m = 0 := by
          constructor
          · intro e
            have h0 := hnn.1 (by omega)
            cases S with
            | nil => simpa using hlen.symm
            | cons x r =>
              have := (HM.out x).1 (by simp)
              rw [h0 x] at this; cases this
          · intro e
            have hS0 : S = [] := List.eq_nil_of_length_eq_zero (by omega)
            have : n = -1 := hnn.2 (fun i => by
              cases hF : F t i with
              | none => rfl
              | some x =>
                have := (HM.out i).2 (by rw [hF]; rfl)
                rw [hS0] at this; cases this)
            omega
        obtain ⟨q, hq⟩ : ∃ q, (chgL (oneNeed t n) (fun _ => 0) 9).length = q := ⟨_, rfl⟩
        rw [hq] at hl7 ⊢
        have DR : Hid (Dr t S 0 C F) := Lib.hid ⟨EM.out.oth, EM.out.bnd, fun i => by rw [List.drop_zero]; exact (HM.out i).symm, by omega⟩
        have kb7 : Hid (Below w.heap.size w w7) := Lib.hid (kb6.out.trans (k7.below P6.out kb6.out.size))
        have P7' := Lib.hid P7
        have HSET := Lib.hid (fun g (hg : B0 ≤ g) => (show ¬ (g = b ∨ ∃ j, j < 9 ∧ g = mp j) from fun e => by
          rcases e with rfl | ⟨j, hj, rfl⟩
          · have := HB0.out; omega
          · have := HMP0.out j hj; omega))
        have RO7 : Hid (w7.ownsRow B0 3 1 (.slice oS m capS) S.length (S.map encI)) := Lib.hid (by
          have := intRow_keep RO6.out (fun g o hg hb => k7.block g (lt_of_block hg) (HSET.out g hb))
          rw [hlen] at this ⊢
          exact this)
        have HRG := Lib.hid (fun i (h : i ∈ S) => EM.out.rgt i ((HM.out i).1 h))
        clear r7 P7 k7 P6 kb6 RO6 EM HM ND hn hnn hq
        have hq2 : q = if m = 0 then 0 else 1 := by
          rw [hl7]; by_cases e : n + 1 = 0
          · rw [if_pos e, if_pos (hno.1 e)]
          · rw [if_neg e, if_neg (fun x => e (hno.2 x))]
        clear hl7
        have HQ2 := Lib.hid hq2
        have HM0 := Lib.hid hm0
        have HNO := Lib.hid hno
        clear hq2 hm0 hno
        go_upto_region 12 with fail
        go_cut [81] (fun v x => v = .bool false ∧ w7 = x)
        case first =>
          have hq2 := HQ2.out
          have hm0 := HM0.out
          clear HQ2 HM0
          by_cases e : m = 0
          · rw [if_pos e] at hq2
            obtain rfl := hm0.1 e
            subst e hq2
            go_wp2_with fail
            go_meet
            exact ⟨rfl, rfl⟩
          · rw [if_neg e] at hq2
            have e2 : many ≠ 0 := fun x => e (hm0.2 x)
            clear hm0
            subst hq2
            obtain ⟨m, rfl⟩ : ∃ m', m = m' + 1 := ⟨m - 1, by omega⟩
            obtain ⟨many, rfl⟩ : ∃ m', many = m' + 1 := ⟨many - 1, by omega⟩
            clear e e2
            go_wp2_with fail
            go_meet
            exact ⟨by rw [decide_eq_false (by omega)], rfl⟩
        case rest =>
          obtain ⟨rfl, rfl⟩ := hcut
          go_upto_region 15 with fail
          go_loopw [11] (fun s11 wr => ∃ (k : Nat) (C : Nat → Nat) (F : Nat → Int → Option Int), k ≤ m ∧ s11 = .int .i64 k ∧ Hid (Dr t S k C F) ∧ Hid (Pul w.heap.size wr b 0 1 mp (toldN (oneNeed t n) (fun _ => 0) 9) (fun _ => 0) C F) ∧ Hid (wr.ownsRow B0 3 1 (.slice oS m capS) S.length (S.map encI)) ∧ Hid (Below w.heap.size w wr)) (fun s11 _ => m - (intOf s11).toNat)
          case atStart => exact ⟨0, C, F, by omega, rfl, DR, P7', RO7, kb7⟩
          case round =>
            clear DR P7' RO7 kb7
            obtain ⟨k, C, F, hkm, rfl, DR, P, RO, kb⟩ := hrel
            by_cases hlt : k < m
            · obtain ⟨oS', capS', e', hrd⟩ := intRow_read RO.out
              cases e'
              have hkS : k < S.length := by omega
              obtain ⟨gS, rfl, hgB, hgl, c0⟩ := hrd k S[k] (by simp [hkS])
              obtain ⟨lay, hlay⟩ := DR.out.at_ hkS
              have DR2 := Lib.hid (DR.out.drop RS.out hkS)
              have hRt : Pl.rightOk S[k] t := HRG.out _ (List.getElem_mem hkS)
              have D1 := Lib.hid (pullDrop_ok w.heap.size b 0 1 mp _ _ C F S[k] t hRt lay hlay wr P.out)
              have D2 := Lib.hid (fun y (PA : Pul w.heap.size y b 0 1 mp (toldN (oneNeed t n) (fun _ => 0) 9) (fun _ => 0) (dropC C t) (dropF F t S[k])) => pullDrop_none w.heap.size b 0 1 mp _ (fun _ => 0) (dropC C t) (dropF F t S[k]) S[k] t hRt (dropF_gone F t S[k]) y PA)
              have QY := Lib.hid (fun y (kA : FP b mp wr y) => (kA.cell (p := ⟨gS, k, none⟩) hgl (HSET.out gS hgB)).trans c0)
              have RY := Lib.hid (fun y (kA : FP b mp wr y) => intRow_keep RO.out (fun g o hg hb => kA.block g (lt_of_block hg) (HSET.out g hb)))
              have KY := Lib.hid (fun y (kA : FP b mp wr y) => kb.out.trans (kA.below P.out kb.out.size))
              clear hrd hlay P RO kb
              generalize S[k] = x at *
              go_wp2_with (first
                | (go_at_call 42; (with_reducible refine D1.out.mono ?_); rintro e y1 ⟨rfl, PA, kA⟩; have qy := QY.out y1 kA; have D3 := Lib.hid (D2.out y1 PA); have PA1 := Lib.hid PA; have RO1 := Lib.hid (RY.out y1 kA); have KB1 := Lib.hid (KY.out y1 kA); clear PA kA D1)
                | (go_at_call 42; (with_reducible refine D3.out.mono ?_); rintro e y2 ⟨rfl, rfl⟩))
              go_roundw
              case measure => simp [intOf]; omega
              case rel => exact ⟨k + 1, _, _, by omega, rfl, DR2, PA1, RO1, KB1⟩
            · obtain rfl : k = m := by omega
              have hF0 : ∀ j i, F j i = none := fun j i => by
                by_cases e : j = t
                · subst e
                  cases hx : F j i with
                  | none => rfl
                  | some x =>
                    have := (DR.out.mem i).1 (by rw [hx]; rfl)
                    rw [List.drop_eq_nil_of_le (by omega)] at this; cases this
                · exact DR.out.oth j e i
              have HF0 := Lib.hid hF0
              have hC0 : C t = 0 := by have := DR.out.cnt; omega
              have HC0 := Lib.hid hC0
              have HBD := Lib.hid DR.out.bnd
              have AK := Lib.hid (pullAsk_none w.heap.size b 0 1 mp _ _ C F t ⟨by omega, by omega⟩ 0 ⟨by omega, by omega, by omega⟩ hC0 wr P.out)
              have CH := Lib.hid (pullChanged_any w.heap.size b 0 1 mp (toldN (oneNeed t n) (fun _ => 0) 9) (fun _ => 0) C F HBD.out (fun _ => -1) (fun j _ _ => ⟨by omega, fun i x h => (by rw [HF0.out j i] at h; cases h), .inl rfl⟩) (fun _ => by omega) wr kb.out.size P.out)
              have hl8 := chg_len2 t (by omega) (by omega) n
              have hq8 : (chgL (fun _ => -1) (toldN (oneNeed t n) (fun _ => 0) 9) 9).length = q := by
                rw [hl8, HQ2.out]
                by_cases e : n + 1 = 0
                · rw [if_pos e, if_pos (HNO.out.1 e)]
                · rw [if_neg e, if_neg (fun x => e (HNO.out.2 x))]
              have HQ8 := Lib.hid hq8
              have PP := Lib.hid P.out
              clear hF0 hC0 hl8 hq8 DR P
              go_wp2_with fail
              refine AK.out.mono ?_
              rintro e y0 ⟨rfl, rfl⟩
              go_wp2_with fail
              refine CH.out.mono ?_
              rintro e y1 ⟨v8, rfl, r8, P8, k8⟩
              obtain ⟨o8, cap8, rfl, -⟩ := wantRow_read r8
              rw [HQ8.out]
              have kb8 := Lib.hid (kb.out.trans (k8.below PP.out kb.out.size))
              have NE := Lib.hid (pullNeed_is w.heap.size b 0 1 mp _ _ C F t ⟨by omega, by omega⟩ (HBD.out t) (-1) ⟨by omega, fun i x h => (by rw [HF0.out t i] at h; cases h), .inl rfl⟩ y1 P8)
              have WHO := Lib.hid (fun y (k : Below y1.heap.size y1 y) => pullWho_any w.heap.size b 0 1 mp _ _ C F t ⟨by omega, by omega⟩ (by rw [HC0.out]; omega) y (P8.below k))
              clear r8 P8 k8 kb AK CH PP
              go_wp2_with (first
                | (go_at_call 44; refine NE.out.mono ?_; rintro e y2 ⟨rfl, k9⟩; have WH := Lib.hid (WHO.out y2 k9); have kb9 := Lib.hid (kb8.out.trans (k9.mono kb8.out.size)); clear k9)
                | (go_at_call 40; refine WH.out.mono ?_; rintro e y3 ⟨v9, S9, rfl, -, -, hl9, r9, k10⟩; obtain ⟨o9, cap9, rfl, -⟩ := intRow_read r9; rw [hl9, HC0.out]; have kb10 := Lib.hid (kb9.out.trans (k10.mono kb9.out.size)); have EA := Lib.hid (error_hit 5 5 y3 (HE.out.below kb10.out)); clear hl9 r9 k10)
                | (go_at_call 9; refine EA.out.mono ?_; rintro e y4 ⟨rfl, k11⟩; have kb11 := Lib.hid (kb10.out.trans (k11.mono kb10.out.size)); clear k11))
              go_ret
              exact ⟨ret_bool (by simp), kb11.out⟩
theorem walk_PullEmpties (W : World) (v1 : Value) (l1 : List Wt) (o1 : IsWts W v1 l1) (a0 : Int) (w0 : (Lit.int .i64 a0).wf = true) (hE : Env W) :
    Calls Tryd.prog 6 #[v1, .int .i64 a0] W fun e w' => e = .returned (.bool true) ∧ Below W.heap.size W w' := by
  obtain ⟨oa1, c1, rfl, m1, z1⟩ := wts_read o1
  exact walk_PullEmpties_run W hE oa1 _ c1 _ m1 z1 a0
end Go.Proofs.YthgdkakkbaoccaaDoor
