import Derived.Test.YtdnikhfhompedaaDoorRefLayer
import Derived.Test.YtdnikhfhompedaaDoorTold
import Derived.Test.YtdnikhfhompedaaDoorPk
import Derived.Deep.QuietTactic
import Derived.BigQuiet
/-! The walk of the law LayerPlays (under way). -/
namespace Go.Proofs.YtdnikhfhompedaaDoor
open Go.RowKit
set_option linter.unusedVariables false
set_option linter.unusedSimpArgs false

set_option maxRecDepth 100000 in
set_option maxHeartbeats 2000000 in
theorem walk_LayerPlays_bad (w : World) (hE : Env w) (a0 : Int) (v1 v2 : Value) (h : ¬ (0 ≤ a0 ∧ a0 ≤ 3)) :
    Calls Tryd.prog 7 #[.int .i64 a0, v1, v2] w fun e w' => e = .returned (.bool true) ∧ Below w.heap.size w w' := by
  have G := Lib.hid h
  go_enter Tryd.func7, Tryd.ntmps7
  go_wp2_with fail
  refine (layerNew_bad a0 h _).mono ?_
  rintro e w1 ⟨rfl, rfl⟩
  clear h
  go_wp2_with fail
  all_goals first
    | (exfalso; have := G.out; omega)
    | (refine (error_hit 1 1 _ hE).mono ?_
       rintro e w2 ⟨rfl, k2⟩
       go_wp2
       go_ret
       exact ⟨by simp, k2⟩)

set_option maxRecDepth 100000 in
set_option maxHeartbeats 2000000 in
theorem walk_LayerPlays_none (w : World) (hE : Env w) (a0 : Int) (h0 : 0 ≤ a0) (h1 : a0 ≤ 3) (oa : Option Addr) (c : Nat) (v2 : Value) :
    Calls Tryd.prog 7 #[.int .i64 a0, .slice oa 0 c, v2] w fun e w' => e = .returned (.bool true) ∧ Below w.heap.size w w' := by
  go_enter Tryd.func7, Tryd.ntmps7
  go_wp2_with fail
  refine (layerNew_ok a0 h0 h1 _).mono ?_
  rintro e w1 ⟨b, rfl, hb, g1, k1⟩
  go_wp2_with fail
  refine (error_nil 0 _).mono ?_
  rintro e w' ⟨rfl, rfl⟩
  go_wp2
  refine wp_loop_once ?_
  go_wp2
  go_ret
  exact ⟨rfl, k1.alloc k1.size _⟩
theorem error_same (k : Int) (w : World) (hg : Env w) : Calls Tryd.prog 16 #[.iface 98 (.int .i64 k), .int .i64 k] w fun e w' => e = .returned (.bool true) ∧ Below w.heap.size w w' :=
  (error_hit k k w hg).mono fun e w' ⟨h1, h2⟩ => ⟨by rw [h1]; simp, h2⟩
theorem error_none (w : World) : Calls Tryd.prog 16 #[.nilIface, .int .i64 0] w fun e w' => e = .returned (.bool true) ∧ w = w' :=
  (error_nil 0 w).mono fun e w' ⟨h1, h2⟩ => ⟨by rw [h1]; simp, h2⟩
theorem Pl.goneB_eq (broken : Bool) (now : Int) (h : -1 ≤ now) : Pl.goneB broken now = (broken || decide (0 ≤ now)) := by
  unfold Pl.goneB
  by_cases h0 : now = -1
  · subst h0; rfl
  · have e1 : (now == -1) = false := by simpa using h0
    have e2 : decide (0 ≤ now) = true := by simp; omega
    rw [e1, e2]; rfl
theorem Pl.take_low {most now : Int} {broken : Bool} {l : Int} {st : Bool} (hl : 0 ≤ l) (h : -1 ≤ now) : -1 ≤ (Pl.take most now broken false l st).2.1 := by
  unfold Pl.take
  repeat' split
  all_goals simp_all
  all_goals omega

theorem RLayerAt.set0 {w : World} {b : Nat} {most now last : Int} {broken : Bool} (h : RLayerAt w b most now last broken) (v : Int) : RLayerAt (w.setCell ⟨b, 0, none⟩ (.int .i64 v)) b v now last broken := obj_set h 0 _
theorem RLayerAt.other {a c : World} {b N : Nat} {most now last : Int} {broken : Bool} (h : RLayerAt a b most now last broken) (k : KeepsBut N a c) (hn : b ≠ N) : RLayerAt c b most now last broken := Keeps.heap k h hn

set_option maxRecDepth 100000 in
set_option maxHeartbeats 16000000 in
/-- the round, behind the limits -/
theorem walk_LayerPlays_run (w : World) (hE : Env w) (a0 : Int) (h0 : 0 ≤ a0) (h1 : a0 ≤ 3) (b1 f1 c1 : Nat) (l1 : List It) (hc1 : l1.length ≤ c1) (hm1 : c1 ≤ maxLen)
    (hcell : ∀ i (h : i < l1.length) j u, (l1[i].cells)[j]? = some u → w.cell? ⟨b1, f1 + (i * 8 + j), none⟩ = some u) (hgood : ∀ x ∈ l1, x.Good w) (hlt : b1 < w.heap.size) (oa2 : Option Addr) (n2 c2 : Nat) (z2 : Nat → Int) (hc2 : n2 ≤ c2) (hm2 : c2 ≤ maxLen)
    (hz : ∀ k, k < n2 → ∃ b f, oa2 = some ⟨b, f, none⟩ ∧ b < w.heap.size ∧ w.cell? ⟨b, f + k, none⟩ = some (.int .i64 (z2 k))) :
    Calls Tryd.prog 7 #[.int .i64 a0, .slice (some ⟨b1, f1, none⟩) l1.length c1, .slice oa2 n2 c2] w fun e w' => e = .returned (.bool true) ∧ Below w.heap.size w w' := by
  have HC := Lib.hid hcell
  have HG := Lib.hid hgood
  have HZ := Lib.hid hz
  clear hcell hgood hz
  unfold maxLen at hm1 hm2
  go_enter Tryd.func7, Tryd.ntmps7
  go_wp2_with fail
  refine (layerNew_ok a0 h0 h1 _).mono ?_
  rintro e w1 ⟨b, rfl, hb, g1, k1⟩
  go_wp2_with fail
  refine (error_nil 0 _).mono ?_
  rintro e w' ⟨rfl, rfl⟩
  go_upto_region 9 with fail
  refine abs_rl (fun x => LayerAt x b a0 (-1) (-1) false ∧ RLayerAt x w1.heap.size a0 (-1) (-1) false ∧ Below w.heap.size w x) ⟨obj_old g1 _, obj_new _ _, k1.alloc k1.size _⟩ ?_
  have hrb := k1.size
  have hbr := lt_of_block g1
  clear g1 k1
  rintro w2 ⟨gl2, gr2, kb2⟩
  generalize hrbn : w1.heap.size = rb at *
  clear hrbn
  have hne : b ≠ rb := by omega
  have hrb' : w.heap.size ≤ rb := hrb
  go_wp2
  go_loopw [12] (fun i wr => ∃ (k : Nat) (M now lst : Int) (broken : Bool), k ≤ l1.length ∧ k ≤ 80 ∧ i = .int .i64 k ∧ -1 ≤ now ∧ LayerAt wr b M now lst broken ∧ RLayerAt wr rb M now lst broken ∧ Below w.heap.size w wr) (fun i _ => 80 - (intOf i).toNat)
  case atStart => exact ⟨0, a0, -1, -1, false, by omega, by omega, rfl, by omega, gl2, gr2, kb2⟩
  case round =>
    clear gl2 gr2 kb2
    obtain ⟨k, M, now, lst, broken, hk, hk80, rfl, hnow, gl, gr, kb⟩ := hrel
    by_cases hlt1 : k < l1.length
    · by_cases hlt2 : k < 80
      · have cells := HC.out k hlt1
        have good := HG.out _ (List.getElem_mem hlt1)
        generalize l1[k] = x at *
        obtain ⟨num, xg, s, t, l, lv, st, bv, bl⟩ := x
        obtain ⟨hnum, hs, ht, hl, hlv, hbv⟩ := good
        obtain ⟨boa, bc, hbv', hbn⟩ := bytes_slice hbv
        simp only [] at hbv' hbn
        subst hbv'
        have q0 := cells 0 _ rfl
        have q1 := cells 1 _ rfl
        have q2 := cells 2 _ rfl
        have q3 := cells 3 _ rfl
        have q4 := cells 4 _ rfl
        have q5 := cells 5 _ rfl
        have q6 := cells 6 _ rfl
        have q7 := cells 7 _ rfl
        clear cells hbv
        simp only [] at *
        have Q : Hid (∀ W, Below w.heap.size w W → W.cell? ⟨b1, f1 + k * 8, none⟩ = some (.int .i64 num) ∧ W.cell? ⟨b1, f1 + k * 8 + 1, none⟩ = some (.bool xg) ∧ W.cell? ⟨b1, f1 + k * 8 + 2, none⟩ = some (.int .i64 s) ∧ W.cell? ⟨b1, f1 + k * 8 + 3, none⟩ = some (.int .i64 t) ∧ W.cell? ⟨b1, f1 + k * 8 + 4, none⟩ = some (.int .i64 l) ∧ W.cell? ⟨b1, f1 + k * 8 + 5, none⟩ = some (.int .i64 lv) ∧ W.cell? ⟨b1, f1 + k * 8 + 6, none⟩ = some (.bool st) ∧ W.cell? ⟨b1, f1 + k * 8 + 7, none⟩ = some (.slice boa bl.length bc)) := fun W hW =>
          ⟨(hW.cell (p := ⟨b1, f1 + k * 8, none⟩) hlt).trans q0, (hW.cell (p := ⟨b1, f1 + k * 8 + 1, none⟩) hlt).trans q1, (hW.cell (p := ⟨b1, f1 + k * 8 + 2, none⟩) hlt).trans q2, (hW.cell (p := ⟨b1, f1 + k * 8 + 3, none⟩) hlt).trans q3, (hW.cell (p := ⟨b1, f1 + k * 8 + 4, none⟩) hlt).trans q4, (hW.cell (p := ⟨b1, f1 + k * 8 + 5, none⟩) hlt).trans q5, (hW.cell (p := ⟨b1, f1 + k * 8 + 6, none⟩) hlt).trans q6, (hW.cell (p := ⟨b1, f1 + k * 8 + 7, none⟩) hlt).trans q7⟩
        clear q0 q1 q2 q3 q4 q5 q6 q7
        obtain ⟨q0, q1, q2, q3, q4, q5, q6, q7⟩ := Q.out wr kb
        have hnn := hnow
        obtain ⟨g, hgd⟩ : ∃ g, g = (decide (k < n2) && decide ((k : Int) % 3 = 0)) := ⟨_, rfl⟩
        have HGD := Lib.hid hgd
        clear hgd
        go_upto_region 12 with fail
        go_cut [59] (fun v x => v = .bool g ∧ wr = x)
        case first =>
          by_cases hl2 : k < n2
          · by_cases h3 : (k : Int) % 3 = 0
            · have hgt : g = true := by rw [HGD.out]; simp [hl2, h3]
              subst hgt
              go_wp2_with fail
              go_meet
              exact ⟨rfl, rfl⟩
            · have hgt : g = false := by rw [HGD.out]; simp [hl2, h3]
              subst hgt
              have H3 := Lib.hid h3
              go_wp2_with fail
              go_meet
              exact ⟨by have := H3.out; simp [this], rfl⟩
          · have hgt : g = false := by rw [HGD.out]; simp [hl2]
            subst hgt
            go_wp2_with fail
            go_meet
            exact ⟨rfl, rfl⟩
        case rest =>
        obtain ⟨hv, hw⟩ := hcut
        subst hv
        subst hw
        go_upto_if 59 with fail
        go_cut [9, 10] (fun _ _ x => ∃ M2, LayerAt x b M2 now lst broken ∧ RLayerAt x rb M2 now lst broken ∧ Below w.heap.size w x)
        case first =>
          cases g
          · go_wp2_with fail
            go_meet
            exact ⟨M, gl, gr, kb⟩
          · have hgo := HGD.out
            simp at hgo
            obtain ⟨hl2, h3⟩ := hgo
            clear h3
            obtain ⟨b2, f2, rfl, hb2, z⟩ := HZ.out k hl2
            generalize z2 k = zz at *
            have z' : wr.cell? ⟨b2, f2 + k, none⟩ = some (.int .i64 zz) := by rw [kb.cell (p := ⟨b2, f2 + k, none⟩) hb2]; exact z
            by_cases y : 0 ≤ zz ∧ zz ≤ 3
            · obtain ⟨y1, y2⟩ := y
              have rk0 := obj_cell gr (k := 0) rfl
              have rf0 := obj_free gr 0
              have KS := KeepsBut.set (KeepsBut.refl rb wr) 0 (.int .i64 zz)
              have zs : (wr.setCell ⟨rb, 0, none⟩ (.int .i64 zz)).cell? ⟨b2, f2 + k, none⟩ = some (.int .i64 zz) := by rw [KS.cell (p := ⟨b2, f2 + k, none⟩) (Sl.lt z') (by simp; omega)]; exact z'
              have nb2 : b2 ≠ rb := by omega
              go_wp2_with fail
              refine (layerLimit_ok b M now lst broken zz y1 y2 _ (Keeps.heap KS gl hne)).mono ?_
              rintro e w3 ⟨rfl, g3, k3⟩
              go_wp2_with fail
              refine (error_none _).mono ?_
              rintro e w4 ⟨rfl, rfl⟩
              go_wp2_with fail
              go_meet
              exact ⟨zz, g3, RLayerAt.other (RLayerAt.set0 gr zz) k3 (Ne.symm hne), (kb.trans (KS.below kb.size hrb')).trans (k3.below (by have := kb.size; simp; omega) hb)⟩
            · have Y := Lib.hid y
              clear y
              go_wp2_with fail
              all_goals first
                | (exfalso; have := Y.out; omega)
                | (refine (layerLimit_bad b zz Y.out _).mono ?_
                   rintro e w3 ⟨rfl, rfl⟩
                   go_wp2_with fail
                   refine (error_same 1 _ (hE.below kb)).mono ?_
                   rintro e w4 ⟨rfl, k4⟩
                   go_wp2_with fail
                   go_meet
                   exact ⟨M, Below.heapAt k4 gl (lt_of_block gl), RLayerAt.below gr k4 (lt_of_block gr), kb.trans (k4.mono kb.size)⟩)
        case rest =>
        clear gl gr kb q0 q1 q2 q3 q4 q5 q6 q7
        obtain ⟨M, gl, gr, kb⟩ := hcut
        obtain ⟨q0, q1, q2, q3, q4, q5, q6, q7⟩ := Q.out _ kb
        go_wp2_with fail
        cases hlg : Pl.long num
        · skip
          refine (rTake_range rb num xg s t l lv st _ hlg _).mono ?_
          rintro e w6 ⟨rfl, k6⟩
          have gl6 := Below.heapAt k6 gl (lt_of_block gl)
          have gr6 := RLayerAt.below gr k6 (lt_of_block gr)
          have kb6 := kb.trans (k6.mono kb.size)
          clear k6 gl gr kb q0 q1 q2 q3 q4 q5 q6 q7
          obtain ⟨q0, q1, q2, q3, q4, q5, q6, q7⟩ := Q.out _ kb6
          go_wp2_with fail
          refine (layerTake_range b M now lst broken num xg s t l lv st _ hlg _ gl6).mono ?_
          rintro e w7 ⟨rfl, k7⟩
          have gl7 := Below.heapAt k7 gl6 (lt_of_block gl6)
          have gr7 := RLayerAt.below gr6 k7 (lt_of_block gr6)
          have kb7 := kb6.trans (k7.mono kb6.size)
          clear k7 gl6 gr6 kb6 q0 q1 q2 q3 q4 q5 q6 q7
          go_wp2_with fail
          refine (error_same (1) _ (hE.below kb7)).mono ?_
          rintro e w9 ⟨rfl, k9⟩
          have gl := Below.heapAt k9 gl7 (lt_of_block gl7)
          have gr := RLayerAt.below gr7 k9 (lt_of_block gr7)
          have kb9 := kb7.trans (k9.mono kb7.size)
          clear k9 gl7 gr7 kb7
          have hgn := Lib.hid (fun n => layerNow_any b M (now) (lst) (broken) (World.drewN w9 n) gl)
          have hgw0 := fun n => layerWants_q b M (now) (lst) (broken) (World.drewN w9 n) gl
          have hrw0 := fun n => rWants_any rb M (now) (lst) (broken) (World.drewN w9 n) gr hnn
          have rk1 := obj_cell gr (k := 1) rfl
          generalize Pl.wants M (now) (broken) = wv at hgw0 hrw0
          have hgw := Lib.hid hgw0
          have hrw := Lib.hid hrw0
          clear hgw0 hrw0
          go_wp2_with fail
          go_quiet ((first | (go_at_call 43; exact Calls.quietS (hgn.out _)) | (go_at_call 44; exact Calls.quiet_of (hgw.out _)) | (go_at_call 45; exact Calls.quiet_of (hrw.out _))))
          go_wp2
          go_roundw
          case measure => simp [intOf]; omega
          case rel => exact ⟨k + 1, M, now, lst, broken, by omega, by omega, by go_num, hnn, gl, gr, Below.drewN kb9 _⟩
        · by_cases hst : num ≤ lst
          · skip
            refine (rTake_state rb M now lst broken num xg s t l lv st _ hlg hst _ gr).mono ?_
            rintro e w6 ⟨rfl, k6⟩
            have gl6 := Below.heapAt k6 gl (lt_of_block gl)
            have gr6 := RLayerAt.below gr k6 (lt_of_block gr)
            have kb6 := kb.trans (k6.mono kb.size)
            clear k6 gl gr kb q0 q1 q2 q3 q4 q5 q6 q7
            obtain ⟨q0, q1, q2, q3, q4, q5, q6, q7⟩ := Q.out _ kb6
            go_wp2_with fail
            refine (layerTake_state b M now lst broken num xg s t l lv st _ hlg hst _ gl6).mono ?_
            rintro e w7 ⟨rfl, k7⟩
            have gl7 := Below.heapAt k7 gl6 (lt_of_block gl6)
            have gr7 := RLayerAt.below gr6 k7 (lt_of_block gr6)
            have kb7 := kb6.trans (k7.mono kb6.size)
            clear k7 gl6 gr6 kb6 q0 q1 q2 q3 q4 q5 q6 q7
            go_wp2_with fail
            refine (error_same (6) _ (hE.below kb7)).mono ?_
            rintro e w9 ⟨rfl, k9⟩
            have gl := Below.heapAt k9 gl7 (lt_of_block gl7)
            have gr := RLayerAt.below gr7 k9 (lt_of_block gr7)
            have kb9 := kb7.trans (k9.mono kb7.size)
            clear k9 gl7 gr7 kb7
            have hgn := Lib.hid (fun n => layerNow_any b M (now) (lst) (broken) (World.drewN w9 n) gl)
            have hgw0 := fun n => layerWants_q b M (now) (lst) (broken) (World.drewN w9 n) gl
            have hrw0 := fun n => rWants_any rb M (now) (lst) (broken) (World.drewN w9 n) gr hnn
            have rk1 := obj_cell gr (k := 1) rfl
            generalize Pl.wants M (now) (broken) = wv at hgw0 hrw0
            have hgw := Lib.hid hgw0
            have hrw := Lib.hid hrw0
            clear hgw0 hrw0
            go_wp2_with fail
            go_quiet ((first | (go_at_call 43; exact Calls.quietS (hgn.out _)) | (go_at_call 44; exact Calls.quiet_of (hgw.out _)) | (go_at_call 45; exact Calls.quiet_of (hrw.out _))))
            go_wp2
            go_roundw
            case measure => simp [intOf]; omega
            case rel => exact ⟨k + 1, M, now, lst, broken, by omega, by omega, by go_num, hnn, gl, gr, Below.drewN kb9 _⟩
          · have hlt' : lst < num := by omega
            cases xg
            · by_cases hp : Pl.pkOk s t l lv bl.length
              · have hl0 : 0 ≤ l := by unfold Pl.pkOk at hp; omega
                have hlow := Pl.take_low (most := M) (broken := broken) (st := st) hl0 hnow
                obtain ⟨T, hT⟩ : ∃ T, T = Pl.take M now broken false l st := ⟨_, rfl⟩
                rw [← hT] at hlow
                have HT := Lib.hid hT
                clear hT
                obtain ⟨tr, tn, tb⟩ := T
                simp only [] at hlow
                refine (rTake_ok rb M now lst broken num s t l lv st boa bl.length bc hbn hlg hlt' hp _ gr).mono ?_
                rw [← HT.out]
                rintro e w6 ⟨rfl, gr6, k6⟩
                have gl6 : LayerAt w6 b M now lst broken := Keeps.heap k6 gl hne
                have kb6 := kb.trans (k6.below kb.size hrb')
                clear k6 gl gr kb q0 q1 q2 q3 q4 q5 q6 q7
                obtain ⟨q0, q1, q2, q3, q4, q5, q6, q7⟩ := Q.out _ kb6
                go_wp2_with fail
                refine (layerTake_ok b M now lst broken num s t l lv st boa bl.length bc hlg hlt' hp _ gl6).mono ?_
                rw [← HT.out]
                rintro e w7 ⟨rfl, gl, k7⟩
                have gr := RLayerAt.other gr6 k7 (Ne.symm hne)
                have kb7 := kb6.trans (k7.below kb6.size hb)
                clear k7 gl6 gr6 kb6 q0 q1 q2 q3 q4 q5 q6 q7
                go_wp2_with fail
                refine (error_none _).mono ?_
                rintro e w9 ⟨rfl, rfl⟩
                generalize hw9 : w7 = w9 at *
                clear hw9
                have kb9 := kb7
                skip
                have hnn := hlow
                have hgn := Lib.hid (fun n => layerNow_any b M (tn) (num) (tb) (World.drewN w9 n) gl)
                have hgw0 := fun n => layerWants_q b M (tn) (num) (tb) (World.drewN w9 n) gl
                have hrw0 := fun n => rWants_any rb M (tn) (num) (tb) (World.drewN w9 n) gr hnn
                have rk1 := obj_cell gr (k := 1) rfl
                generalize Pl.wants M (tn) (tb) = wv at hgw0 hrw0
                have hgw := Lib.hid hgw0
                have hrw := Lib.hid hrw0
                clear hgw0 hrw0
                go_wp2_with fail
                go_quiet ((first | (go_at_call 43; exact Calls.quietS (hgn.out _)) | (go_at_call 44; exact Calls.quiet_of (hgw.out _)) | (go_at_call 45; exact Calls.quiet_of (hrw.out _))))
                go_wp2
                go_roundw
                case measure => simp [intOf]; omega
                case rel => exact ⟨k + 1, M, tn, num, tb, by omega, by omega, by go_num, hnn, gl, gr, Below.drewN kb9 _⟩
              · skip
                refine (rTake_fault rb M now lst broken num s t l lv st boa bl.length bc hbn hlg hlt' hp _ gr).mono ?_
                rintro e w6 ⟨rfl, k6⟩
                have gl6 := Below.heapAt k6 gl (lt_of_block gl)
                have gr6 := RLayerAt.below gr k6 (lt_of_block gr)
                have kb6 := kb.trans (k6.mono kb.size)
                clear k6 gl gr kb q0 q1 q2 q3 q4 q5 q6 q7
                obtain ⟨q0, q1, q2, q3, q4, q5, q6, q7⟩ := Q.out _ kb6
                go_wp2_with fail
                refine (layerTake_fault b M now lst broken num s t l lv st boa bl.length bc hbn hlg hlt' hp _ gl6).mono ?_
                rintro e w7 ⟨rfl, k7⟩
                have gl7 := Below.heapAt k7 gl6 (lt_of_block gl6)
                have gr7 := RLayerAt.below gr6 k7 (lt_of_block gr6)
                have kb7 := kb6.trans (k7.mono kb6.size)
                clear k7 gl6 gr6 kb6 q0 q1 q2 q3 q4 q5 q6 q7
                go_wp2_with fail
                refine (error_same (Pl.pkFault s t l lv bl.length) _ (hE.below kb7)).mono ?_
                rintro e w9 ⟨rfl, k9⟩
                have gl := Below.heapAt k9 gl7 (lt_of_block gl7)
                have gr := RLayerAt.below gr7 k9 (lt_of_block gr7)
                have kb9 := kb7.trans (k9.mono kb7.size)
                clear k9 gl7 gr7 kb7
                have hgn := Lib.hid (fun n => layerNow_any b M (now) (lst) (broken) (World.drewN w9 n) gl)
                have hgw0 := fun n => layerWants_q b M (now) (lst) (broken) (World.drewN w9 n) gl
                have hrw0 := fun n => rWants_any rb M (now) (lst) (broken) (World.drewN w9 n) gr hnn
                have rk1 := obj_cell gr (k := 1) rfl
                generalize Pl.wants M (now) (broken) = wv at hgw0 hrw0
                have hgw := Lib.hid hgw0
                have hrw := Lib.hid hrw0
                clear hgw0 hrw0
                go_wp2_with fail
                go_quiet ((first | (go_at_call 43; exact Calls.quietS (hgn.out _)) | (go_at_call 44; exact Calls.quiet_of (hgw.out _)) | (go_at_call 45; exact Calls.quiet_of (hrw.out _))))
                go_wp2
                go_roundw
                case measure => simp [intOf]; omega
                case rel => exact ⟨k + 1, M, now, lst, broken, by omega, by omega, by go_num, hnn, gl, gr, Below.drewN kb9 _⟩
            · skip
              refine (rTake_gone rb M now lst broken num s t l lv st _ hlg hlt' _ gr).mono ?_
              rw [Pl.goneB_eq broken now hnow]
              rintro e w6 ⟨rfl, gr6, k6⟩
              have gl6 : LayerAt w6 b M now lst broken := Keeps.heap k6 gl hne
              have kb6 := kb.trans (k6.below kb.size hrb')
              clear k6 gl gr kb q0 q1 q2 q3 q4 q5 q6 q7
              obtain ⟨q0, q1, q2, q3, q4, q5, q6, q7⟩ := Q.out _ kb6
              go_wp2_with fail
              refine (layerTake_gone b M now lst broken num s t l lv st _ hlg hlt' _ gl6).mono ?_
              rintro e w7 ⟨rfl, gl, k7⟩
              have gr := RLayerAt.other gr6 k7 (Ne.symm hne)
              have kb7 := kb6.trans (k7.below kb6.size hb)
              clear k7 gl6 gr6 kb6 q0 q1 q2 q3 q4 q5 q6 q7
              go_wp2_with fail
              refine (error_none _).mono ?_
              rintro e w9 ⟨rfl, rfl⟩
              generalize hw9 : w7 = w9 at *
              clear hw9
              have kb9 := kb7
              generalize (broken || decide (0 ≤ now)) = gb at *
              have hgn := Lib.hid (fun n => layerNow_any b M (now) (num) (gb) (World.drewN w9 n) gl)
              have hgw0 := fun n => layerWants_q b M (now) (num) (gb) (World.drewN w9 n) gl
              have hrw0 := fun n => rWants_any rb M (now) (num) (gb) (World.drewN w9 n) gr hnn
              have rk1 := obj_cell gr (k := 1) rfl
              generalize Pl.wants M (now) (gb) = wv at hgw0 hrw0
              have hgw := Lib.hid hgw0
              have hrw := Lib.hid hrw0
              clear hgw0 hrw0
              go_wp2_with fail
              go_quiet ((first | (go_at_call 43; exact Calls.quietS (hgn.out _)) | (go_at_call 44; exact Calls.quiet_of (hgw.out _)) | (go_at_call 45; exact Calls.quiet_of (hrw.out _))))
              go_wp2
              go_roundw
              case measure => simp [intOf]; omega
              case rel => exact ⟨k + 1, M, now, num, gb, by omega, by omega, by go_num, hnn, gl, gr, Below.drewN kb9 _⟩
      · have : k = 80 := by omega
        subst this
        go_wp2
        go_ret
        exact ⟨rfl, kb⟩
    · go_wp2
      go_ret
      exact ⟨rfl, kb⟩
theorem walk_LayerPlays (w : World) (a0 : Int) (w0 : (Lit.int .i64 a0).wf = true) (v1 : Value) (l1 : List It) (o1 : IsIts w v1 l1) (v2 : Value) (l2 : List Int) (o2 : IsInts w v2 l2) (hE : Env w) :
    Calls Tryd.prog 7 #[.int .i64 a0, v1, v2] w fun e w' => e = .returned (.bool true) ∧ Below w.heap.size w w' := by
  by_cases h : 0 ≤ a0 ∧ a0 ≤ 3
  · rcases o1 with ⟨⟨rfl, oa, cap, rfl, _, _⟩ | ⟨b1, f1, c1, rfl, q1, q2, q3⟩, hg⟩
    · exact walk_LayerPlays_none w hE a0 h.1 h.2 oa cap v2
    · by_cases h0 : l1 = []
      · subst h0
        exact walk_LayerPlays_none w hE a0 h.1 h.2 _ c1 v2
      · have hp : 0 < l1.length := List.length_pos_iff.2 h0
        have hlt : b1 < w.heap.size := Sl.lt (q3 0 hp 0 _ rfl)
        rcases o2 with ⟨⟨rfl, oa, cap, rfl, r1, _⟩ | ⟨b2, f2, c2, rfl, r1, r2, r3⟩, _⟩
        · exact walk_LayerPlays_run w hE a0 h.1 h.2 b1 f1 c1 l1 q1 q2 q3 hg hlt oa 0 cap (fun _ => 0) (by omega) r1 (fun k hk => by omega)
        · exact walk_LayerPlays_run w hE a0 h.1 h.2 b1 f1 c1 l1 q1 q2 q3 hg hlt _ l2.length c2 (fun k => l2.getD k 0) r1 r2 (fun k hk => ⟨b2, f2, rfl, Sl.lt (r3 k hk), by rw [r3 k hk]; simp [List.getD, hk]⟩)
  · exact walk_LayerPlays_bad w hE a0 v1 v2 h
end Go.Proofs.YtdnikhfhompedaaDoor
