import Derived.Test.YtefhbjkhmfmkaaaDoorVoiceE
import Derived.Test.YtefhbjkhmfmkaaaDoorKeysSorted
import Derived.Test.YtefhbjkhmfmkaaaDoorIRow
/-! voice.Speaker, voice.Top, voice.Quiet. -/
namespace Go.Proofs.YtefhbjkhmfmkaaaDoor
open Go.RowKit
set_option linter.unusedVariables false
set_option linter.unusedSimpArgs false
theorem voiceSpeaker_any (b bm : Nat) (many sp : Int) (w : World) (h : VoAt w b many sp bm) : Calls Tryd.prog 14 #[.pointer (some ⟨b, 0, none⟩)] w fun e w' => e = .returned (.int .i64 sp) ∧ w = w' := by
  have c1 : w.cell? ⟨b, 1, none⟩ = some (.int .i64 sp) := obj_cell h rfl
  clear h
  go_enter Tryd.func14, Tryd.ntmps14
  go_wp2_with fail
  go_ret
  exact ⟨rfl, rfl⟩
theorem Pl.Sok.num {f : Pl.Sco} {R : List Vc} (hf : Pl.Sok f) (h : Pl.SortedOf f R) : ∀ x ∈ R, x.Num := fun x hx => by
  have := hf x.who x.lvl ((h.2 x.who x.lvl).1 hx)
  exact ⟨⟨by omega, by omega⟩, by omega, by omega⟩
set_option maxRecDepth 100000 in
set_option maxHeartbeats 1000000 in
theorem voiceTop_any (b bm c : Nat) (many : Nat) (sp : Int) (f : Pl.Sco) (w : World) (hV : Voi w b many sp bm c f) (hm1 : 1 ≤ many) (hm2 : many ≤ 20) :
    Calls Tryd.prog 10 #[.pointer (some ⟨b, 0, none⟩)] w fun e w' => ∃ (v' : Value) (R : List Vc), e = .returned v' ∧ Pl.SortedOf f R ∧ IsVs w' v' (R.take many) ∧ Below w.heap.size w w' := by
  have SR := Lib.hid (sorted_any b bm c many sp f w hV.at_ hV.map (by have := hV.cnt; omega))
  have HV := Lib.hid hV
  clear hV
  go_enter Tryd.func10, Tryd.ntmps10
  go_upto_region 2 with (go_at_call 20; (with_reducible refine SR.out.mono ?_); rintro r y6 ⟨v13, R, rfl, hso, hRl, hro, k⟩; have SO := Lib.hid hso; have RO := Lib.hid hro; have K6 := Lib.hid k; clear hso hro k)
  have c0 : y6.cell? ⟨b, 0, none⟩ = some (.int .i64 many) := obj_cell (HV.out.below K6.out).at_ rfl
  clear SR
  have RV := Lib.hid (vcK_vs RO.out (HV.out.ok.num SO.out))
  rcases RO.out.2 with ⟨rfl, h0⟩ | ⟨g, cap, cur, rfl, hb, hgg, hc, hm, hs, ht⟩
  · obtain rfl : R = [] := by simpa using h0
    have hmin : min (0 : Int) (many : Int) = 0 := by omega
    clear h0
    go_wp2_with fail
    go_ret
    exact ⟨_, [], rfl, SO.out, by simpa using RV.out, K6.out⟩
  · have RVo := RV.out
    unfold maxLen at hm
    clear hb hgg hs ht RV RO
    by_cases hl : R.length ≤ many
    · have hmin : min (R.length : Int) (many : Int) = (R.length : Int) := by omega
      have RVt := Lib.hid RVo
      clear RVo
      go_wp2_with fail
      go_ret
      exact ⟨_, R, rfl, SO.out, by rw [List.take_of_length_le hl]; exact RVt.out, K6.out⟩
    · have hmin : min (R.length : Int) (many : Int) = (many : Int) := by omega
      have RVt := Lib.hid (RVo.take many (by omega))
      clear RVo
      have hl1 : many ≤ cap := by omega
      go_wp2_with fail
      go_ret
      exact ⟨_, R, rfl, SO.out, RVt.out, K6.out⟩
def Pl.quiet (R : List Vc) (many : Nat) : List Int := ((R.drop many).map (·.who)).mergeSort fun x y => decide (x ≤ y)
theorem drop_more {R : List Vc} {many i : Nat} (hi : i < R.length) (hm : many ≤ i) : ((R.take (i + 1)).drop many).map (·.who) = ((R.take i).drop many).map (·.who) ++ [R[i].who] := by
  rw [List.take_succ_eq_append_getElem hi, List.drop_append_of_le_length (by simp; omega)]
  simp
theorem drop_less {R : List Vc} {many i : Nat} (hm : i < many) : ((R.take (i + 1)).drop many).map (·.who) = ((R.take i).drop many).map (·.who) := by
  rw [List.drop_eq_nil_of_le (by simp; omega), List.drop_eq_nil_of_le (by simp; omega)]
set_option maxRecDepth 100000 in
set_option maxHeartbeats 1000000 in
theorem voiceQuiet_any (b bm c : Nat) (many : Nat) (sp : Int) (f : Pl.Sco) (w : World) (hV : Voi w b many sp bm c f) (hm1 : 1 ≤ many) (hm2 : many ≤ 20) :
    Calls Tryd.prog 12 #[.pointer (some ⟨b, 0, none⟩)] w fun e w' => ∃ (v' : Value) (R : List Vc), e = .returned v' ∧ Pl.SortedOf f R ∧ IRow w' w.heap.size v' (Pl.quiet R many) ∧ Below w.heap.size w w' := by
  have SR := Lib.hid (sorted_any b bm c many sp f w hV.at_ hV.map (by have := hV.cnt; omega))
  have HV := Lib.hid hV
  have HB := Lib.hid (lt_of_block hV.at_)
  clear hV
  go_enter Tryd.func12, Tryd.ntmps12
  go_upto_region 3 with (go_at_call 20; (with_reducible refine SR.out.mono ?_); rintro r y6 ⟨v13, R, rfl, hso, hRl, hro, k⟩; have SO := Lib.hid hso; have RO := Lib.hid hro; have K6 := Lib.hid k; have RV := Lib.hid (vcK_vs hro (HV.out.ok.num hso)); obtain ⟨o13, c13, rfl, hl13, hm13, -, rd⟩ := vs_read RV.out; unfold maxLen at hm13; have RD := Lib.hid rd; clear hso hro k rd)
  clear SR
  go_loopw [3, 4, 5, 9] (fun s3 _ _ s9 wr => ∃ i : Nat, i ≤ R.length ∧ s9 = .int .i64 i ∧ Hid (IRow wr y6.heap.size s3 (((R.take i).drop many).map (·.who))) ∧ Hid (Below y6.heap.size y6 wr)) (fun _ _ _ s9 _ => R.length - (intOf s9).toNat)
  case atStart => exact ⟨0, by omega, rfl, Lib.hid (by simpa using IRow.nil _ _), Lib.hid (Below.refl _ _)⟩
  case round =>
    obtain ⟨i, hi, rfl, AR, KY⟩ := hrel
    by_cases hlt : i < R.length
    · obtain ⟨g, fo, rfl, hg, q0, q1, -⟩ := RD.out i hlt
      have e0 : wr.cell? ⟨g, fo + i * 2, none⟩ = some (.int .i64 R[i].who) := (KY.out.cell (p := ⟨g, fo + i * 2, none⟩) hg).trans q0
      have e1 : wr.cell? ⟨g, fo + i * 2 + 1, none⟩ = some (.int .i64 R[i].lvl) := (KY.out.cell (p := ⟨g, fo + i * 2 + 1, none⟩) hg).trans q1
      have hlt2 : (i : Int) < (R.length : Int) := by omega
      have DM := Lib.hid (fun h => drop_more (many := many) hlt h)
      generalize R[i].who = x at *
      generalize R[i].lvl = l at *
      clear q0 q1
      have kA : Below wr.heap.size wr (wr.alloc (.cells #[.int .i64 x, .int .i64 l] 38)) := (Below.refl _ _).alloc (Nat.le_refl _) _
      have SZ := Lib.hid (show y6.heap.size ≤ wr.heap.size from KY.out.size)
      go_upto_region 5 with fail
      obtain ⟨K, hK⟩ : ∃ K, wr.heap.size = K := ⟨_, rfl⟩
      refine abs_t (fun y => Hid (VcIn y wr.heap.size x l) ∧ Hid (IRow y y6.heap.size u3 (((R.take i).drop many).map (·.who))) ∧ Hid (Below y6.heap.size y6 y)) ⟨Lib.hid (obj_new _ _), Lib.hid (AR.out.below kA), Lib.hid (KY.out.trans (kA.mono SZ.out))⟩ ?_
      rw [hK]
      clear kA hK e0 e1 AR KY SZ
      rintro y ⟨VI, AR, KY⟩
      have c0 : y.cell? ⟨b, 0, none⟩ = some (.int .i64 many) := obj_cell (HV.out.below (K6.out.trans (KY.out.mono K6.out.size))).at_ rfl
      obtain ⟨p0, p1⟩ := VI.out.cells
      by_cases hge : many ≤ i
      · have hge2 : (many : Int) ≤ (i : Int) := by omega
        obtain ⟨gN, capN, wN, hr, ha, hk⟩ := AR.out.more x (by simp; omega) KY.out (Nat.le_refl _)
        obtain ⟨nn, hnn⟩ : ∃ n, (((R.take i).drop many).map (·.who)).length = n := ⟨_, rfl⟩
        rw [hnn] at hr ha
        have HR := Lib.hid hr
        have A2 := Lib.hid (show IRow wN y6.heap.size _ (((R.take (i + 1)).drop many).map (·.who)) from by rw [DM.out hge]; exact ha)
        have K2 := Lib.hid hk
        clear hr ha hk hnn
        go_wp2_with (at_builtin; refine Lib.wpList_append_run _ rfl (.tmp 20) (.tmp 23) 36 36 rfl _ _ rfl rfl _ _ HR.out ?_)
        go_roundw
        case measure => simp only [intOf]; omega
        case rel => exact ⟨i + 1, by omega, by simp, A2, K2⟩
      · have hge2 : ¬ (many : Int) ≤ (i : Int) := by omega
        have A2 := Lib.hid (show IRow y y6.heap.size u3 (((R.take (i + 1)).drop many).map (·.who)) from by rw [drop_less (by omega)]; exact AR.out)
        go_wp2_with fail
        go_roundw
        case measure => simp only [intOf]; omega
        case rel => exact ⟨i + 1, by omega, by simp, A2, KY⟩
    · have hie : i = R.length := by omega
      subst hie
      have hnlt : ¬ (R.length : Int) < (R.length : Int) := by omega
      have AR2 := AR.out
      rw [List.take_length] at AR2
      have hAl : ((R.drop many).map (·.who)).length ≤ 1000000 := by simp; omega
      have SO2 := Lib.hid ((sortInts_own y6.heap.size u3 ((R.drop many).map (·.who)) wr hAl AR2).mono (R' := fun e w' => e = .returned (.tuple #[]) ∧ IRow w' w.heap.size u3 (Pl.quiet R many) ∧ Below w.heap.size w w') (fun e w' ⟨h1, h2, h3⟩ => ⟨h1, by
        refine IRow.lower ?_ K6.out.size
        unfold IRow Pl.quiet
        rw [List.length_mergeSort]
        exact h2, by
        have hh := K6.out.trans (KY.out.mono K6.out.size)
        exact ⟨h3.os.trans hh.os, h3.tape.trans hh.tape, h3.output.trans hh.output, Nat.le_trans hh.size h3.size, fun j hj => (h3.block j (Nat.lt_of_lt_of_le hj hh.size) (fun e => by have := (AR.out.lt j e.symm).1; have := K6.out.size; omega)).trans (hh.block j hj)⟩⟩))
      clear AR2 AR KY hAl hlt
      go_wp2_with (go_at_call 21; (with_reducible refine SO2.out.mono ?_); rintro r z ⟨rfl, hi, k⟩; have HI := Lib.hid hi; have KZ := Lib.hid k; clear hi k)
      go_ret
      exact ⟨_, R, rfl, SO.out, HI.out, KZ.out⟩
end Go.Proofs.YtefhbjkhmfmkaaaDoor
