import Derived.Test.YtmlpdcbfafplkaaDoorRefOut
import Derived.Test.YtmlpdcbfafplkaaDoorSame
import Derived.Test.YtmlpdcbfafplkaaDoorTold
import Derived.Deep.QuietTactic
import Derived.BigQuiet
import Derived.Deep.DeepCutAuto
/-! The walk of the law OutPlays. -/
namespace Go.Proofs.YtmlpdcbfafplkaaDoor
open Go.RowKit
set_option linter.unusedVariables false
set_option linter.unusedSimpArgs false

theorem error_same (k : Int) (w : World) (hg : Env w) : Calls Tryd.prog 6 #[.iface 55 (.int .i64 k), .int .i64 k] w fun e w' => e = .returned (.bool true) ∧ Below w.heap.size w w' :=
  (error_hit k k w hg).mono fun e w' ⟨h1, h2⟩ => ⟨by rw [h1]; simp, h2⟩
theorem error_none (w : World) : Calls Tryd.prog 6 #[.nilIface, .int .i64 0] w fun e w' => e = .returned (.bool true) ∧ w = w' :=
  (error_nil 0 w).mono fun e w' ⟨h1, h2⟩ => ⟨by rw [h1]; simp, h2⟩
theorem samePk_eq (s t l lv : Int) (st : Bool) (v v' : Value) (b : List UInt8) (w : World) (h : IsBytes w v b) (h' : IsBytes w v' b) :
    Calls Tryd.prog 17 #[pkV s t l lv st v, pkV s t l lv st v'] w fun e w' => e = .returned (.bool true) ∧ Below w.heap.size w w' :=
  (samePk_any s t l lv s t l lv st st v v' b b w h h').mono fun e w' ⟨h1, h2⟩ => ⟨by rw [h1]; simp [Pl.samePk], h2⟩

set_option maxRecDepth 100000 in
set_option maxHeartbeats 2000000 in
theorem walk_OutPlays_bad (w : World) (hE : Env w) (a0 a1 : Int) (v : Value) (h : ¬ (0 ≤ a0 ∧ a0 ≤ 65535 ∧ 0 ≤ a1 ∧ a1 ≤ 4294967295)) :
    Calls Tryd.prog 4 #[.int .i64 a0, .int .i64 a1, v] w fun e w' => e = .returned (.bool true) ∧ Below w.heap.size w w' := by
  have G := Lib.hid h
  have HS := Lib.hid (Pl.seq_iff a0)
  have HT := Lib.hid (Pl.wordB_iff a1)
  cases hs : Pl.seq a0 <;> cases ht : Pl.wordB a1
  all_goals
    have hs' : Hid (Pl.seq a0 = _) := hs
    have ht' : Hid (Pl.wordB a1 = _) := ht
    go_enter Tryd.func4, Tryd.ntmps4
    go_wp2_with fail
    refine (outNew_bad a0 a1 G.out _).mono ?_
    rintro e w1 ⟨rfl, rfl⟩
    go_wp2_with fail
    refine (rSeq_any a0 _).mono ?_
    rw [hs]
    rintro e w2 ⟨rfl, rfl⟩
    go_wp2_with fail
    refine (rWord_any a1 _).mono ?_
    rw [ht]
    rintro e w3 ⟨rfl, rfl⟩
    first
      | (exfalso; have e1 := (HS.out).1 hs'.out; have e2 := (HT.out).1 ht'.out; have := G.out; omega)
      | (clear h
         go_wp2_with fail
         refine (error_same 1 _ hE).mono ?_
         rintro e w4 ⟨rfl, k4⟩
         go_wp2
         go_ret
         exact ⟨rfl, k4⟩)

set_option maxRecDepth 100000 in
set_option maxHeartbeats 16000000 in
theorem walk_OutPlays_run (w : World) (hE : Env w) (a0 a1 : Int) (h0 : Pl.seq a0 = true) (h1 : Pl.word a1) (oa1 : Option Addr) (c1 : Nat) (l1 : List Pk) (hm1 : l1.length ≤ maxLen)
    (hcell : ∀ i (h : i < l1.length), ∃ b1 f1, oa1 = some ⟨b1, f1, none⟩ ∧ b1 < w.heap.size ∧ ∀ j u, (l1[i].cells)[j]? = some u → w.cell? ⟨b1, f1 + (i * 6 + j), none⟩ = some u) (hgood : ∀ x ∈ l1, x.Good w) :
    Calls Tryd.prog 4 #[.int .i64 a0, .int .i64 a1, .slice oa1 l1.length c1] w fun e w' => e = .returned (.bool true) ∧ Below w.heap.size w w' := by
  have HC := Lib.hid hcell
  have HG := Lib.hid hgood
  clear hcell hgood
  unfold maxLen at hm1
  have hwb : Pl.wordB a1 = true := by rw [Pl.wordB_iff]; exact h1
  go_enter Tryd.func4, Tryd.ntmps4
  go_wp2_with fail
  refine (outNew_ok a0 a1 h0 h1 _).mono ?_
  rintro e w1 ⟨b, rfl, hb, g1, k1⟩
  go_wp2_with fail
  refine (rSeq_any a0 _).mono ?_
  rw [h0]
  rintro e w2 ⟨rfl, rfl⟩
  go_wp2_with fail
  refine (rWord_any a1 _).mono ?_
  rw [hwb]
  rintro e w3 ⟨rfl, rfl⟩
  go_wp2_with fail
  refine (error_none _).mono ?_
  rintro e w4 ⟨rfl, rfl⟩
  go_upto_region 11 with fail
  refine abs_world (fun x => OutAt x b a0 a1 0 0 0 ∧ ROutAt x w1.heap.size a0 a1 0 0 0 0 0 false (.slice none 0 0) ∧ Below w.heap.size w x) ⟨obj_old g1 _, obj_new _ _, k1.alloc k1.size _⟩ ?_
  have hrb := k1.size
  have hbr := lt_of_block g1
  clear g1 k1 hwb
  rintro w5 ⟨gl, gr, kb⟩
  generalize hrbn : w1.heap.size = rb at *
  clear hrbn
  have hne : b ≠ rb := by omega
  have H0 := Lib.hid h0
  have H1 := Lib.hid h1
  clear h0 h1
  go_wp2_with fail
  go_loopw [14] (fun i wr => ∃ (k : Nat) (seq time sent lt ll s' lv' : Int) (st' : Bool) (bv' : Value), k ≤ l1.length ∧ k ≤ 60 ∧ i = .int .i64 k ∧ 0 ≤ sent ∧ sent ≤ k ∧ Pl.seq seq = true ∧ Pl.word time ∧ Pl.word lt ∧ OutAt wr b seq time sent lt ll ∧ ROutAt wr rb seq time sent s' lt ll lv' st' bv' ∧ Below w.heap.size w wr) (fun i _ => 60 - (intOf i).toNat)
  case atStart => exact ⟨0, a0, a1, 0, 0, 0, 0, 0, false, .slice none 0 0, by omega, by omega, rfl, Int.le_refl _, by omega, H0.out, H1.out, ⟨by decide, by decide⟩, gl, gr, kb⟩
  case round =>
    clear gl gr kb
    obtain ⟨k, seq, time, sent, lt, ll, s', lv', st', bv', hk, hk60, rfl, hs0, hs1, hsq, htm, hlt, gl, gr, kb⟩ := hrel
    have SQ := Lib.hid hsq
    have TM := Lib.hid htm
    have LT := Lib.hid hlt
    clear hsq htm hlt
    by_cases hlt1 : k < l1.length
    · by_cases hlt2 : k < 60
      · obtain ⟨b1, f1, rfl, hb1, cells⟩ := HC.out k hlt1
        have good := HG.out _ (List.getElem_mem hlt1)
        generalize l1[k] = x at *
        obtain ⟨s, t, l, lv, st, bv, bl⟩ := x
        obtain ⟨hs, ht, hl, hlv, hbv⟩ := good
        have HBV : Hid (IsBytes w bv bl) := hbv
        obtain ⟨boa, bc, hbv', hbn⟩ := bytes_slice hbv
        simp only [] at hbv' hbn
        subst hbv'
        have q0 := cells 0 _ rfl
        have q1 := cells 1 _ rfl
        have q2 := cells 2 _ rfl
        have q3 := cells 3 _ rfl
        have q4 := cells 4 _ rfl
        have q5 := cells 5 _ rfl
        clear cells hbv
        simp only [] at *
        have Q : Hid (∀ W, Below w.heap.size w W → W.cell? ⟨b1, f1 + k * 6, none⟩ = some (.int .i64 s) ∧ W.cell? ⟨b1, f1 + k * 6 + 1, none⟩ = some (.int .i64 t) ∧ W.cell? ⟨b1, f1 + k * 6 + 2, none⟩ = some (.int .i64 l) ∧ W.cell? ⟨b1, f1 + k * 6 + 3, none⟩ = some (.int .i64 lv) ∧ W.cell? ⟨b1, f1 + k * 6 + 4, none⟩ = some (.bool st) ∧ W.cell? ⟨b1, f1 + k * 6 + 5, none⟩ = some (.slice boa bl.length bc)) := fun W hW =>
          ⟨(hW.cell (p := ⟨b1, f1 + k * 6, none⟩) hb1).trans q0, (hW.cell (p := ⟨b1, f1 + k * 6 + 1, none⟩) hb1).trans q1, (hW.cell (p := ⟨b1, f1 + k * 6 + 2, none⟩) hb1).trans q2, (hW.cell (p := ⟨b1, f1 + k * 6 + 3, none⟩) hb1).trans q3, (hW.cell (p := ⟨b1, f1 + k * 6 + 4, none⟩) hb1).trans q4, (hW.cell (p := ⟨b1, f1 + k * 6 + 5, none⟩) hb1).trans q5⟩
        clear q0 q1 q2 q3 q4 q5
        obtain ⟨q0, q1, q2, q3, q4, q5⟩ := Q.out wr kb
        go_wp2_with fail
        by_cases hp : Pl.pkOk s t l lv bl.length
        · have HP := Lib.hid hp
          clear hp
          refine (rOutNext_ok rb seq time sent s' lt ll lv' s t l lv st' st bv' _ bl HP.out SQ.out TM.out hs0 (by omega) LT.out _ gr (HBV.out.below kb)).mono ?_
          rintro e w6 ⟨rfl, gr6, k6⟩
          have gl6 := OutAt.other gl k6 hne
          have kb6 := kb.trans (k6.below kb.size hrb)
          clear gl gr q0 q1 q2 q3 q4 q5 k6
          have HX : Hid (Pl.seq (Pl.outSeq sent seq) = true) := Pl.outSeq_bd sent seq SQ.out
          have HY : Hid (Pl.word (Pl.outTime sent time lt ll t l)) := Pl.outTime_bd sent time lt ll t l TM.out
          obtain ⟨X, hX⟩ : ∃ X, X = Pl.outSeq sent seq := ⟨_, rfl⟩
          obtain ⟨Y, hY⟩ : ∃ Y, Y = Pl.outTime sent time lt ll t l := ⟨_, rfl⟩
          have EX := Lib.hid hX
          have EY := Lib.hid hY
          rw [← hX, ← hY] at gr6
          rw [← hX] at HX
          rw [← hY] at HY
          rw [← hX, ← hY]
          clear hX hY
          have hw6 := kb6.size
          go_upto_region 15 with fail
          refine abs_world (fun x => OutAt x b seq time sent lt ll ∧ ROutAt x rb X Y (sent + 1) s t l lv st (.slice boa bl.length bc) ∧ PkAt x w6.heap.size X Y l lv st (.slice boa bl.length bc) ∧ Below w.heap.size w x) ⟨by exact obj_old gl6 _, by exact obj_old gr6 _, PkAt.new _ _ _ _ _ _ _, kb6.alloc kb6.size _⟩ ?_
          have l6 := lt_of_block gl6
          have l6' := lt_of_block gr6
          clear gl6 gr6 kb6
          rintro w7 ⟨gl7, gr7, p7, kb7⟩
          generalize hN : w6.heap.size = N at *
          clear hN
          obtain ⟨q0, q1, q2, q3, q4, q5⟩ := Q.out w7 kb7
          go_wp2_with fail
          refine (outNext_ok b seq time sent lt ll s t l lv st _ bl HP.out SQ.out TM.out hs0 (by omega) LT.out _ gl7 (fun W hW => arg_bytes HBV.out kb7 hb hW)).mono ?_
          rintro e w8 ⟨v8, rfl, iv8, gl8, k8⟩
          rw [← EX.out, ← EY.out] at gl8
          rw [← EX.out, ← EY.out]
          have gr8 := ROutAt.other gr7 k8 (Ne.symm hne)
          have p8 := PkAt.other p7 k8 (by omega)
          have kb8 := kb7.trans (k8.below kb7.size hb)
          have s8 := k8.size
          have lN := lt_of_block p7
          clear gl7 gr7 p7 k8 q0 q1 q2 q3 q4 q5
          have IV := Lib.hid iv8
          obtain ⟨oa8, c8, rfl, _⟩ := bytes_slice (iv8 _ (Keeps.refl _ _))
          clear iv8
          go_upto_region 16 with fail
          have b9 : Below w8.heap.size w8 (w8.alloc (.cells #[.int .i64 X, .int .i64 Y, .int .i64 l, .int .i64 lv, .bool st, .slice oa8 bl.length c8] 46)) := (Below.refl _ _).alloc (Nat.le_refl _) _
          refine abs_world (fun x => OutAt x b X Y (sent + 1) t l ∧ ROutAt x rb X Y (sent + 1) s t l lv st (.slice boa bl.length bc) ∧ PkAt x N X Y l lv st (.slice boa bl.length bc) ∧ PkAt x w8.heap.size X Y l lv st (.slice oa8 bl.length c8) ∧ IsBytes x (.slice oa8 bl.length c8) bl ∧ Below w.heap.size w x) ⟨by exact obj_old gl8 _, by exact obj_old gr8 _, PkAt.old p8 _, PkAt.new _ _ _ _ _ _ _, (IV.out _ (Keeps.refl _ _)).below b9, kb8.alloc kb8.size _⟩ ?_
          clear gl8 gr8 p8 kb8 IV b9
          rintro w9 ⟨gl9, gr9, p9, p9', iv9, kb9⟩
          generalize hM : w8.heap.size = M at *
          clear hM
          have IV := Lib.hid iv9
          clear iv9
          have x0 := obj_cell p9 (k := 0) rfl
          have x1 := obj_cell p9 (k := 1) rfl
          have x2 := obj_cell p9 (k := 2) rfl
          have x3 := obj_cell p9 (k := 3) rfl
          have x4 := obj_cell p9 (k := 4) rfl
          have x5 := obj_cell p9 (k := 5) rfl
          have y0 := obj_cell p9' (k := 0) rfl
          have y1 := obj_cell p9' (k := 1) rfl
          have y2 := obj_cell p9' (k := 2) rfl
          have y3 := obj_cell p9' (k := 3) rfl
          have y4 := obj_cell p9' (k := 4) rfl
          have y5 := obj_cell p9' (k := 5) rfl
          go_wp2_with fail
          refine (error_none _).mono ?_
          rintro e wa ⟨rfl, rfl⟩
          go_wp2_with fail
          refine (samePk_eq X Y l lv st _ _ bl _ IV.out (HBV.out.below kb9)).mono ?_
          rintro e wb ⟨rfl, kB⟩
          have glb := OutAt.below gl9 kB (lt_of_block gl9)
          have grb := ROutAt.below gr9 kB (lt_of_block gr9)
          have kbb := kb9.trans (kB.mono kb9.size)
          clear gl9 gr9 p9 p9' x0 x1 x2 x3 x4 x5 y0 y1 y2 y3 y4 y5 kb9 kB
          have hst := Lib.hid (fun n => outSent_any b X Y (sent + 1) t l (World.drewN wb n) glb)
          have rk2 := obj_cell grb (k := 2) rfl
          go_wp2_with fail
          go_quiet ((go_at_call 18; exact Calls.quietS (hst.out _)))
          go_wp2
          go_roundw
          case measure => simp [intOf]; omega
          case rel => exact ⟨k + 1, X, Y, sent + 1, t, l, s, lv, st, _, by omega, by omega, by go_num, by omega, by omega, HX.out, HY.out, (by have := HP.out; unfold Pl.pkOk at this; exact ⟨by omega, by omega⟩), glb, grb, Below.drewN kbb _⟩
        · have HP := Lib.hid hp
          clear hp
          refine (rOutNext_bad rb s t l lv st _ bl HP.out _ (HBV.out.below kb)).mono ?_
          rintro e w6 ⟨rfl, k6⟩
          have gl6 := OutAt.below gl k6 (lt_of_block gl)
          have gr6 := ROutAt.below gr k6 (lt_of_block gr)
          have kb6 := kb.trans (k6.mono kb.size)
          clear gl gr q0 q1 q2 q3 q4 q5 k6
          obtain ⟨f, hf⟩ : ∃ f, f = Pl.pkFault s t l lv bl.length := ⟨_, rfl⟩
          have HF := Lib.hid hf
          rw [← hf]
          clear hf
          have hw6 := kb6.size
          go_upto_region 15 with fail
          refine abs_world (fun x => OutAt x b seq time sent lt ll ∧ ROutAt x rb seq time sent s' lt ll lv' st' bv' ∧ PkAt x w6.heap.size 0 0 0 0 false (.slice none 0 0) ∧ Below w.heap.size w x) ⟨by exact obj_old gl6 _, by exact obj_old gr6 _, PkAt.new _ _ _ _ _ _ _, kb6.alloc kb6.size _⟩ ?_
          have l6 := lt_of_block gl6
          have l6' := lt_of_block gr6
          clear gl6 gr6 kb6
          rintro w7 ⟨gl7, gr7, p7, kb7⟩
          generalize hN : w6.heap.size = N at *
          clear hN
          obtain ⟨q0, q1, q2, q3, q4, q5⟩ := Q.out w7 kb7
          go_wp2_with fail
          refine (outNext_bad b s t l lv st _ bl HP.out _ (HBV.out.below kb7)).mono ?_
          rintro e w8 ⟨rfl, k8⟩
          rw [← HF.out]
          have gl8 := OutAt.below gl7 k8 (lt_of_block gl7)
          have gr8 := ROutAt.below gr7 k8 (lt_of_block gr7)
          have p8 := PkAt.below p7 k8 (lt_of_block p7)
          have kb8 := kb7.trans (k8.mono kb7.size)
          clear gl7 gr7 p7 k8 q0 q1 q2 q3 q4 q5
          go_upto_region 16 with fail
          refine abs_world (fun x => OutAt x b seq time sent lt ll ∧ ROutAt x rb seq time sent s' lt ll lv' st' bv' ∧ PkAt x N 0 0 0 0 false (.slice none 0 0) ∧ PkAt x w8.heap.size 0 0 0 0 false (.slice none 0 0) ∧ Below w.heap.size w x) ⟨by exact obj_old gl8 _, by exact obj_old gr8 _, PkAt.old p8 _, PkAt.new _ _ _ _ _ _ _, kb8.alloc kb8.size _⟩ ?_
          clear gl8 gr8 p8 kb8
          rintro w9 ⟨gl9, gr9, p9, p9', kb9⟩
          generalize hM : w8.heap.size = M at *
          clear hM
          go_wp2_with fail
          refine (error_same f _ (hE.below kb9)).mono ?_
          rintro e wa ⟨rfl, ka⟩
          have gla := OutAt.below gl9 ka (lt_of_block gl9)
          have gra := ROutAt.below gr9 ka (lt_of_block gr9)
          have pa := PkAt.below p9 ka (lt_of_block p9)
          have pa' := PkAt.below p9' ka (lt_of_block p9')
          have kba := kb9.trans (ka.mono kb9.size)
          clear gl9 gr9 p9 p9' kb9 ka
          have x0 := obj_cell pa (k := 0) rfl
          have x1 := obj_cell pa (k := 1) rfl
          have x2 := obj_cell pa (k := 2) rfl
          have x3 := obj_cell pa (k := 3) rfl
          have x4 := obj_cell pa (k := 4) rfl
          have x5 := obj_cell pa (k := 5) rfl
          have y0 := obj_cell pa' (k := 0) rfl
          have y1 := obj_cell pa' (k := 1) rfl
          have y2 := obj_cell pa' (k := 2) rfl
          have y3 := obj_cell pa' (k := 3) rfl
          have y4 := obj_cell pa' (k := 4) rfl
          have y5 := obj_cell pa' (k := 5) rfl
          go_wp2_with fail
          refine (samePk_eq 0 0 0 0 false _ _ [] _ (Sl.nil _) (Sl.nil _)).mono ?_
          rintro e wb ⟨rfl, kB⟩
          have glb := OutAt.below gla kB (lt_of_block gla)
          have grb := ROutAt.below gra kB (lt_of_block gra)
          have kbb := kba.trans (kB.mono kba.size)
          clear gla gra pa pa' x0 x1 x2 x3 x4 x5 y0 y1 y2 y3 y4 y5 kba kB
          have hst := Lib.hid (fun n => outSent_any b seq time sent lt ll (World.drewN wb n) glb)
          have rk2 := obj_cell grb (k := 2) rfl
          go_wp2_with fail
          go_quiet ((go_at_call 18; exact Calls.quietS (hst.out _)))
          go_wp2
          go_roundw
          case measure => simp [intOf]; omega
          case rel => exact ⟨k + 1, seq, time, sent, lt, ll, s', lv', st', bv', by omega, by omega, by go_num, hs0, by omega, SQ.out, TM.out, LT.out, glb, grb, Below.drewN kbb _⟩
      · have : k = 60 := by omega
        subst this
        go_wp2
        go_ret
        exact ⟨rfl, kb⟩
    · go_wp2
      go_ret
      exact ⟨rfl, kb⟩
theorem walk_OutPlays (w : World) (a0 : Int) (w0 : (Lit.int .i64 a0).wf = true) (a1 : Int) (w1 : (Lit.int .i64 a1).wf = true) (v : Value) (l1 : List Pk) (o1 : IsPks w v l1) (hE : Env w) :
    Calls Tryd.prog 4 #[.int .i64 a0, .int .i64 a1, v] w fun e w' => e = .returned (.bool true) ∧ Below w.heap.size w w' := by
  by_cases h : 0 ≤ a0 ∧ a0 ≤ 65535 ∧ 0 ≤ a1 ∧ a1 ≤ 4294967295
  · have h0 : Pl.seq a0 = true := by rw [Pl.seq_iff]; omega
    have h1 : Pl.word a1 := ⟨by omega, by omega⟩
    have hl := o1.1.len
    obtain ⟨o, hg⟩ := o1
    rcases o with ⟨rfl, oa, cap, rfl, _, _⟩ | ⟨b1, f1, c1, rfl, q1, q2, q3⟩
    · exact walk_OutPlays_run w hE a0 a1 h0 h1 oa cap [] hl (fun i hi => by simp at hi) hg
    · exact walk_OutPlays_run w hE a0 a1 h0 h1 _ c1 l1 hl (fun i hi => ⟨b1, f1, rfl, Sl.lt (q3 i hi 0 _ rfl), q3 i hi⟩) hg
  · exact walk_OutPlays_bad w hE a0 a1 v h
end Go.Proofs.YtmlpdcbfafplkaaDoor
