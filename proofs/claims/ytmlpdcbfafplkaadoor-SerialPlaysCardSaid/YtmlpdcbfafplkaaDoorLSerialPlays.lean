import Derived.Test.YtmlpdcbfafplkaaDoorRefWinAdd
import Derived.Test.YtmlpdcbfafplkaaDoorTold
import Derived.Deep.QuietTactic
import Derived.BigQuiet
import Derived.Deep.CutBlock
import Derived.Deep.DeepCutAuto
/-! The walk of the law SerialPlays. -/
namespace Go.Proofs.YtmlpdcbfafplkaaDoor
open Go.RowKit
set_option linter.unusedVariables false
set_option linter.unusedSimpArgs false

theorem error_errV (f : Int) (w : World) (hE : Env w) : Calls Tryd.prog 6 #[Pl.errV f, .int .i64 f] w fun e w' => e = .returned (.bool true) ∧ Below w.heap.size w w' := by
  by_cases h : f = 0
  · subst h
    exact (error_nil 0 w).mono fun e w' ⟨h1, h2⟩ => ⟨by rw [h1]; simp, by rw [← h2]; exact Below.refl _ _⟩
  · rw [show Pl.errV f = .iface 55 (.int .i64 f) from if_neg h]
    exact (error_hit f f w hE).mono fun e w' ⟨h1, h2⟩ => ⟨by rw [h1]; simp, h2⟩
theorem error_none (w : World) : Calls Tryd.prog 6 #[.nilIface, .int .i64 0] w fun e w' => e = .returned (.bool true) ∧ w = w' :=
  (error_nil 0 w).mono fun e w' ⟨h1, h2⟩ => ⟨by rw [h1]; simp, h2⟩
theorem Pl.addTop_le {n top num : Int} (h : top ≤ 1099511627776) : Pl.addTop n top num ≤ 1099511627776 := by
  unfold Pl.addTop Pl.addF
  cases hl : Pl.long num
  · simp; exact h
  · have := (Pl.long_iff num).1 hl
    repeat' split
    all_goals omega
theorem Pl.addL_len (n top : Int) (L : List Int) (num : Int) : (Pl.addL n top L num).length ≤ L.length + 1 := by
  unfold Pl.addL
  repeat' split
  all_goals simp

set_option maxRecDepth 100000 in
set_option maxHeartbeats 2000000 in
theorem walk_SerialPlays_bad (w : World) (hE : Env w) (a0 : Int) (v1 v2 : Value) (h : ¬ (1 ≤ a0 ∧ a0 ≤ 64)) :
    Calls Tryd.prog 3 #[.int .i64 a0, v1, v2] w fun e w' => e = .returned (.bool true) ∧ Below w.heap.size w w' := by
  have G := Lib.hid h
  go_enter Tryd.func3, Tryd.ntmps3
  go_wp2_with fail
  refine (winNew_bad a0 h _).mono ?_
  rintro e w1 ⟨rfl, rfl⟩
  clear h
  go_wp2_with fail
  all_goals first
    | (exfalso; have := G.out; omega)
    | (refine (error_hit 1 1 _ hE).mono ?_
       rintro e w2 ⟨rfl, k2⟩
       go_wp2
       go_ret
       exact ⟨by simp, k2⟩)

/-- both windows between two numbers -/
structure Two (w0 w : World) (b rb : Nat) (n top : Int) (B : BitVec 64) (L : List Int) (vL : Value) : Prop where
  rel : Pl.WinRel top B L
  le : top ≤ 1099511627776
  win : WinAt w b n top B
  ref : RW w0.heap.size w rb n top vL L
  bel : Below w0.heap.size w0 w

set_option maxRecDepth 100000 in
set_option maxHeartbeats 16000000 in
theorem walk_SerialPlays_run (w : World) (hE : Env w) (a0 : Int) (n1 : 1 ≤ a0) (n2 : a0 ≤ 64) (v1 : Value) (l1 : List Int) (o1 : IsInts w v1 l1) (v2 : Value) (l2 : List Int) (o2 : IsInts w v2 l2) :
    Calls Tryd.prog 3 #[.int .i64 a0, v1, v2] w fun e w' => e = .returned (.bool true) ∧ Below w.heap.size w w' := by
  have hl1 := o1.1.len
  have hl2 := o2.1.len
  unfold maxLen at hl1 hl2
  obtain ⟨b1, f1, c1, oa1, rfl, s1, q1⟩ := Sl.shape o1.1
  obtain ⟨b2, f2, c2, oa2, rfl, s2, q2⟩ := Sl.shape o2.1
  have S1 := Lib.hid s1
  have S2 := Lib.hid s2
  have Q1 := Lib.hid (fun W (hW : Below w.heap.size w W) k (h : k < l1.length) => (hW.cell (p := ⟨b1, f1 + k, none⟩) (Sl.lt (q1 k h))).trans (q1 k h))
  have Q2 := Lib.hid (fun W (hW : Below w.heap.size w W) k (h : k < l2.length) => (hW.cell (p := ⟨b2, f2 + k, none⟩) (Sl.lt (q2 k h))).trans (q2 k h))
  clear s1 s2 q1 q2 o1 o2
  go_enter Tryd.func3, Tryd.ntmps3
  go_wp2_with fail
  refine (winNew_ok a0 n1 n2 _).mono ?_
  rintro e w1 ⟨b, rfl, hb, g1, k1⟩
  go_wp2_with fail
  refine (error_none _).mono ?_
  rintro e w' ⟨rfl, rfl⟩
  go_upto_region 9 with fail
  refine abs_at' (fun x => Two w x b w1.heap.size a0 (-1) 0#64 [] (.slice none 0 0)) ⟨Pl.WinRel.start, by decide, obj_old g1 _, ⟨obj_new _ _, World.ownsRow_nil _ _ _ _⟩, k1.alloc k1.size _⟩ ?_
  have hrb := k1.size
  have hbr := lt_of_block g1
  clear g1 k1
  rintro w2 t2
  generalize hrbn : w1.heap.size = rb at *
  clear hrbn
  have hne : b ≠ rb := by omega
  go_wp2
  go_loopw [12] (fun i wr => ∃ (k : Nat) (top : Int) (B : BitVec 64) (L : List Int) (vL : Value), k ≤ l1.length ∧ k ≤ 80 ∧ i = .int .i64 k ∧ L.length ≤ k ∧ Two w wr b rb a0 top B L vL) (fun i _ => 80 - (intOf i).toNat)
  case atStart => exact ⟨0, -1, 0#64, [], _, by omega, by omega, rfl, by simp, t2⟩
  case round =>
    clear t2
    obtain ⟨k, top, B, L, vL, hk, hk80, rfl, hL, t⟩ := hrel
    by_cases hlt1 : k < l1.length
    · by_cases hlt2 : k < 80
      · have ho := S1.out (by rintro rfl; simp at hlt1)
        subst ho
        have q := Q1.out _ t.bel k hlt1
        have QN := Lib.hid (fun W (hW : Below w.heap.size w W) => Q1.out W hW k hlt1)
        generalize l1[k] = num at *
        go_wp2_with fail
        refine (rAdd_all w.heap.size rb a0 top vL L num n1 n2 t.rel.low t.le t.rel.all (by omega) hrb _ t.bel.size t.ref).mono ?_
        rintro e w3 ⟨vL', rfl, rw3, k3, tk3⟩
        have kb3 := t.bel.trans k3
        have win3 : WinAt w3 b a0 top B := by have q := t.win; unfold WinAt at *; rw [tk3 _ _ q]; exact q
        have q3 := QN.out _ kb3
        clear q k3 tk3
        go_wp2_with fail
        refine (winAdd_all b a0 top B L t.rel num n1 n2 t.le _ win3).mono ?_
        rintro e w4 ⟨B', rfl, win4, rel4, k4⟩
        have rw4 := rw3.keep k4 win3 (Ne.symm hne)
        have kb4 := kb3.trans (k4.below kb3.size hb)
        have le4 := Pl.addTop_le (n := a0) (num := num) t.le
        have len4 := Pl.addL_len a0 top L num
        clear rw3 kb3 win3 q3 k4 t QN
        generalize Pl.addR a0 top L num = r at *
        generalize Pl.addF a0 top num = f at *
        generalize Pl.addTop a0 top num = top' at *
        generalize Pl.addL a0 top L num = L' at *
        go_wp2_with fail
        refine (error_errV f _ (hE.below kb4)).mono ?_
        rintro e w5 ⟨rfl, k5⟩
        have t5 : Two w w5 b rb a0 top' B' L' vL' := ⟨rel4, le4, win4.below k5 (lt_of_block win4), rw4.below k5, kb4.trans (k5.mono kb4.size)⟩
        clear rel4 le4 win4 rw4 k5 kb4
        have hw := t5.win
        have rk1 := obj_cell t5.ref.at_ (k := 1) rfl
        have hst := Lib.hid (fun m => winTop_any b a0 top' B' (World.drewN w5 m) hw)
        have hr : (r != r) = false := by simp
        clear hw
        go_wp2_with fail
        go_quiet ((go_at_call 9; exact Calls.quietS (hst.out _)))
        go_upto_region 17 with fail
        refine abs_at' (fun y => Two w y b rb a0 top' B' L' vL') ⟨t5.rel, t5.le, t5.win, ⟨t5.ref.at_, t5.ref.row⟩, Below.drewN t5.bel _⟩ ?_
        clear t5 rk1 hst hr
        rintro w6 t6
        go_wp2_with fail
        go_loopw [17] (fun i y => ∃ kk : Nat, kk ≤ 6 ∧ i = .int .i64 kk ∧ Two w y b rb a0 top' B' L' vL') (fun i _ => 6 - (intOf i).toNat)
        case atStart => exact ⟨0, by omega, rfl, t6⟩
        case round =>
          clear t6
          obtain ⟨kk, hkk, rfl, t⟩ := hrel
          by_cases hj : kk < l2.length
          · by_cases hj' : kk < 6
            · have ho := S2.out (by rintro rfl; simp at hj)
              subst ho
              have q := Q2.out _ t.bel kk hj
              generalize l2[kk] = hn at *
              have hw0 := fun m => winHas_any b a0 top' B' L' t.rel hn n1 n2 t.le (World.drewN wr m) t.win
              have hr0 := fun m => rHas_any w.heap.size rb a0 top' vL' L' hn n1 n2 t.rel.low t.le (World.drewN wr m) ⟨t.ref.at_, t.ref.row⟩
              generalize decide (hn ∈ L' ∧ top' - a0 < hn) = D at hw0 hr0
              have hwh := Lib.hid hw0
              have hrh := Lib.hid hr0
              have hD : (D != D) = false := by simp
              have T := Lib.hid t
              clear hw0 hr0 t
              go_wp2_with fail
              go_quiet ((first | (go_at_call 10; exact Calls.quiet_of (hwh.out _)) | (go_at_call 11; exact Calls.quiet_of (hrh.out _))))
              go_wp2
              go_roundw
              case measure => simp [intOf]; omega
              case rel => exact ⟨kk + 1, by omega, by go_num, ⟨T.out.rel, T.out.le, T.out.win, ⟨T.out.ref.at_, T.out.ref.row⟩, Below.drewN T.out.bel _⟩⟩
            · go_wp2
              go_roundw
              case measure => simp [intOf]; omega
              case rel => exact ⟨k + 1, top', B', L', vL', by omega, by omega, by go_num, by omega, t⟩
          · go_wp2
            go_roundw
            case measure => simp [intOf]; omega
            case rel => exact ⟨k + 1, top', B', L', vL', by omega, by omega, by go_num, by omega, t⟩
      · have : k = 80 := by omega
        subst this
        go_wp2
        go_ret
        exact ⟨rfl, t.bel⟩
    · go_wp2
      go_ret
      exact ⟨rfl, t.bel⟩
theorem walk_SerialPlays (w : World) (a0 : Int) (w0 : (Lit.int .i64 a0).wf = true) (v1 : Value) (l1 : List Int) (o1 : IsInts w v1 l1) (v2 : Value) (l2 : List Int) (o2 : IsInts w v2 l2) (hE : Env w) :
    Calls Tryd.prog 3 #[.int .i64 a0, v1, v2] w fun e w' => e = .returned (.bool true) ∧ Below w.heap.size w w' := by
  by_cases h : 1 ≤ a0 ∧ a0 ≤ 64
  · exact walk_SerialPlays_run w hE a0 h.1 h.2 v1 l1 o1 v2 l2 o2
  · exact walk_SerialPlays_bad w hE a0 v1 v2 h
end Go.Proofs.YtmlpdcbfafplkaaDoor
