import Derived.Test.YtdnikhfhompedaaLayerTake
import Derived.Test.YtdnikhfhompedaaPk
/-! The walk of the law LayerStarts. -/
namespace Go.Proofs.Ytdnikhfhompedaa
open Go.RowKit
set_option linter.unusedVariables false
set_option linter.unusedSimpArgs false

set_option maxRecDepth 100000 in
set_option maxHeartbeats 4000000 in
theorem walk_LayerStarts_bad (w : World) (a0 : Int) (v1 v2 : Value) (h : ¬ (0 ≤ a0 ∧ a0 ≤ 3)) :
    Calls Try.prog 9 #[.int .i64 a0, v1, v2] w fun e w' => e = .returned (.bool true) ∧ Below w.heap.size w w' := by
  have G := Lib.hid h
  have e1 := Lib.hid (show Pl.take 2 (-1) false false 1 false = (false, -1, false) from rfl)
  have e2 := Lib.hid (show Pl.take 2 (-1) false false 1 true = (true, 1, false) from rfl)
  go_enter Try.func9, Try.ntmps9
  go_wp2_with fail
  refine (layerNew_ok 2 (by omega) (by omega) _).mono ?_
  rintro e w1 ⟨b0, rfl, hb, g1, k1⟩
  go_wp2_with fail
  refine (layerTake_ok b0 2 (-1) (-1) false 5 0 0 1 0 false none 0 0 (by decide) (by decide) (by decide) _ g1).mono ?_
  rw [e1.out]
  rintro e w2 ⟨rfl, g2, k2⟩
  have kb2 : Below w.heap.size w w2 := k1.trans (k2.below k1.size hb)
  clear g1 k1 k2
  go_wp2_with fail
  refine (layerTake_ok b0 2 (-1) 5 false 6 0 0 1 0 true none 0 0 (by decide) (by decide) (by decide) _ g2).mono ?_
  rw [e2.out]
  rintro e w3 ⟨rfl, g3, k3⟩
  have kb3 : Below w.heap.size w w3 := kb2.trans (k3.below kb2.size hb)
  clear g2 k3 kb2
  have e3 := Lib.hid (show Pl.wants 2 1 false = false from rfl)
  go_wp2_with fail
  refine (layerNow_any b0 2 1 6 false _ g3).mono ?_
  rintro e w' ⟨rfl, rfl⟩
  go_wp2_with fail
  refine (layerWants_any b0 2 1 6 false _ g3).mono ?_
  rw [e3.out]
  rintro e w4 ⟨rfl, k4⟩
  have kb4 : Below w.heap.size w w4 := kb3.trans (k4.mono kb3.size)
  clear g3 k4 kb3 hb
  go_wp2_with fail
  refine (layerNew_bad a0 h _).mono ?_
  rintro e w' ⟨rfl, rfl⟩
  clear h
  go_wp2
  all_goals first
    | (exfalso; have := G.out; omega)
    | (go_ret; exact ⟨by have := G.out; simp; try omega, kb4⟩)

set_option maxRecDepth 100000 in
set_option maxHeartbeats 4000000 in
theorem walk_LayerStarts_none (w : World) (a0 : Int) (h0 : 0 ≤ a0) (h1 : a0 ≤ 3) (oa1 : Option Addr) (c1 : Nat) (v2 : Value) :
    Calls Try.prog 9 #[.int .i64 a0, .slice oa1 0 c1, v2] w fun e w' => e = .returned (.bool true) ∧ Below w.heap.size w w' := by
  have e1 := Lib.hid (show Pl.take 2 (-1) false false 1 false = (false, -1, false) from rfl)
  have e2 := Lib.hid (show Pl.take 2 (-1) false false 1 true = (true, 1, false) from rfl)
  go_enter Try.func9, Try.ntmps9
  go_wp2_with fail
  refine (layerNew_ok 2 (by omega) (by omega) _).mono ?_
  rintro e w1 ⟨b0, rfl, hb, g1, k1⟩
  go_wp2_with fail
  refine (layerTake_ok b0 2 (-1) (-1) false 5 0 0 1 0 false none 0 0 (by decide) (by decide) (by decide) _ g1).mono ?_
  rw [e1.out]
  rintro e w2 ⟨rfl, g2, k2⟩
  have kb2 : Below w.heap.size w w2 := k1.trans (k2.below k1.size hb)
  clear g1 k1 k2
  go_wp2_with fail
  refine (layerTake_ok b0 2 (-1) 5 false 6 0 0 1 0 true none 0 0 (by decide) (by decide) (by decide) _ g2).mono ?_
  rw [e2.out]
  rintro e w3 ⟨rfl, g3, k3⟩
  have kb3 : Below w.heap.size w w3 := kb2.trans (k3.below kb2.size hb)
  clear g2 k3 kb2
  have e3 := Lib.hid (show Pl.wants 2 1 false = false from rfl)
  go_wp2_with fail
  refine (layerNow_any b0 2 1 6 false _ g3).mono ?_
  rintro e w' ⟨rfl, rfl⟩
  go_wp2_with fail
  refine (layerWants_any b0 2 1 6 false _ g3).mono ?_
  rw [e3.out]
  rintro e w4 ⟨rfl, k4⟩
  have kb4 : Below w.heap.size w w4 := kb3.trans (k4.mono kb3.size)
  clear g3 k4 kb3 hb
  go_wp2_with fail
  refine (layerNew_ok a0 h0 h1 _).mono ?_
  rintro e w5 ⟨b, rfl, hb, g5, k5⟩
  have kb5 : Below w.heap.size w w5 := kb4.trans (k5.mono kb4.size)
  clear g5 k5 kb4
  go_wp2
  refine wp_loop_once ?_
  go_wp2
  go_ret
  exact ⟨rfl, kb5⟩

/-- the loop's facts behind an item -/
structure Pl.LS (most now : Int) (broken gone : Bool) : Prop where
  m0 : 0 ≤ most
  m3 : most ≤ 3
  n0 : -1 ≤ now
  n3 : now ≤ 3
  low : now < 0 → broken = false
  up : 0 ≤ now → broken = gone
theorem Pl.LS.lim {most now : Int} {broken gone : Bool} (h : Pl.LS most now broken gone) (m : Int) (h0 : 0 ≤ m) (h3 : m ≤ 3) : Pl.LS m now broken gone := ⟨h0, h3, h.n0, h.n3, h.low, h.up⟩
theorem Pl.LS.gone {most now : Int} {broken gone : Bool} (h : Pl.LS most now broken gone) : Pl.LS most now (broken || decide (0 ≤ now)) true := by
  obtain ⟨m0, m3, n0, n3, lo, up⟩ := h
  refine ⟨m0, m3, n0, n3, fun h => ?_, fun h => by simp [h]⟩
  rw [lo h]; simpa using h
theorem Pl.take_no {most now : Int} {broken : Bool} {l : Int} {st : Bool} (h : (Pl.take most now broken false l st).1 = false) : (Pl.take most now broken false l st).2 = (now, broken) := by
  revert h
  unfold Pl.take
  repeat' split
  all_goals simp_all
theorem Pl.take_yes {most now : Int} {broken gone : Bool} {l : Int} {st : Bool} (hl : 0 ≤ l) (H : Pl.LS most now broken gone) (h : (Pl.take most now broken false l st).1 = true) :
    (Pl.take most now broken false l st).2 = (l, false) ∧ l ≤ most ∧ (st = false → 0 ≤ now ∧ gone = false ∧ l = now) := by
  obtain ⟨m0, m3, n0, n3, lo, up⟩ := H
  revert h
  unfold Pl.take
  by_cases c1 : most < l
  · simp [c1]
  · cases st
    · by_cases c2 : l = now
      · subst c2
        cases broken
        · have := up hl
          simp [c1]
          exact ⟨by omega, hl, this.symm⟩
        · simp [c1]
      · simp [c1, c2]
    · by_cases c2 : now ≤ l ∨ broken = true ∨ most < now <;> simp [c1, c2]
      omega
theorem Pl.wants_new {most l : Int} (h0 : 0 ≤ l) (h1 : l ≤ most) : Pl.wants most l false = false := by simp [Pl.wants]; omega

theorem layerWants_no (b : Nat) (most now last : Int) (broken : Bool) (w : World) (hg : LayerAt w b most now last broken) (h : Pl.wants most now broken = false) :
    Calls Try.prog 26 #[.pointer (some ⟨b, 0, none⟩)] w fun e w' => e = .returned (.bool false) ∧ ∃ m, w' = w.drewN m :=
  (layerWants_q b most now last broken w hg).mono fun e w' => by rw [h]; exact id

set_option maxRecDepth 100000 in
set_option maxHeartbeats 16000000 in
theorem walk_LayerStarts_run (w : World) (a0 : Int) (h0 : 0 ≤ a0) (h1 : a0 ≤ 3) (b1 f1 c1 : Nat) (l1 : List It) (hc1 : l1.length ≤ c1) (hm1 : c1 ≤ maxLen)
    (hcell : ∀ i (h : i < l1.length) j u, (l1[i].cells)[j]? = some u → w.cell? ⟨b1, f1 + (i * 8 + j), none⟩ = some u) (hgood : ∀ x ∈ l1, x.Good w) (hlt : b1 < w.heap.size)
    (oa2 : Option Addr) (n2 c2 : Nat) (z2 : Nat → Int) (hc2 : n2 ≤ c2) (hm2 : c2 ≤ maxLen)
    (hz : ∀ k, k < n2 → ∃ b f, oa2 = some ⟨b, f, none⟩ ∧ b < w.heap.size ∧ w.cell? ⟨b, f + k, none⟩ = some (.int .i64 (z2 k))) :
    Calls Try.prog 9 #[.int .i64 a0, .slice (some ⟨b1, f1, none⟩) l1.length c1, .slice oa2 n2 c2] w fun e w' => e = .returned (.bool true) ∧ Below w.heap.size w w' := by
  have HC := Lib.hid hcell
  have HG := Lib.hid hgood
  have HZ := Lib.hid hz
  clear hcell hgood hz
  unfold maxLen at hm1 hm2
  have e1 := Lib.hid (show Pl.take 2 (-1) false false 1 false = (false, -1, false) from rfl)
  have e2 := Lib.hid (show Pl.take 2 (-1) false false 1 true = (true, 1, false) from rfl)
  go_enter Try.func9, Try.ntmps9
  go_wp2_with fail
  refine (layerNew_ok 2 (by omega) (by omega) _).mono ?_
  rintro e w1 ⟨b0, rfl, hb, g1, k1⟩
  go_wp2_with fail
  refine (layerTake_ok b0 2 (-1) (-1) false 5 0 0 1 0 false none 0 0 (by decide) (by decide) (by decide) _ g1).mono ?_
  rw [e1.out]
  rintro e w2 ⟨rfl, g2, k2⟩
  have kb2 : Below w.heap.size w w2 := k1.trans (k2.below k1.size hb)
  clear g1 k1 k2
  go_wp2_with fail
  refine (layerTake_ok b0 2 (-1) 5 false 6 0 0 1 0 true none 0 0 (by decide) (by decide) (by decide) _ g2).mono ?_
  rw [e2.out]
  rintro e w3 ⟨rfl, g3, k3⟩
  have kb3 : Below w.heap.size w w3 := kb2.trans (k3.below kb2.size hb)
  clear g2 k3 kb2
  have e3 := Lib.hid (show Pl.wants 2 1 false = false from rfl)
  go_wp2_with fail
  refine (layerNow_any b0 2 1 6 false _ g3).mono ?_
  rintro e w' ⟨rfl, rfl⟩
  go_wp2_with fail
  refine (layerWants_any b0 2 1 6 false _ g3).mono ?_
  rw [e3.out]
  rintro e w4 ⟨rfl, k4⟩
  have kb4 : Below w.heap.size w w4 := kb3.trans (k4.mono kb3.size)
  clear g3 k4 kb3 hb
  go_wp2_with fail
  refine (layerNew_ok a0 h0 h1 _).mono ?_
  rintro e w5 ⟨b, rfl, hb, g5, k5⟩
  have kb5 : Below w.heap.size w w5 := kb4.trans (k5.mono kb4.size)
  have hb' : w.heap.size ≤ b := Nat.le_trans kb4.size hb
  clear k5 kb4 hb e1 e2 e3
  go_wp2
  go_loopw [0, 15, 16, 17] (fun m la g i wr => ∃ (k : Nat) (most now lst : Int) (broken gone : Bool), k ≤ l1.length ∧ k ≤ 80 ∧ i = .int .i64 k ∧ m = .int .i64 most ∧ la = .int .i64 now ∧ g = .bool gone ∧ Pl.LS most now broken gone ∧ LayerAt wr b most now lst broken ∧ Below w.heap.size w wr) (fun _ _ _ i _ => 80 - (intOf i).toNat)
  case atStart => exact ⟨0, a0, -1, -1, false, false, by omega, by omega, rfl, rfl, rfl, rfl, ⟨h0, h1, by omega, by omega, fun _ => rfl, fun h => by omega⟩, g5, kb5⟩
  case round =>
    clear g5 kb5
    obtain ⟨k, most, now, lst, broken, gone, hk, hk80, rfl, rfl, rfl, rfl, inv, gr, kb⟩ := hrel
    by_cases hlt1 : k < l1.length
    · by_cases hlt2 : k < 80
      · have cells := HC.out k hlt1
        have good := HG.out _ (List.getElem_mem hlt1)
        generalize l1[k] = x at *
        obtain ⟨num, xg, s, t, l, lv, st, bv, bl⟩ := x
        obtain ⟨hnum, hs, ht, hl, hlv, hbv⟩ := good
        obtain ⟨boa, bc, hbv', hbn⟩ := bytes_slice hbv
        simp only [] at hbv' hbn
        subst hbv'
        have q0 := cells 0 _ rfl
        have q1 := cells 1 _ rfl
        have q2 := cells 2 _ rfl
        have q3 := cells 3 _ rfl
        have q4 := cells 4 _ rfl
        have q5 := cells 5 _ rfl
        have q6 := cells 6 _ rfl
        have q7 := cells 7 _ rfl
        clear cells hbv
        generalize hbl : bl.length = bn at *
        clear hbl
        simp only [] at *
        have CC : ∀ j u, w.cell? ⟨b1, f1 + (k * 8 + j), none⟩ = some u → wr.cell? ⟨b1, f1 + k * 8 + j, none⟩ = some u := fun j u h => by rw [kb.cell (p := ⟨b1, f1 + k * 8 + j, none⟩) hlt, Nat.add_assoc]; exact h
        replace q0 : wr.cell? ⟨b1, f1 + k * 8, none⟩ = _ := CC 0 _ q0
        replace q1 := CC _ _ q1
        replace q2 := CC _ _ q2
        replace q3 := CC _ _ q3
        replace q4 := CC _ _ q4
        replace q5 := CC _ _ q5
        replace q6 := CC _ _ q6
        replace q7 := CC _ _ q7
        clear CC
        have INV := Lib.hid inv
        obtain ⟨i1, i2, i3, i4, i5, i6⟩ := inv
        clear i5 i6
        by_cases hl2 : k < n2
        · obtain ⟨b2, f2, rfl, hb2, z⟩ := HZ.out k hl2
          generalize z2 k = zz at *
          have z' : wr.cell? ⟨b2, f2 + k, none⟩ = some (.int .i64 zz) := by rw [kb.cell (p := ⟨b2, f2 + k, none⟩) hb2]; exact z
          clear z
          by_cases y1 : 0 ≤ zz
          · by_cases y2 : zz ≤ 3
            · go_wp2_with fail
              refine (layerLimit_ok b most now lst broken zz y1 y2 _ gr).mono ?_
              rintro e wl ⟨rfl, gl, kl⟩
              have kbl : Below w.heap.size w wl := kb.trans (kl.below kb.size hb')
              have z6 : wl.cell? ⟨b2, f2 + k, none⟩ = some (.int .i64 zz) := by rw [kl.cell (p := ⟨b2, f2 + k, none⟩) (Sl.lt z') (by simp; omega)]; exact z'
              have CC : ∀ j u, wr.cell? ⟨b1, f1 + k * 8 + j, none⟩ = some u → wl.cell? ⟨b1, f1 + k * 8 + j, none⟩ = some u := fun j u h => by rw [kl.cell (p := ⟨b1, f1 + k * 8 + j, none⟩) (Sl.lt h) (by simp; omega)]; exact h
              replace q0 : wl.cell? ⟨b1, f1 + k * 8, none⟩ = _ := CC 0 _ q0
              replace q1 := CC _ _ q1
              replace q2 := CC _ _ q2
              replace q3 := CC _ _ q3
              replace q4 := CC _ _ q4
              replace q5 := CC _ _ q5
              replace q6 := CC _ _ q6
              replace q7 := CC _ _ q7
              clear CC z' gr kb kl
              go_wp2_with fail
              clear q0
              by_cases bad : Pl.takeBad lst num xg s t l lv bn
              · refine (layerTake_bad b zz now lst broken num xg s t l lv st boa bn bc hbn bad _ gl).mono ?_
                rintro e w6 ⟨er, rfl, g6, k6⟩
                have kb6 : Below w.heap.size w w6 := kbl.trans (k6.mono kbl.size)
                clear k6 gl kbl bad q1 q2 q3 q4 q5 q6 q7
                go_wp2
                go_roundw
                case measure => simp [intOf]; omega
                case rel => exact ⟨k + 1, zz, now, lst, broken, gone, by omega, by omega, by go_num, rfl, rfl, rfl, INV.out.lim zz y1 y2, g6, kb6⟩
              · have nb1 : Pl.long num = true := by cases hh : Pl.long num; exact absurd (Or.inl hh) bad; rfl
                have nb2 : lst < num := by rcases Int.lt_or_le lst num with h | h; exact h; exact absurd (Or.inr (Or.inl h)) bad
                cases xg
                · have nb3 : Pl.pkOk s t l lv bn := Decidable.byContradiction fun h => bad (Or.inr (Or.inr ⟨rfl, h⟩))
                  clear bad
                  have hl0 : 0 ≤ l ∧ l ≤ 3 := by unfold Pl.pkOk at nb3; omega
                  refine (layerTake_ok b zz now lst broken num s t l lv st boa bn bc nb1 nb2 nb3 _ gl).mono ?_
                  cases htk : (Pl.take zz now broken false l st).1
                  · rw [Pl.take_no htk]
                    rintro e w6 ⟨rfl, g6, k6⟩
                    have kb6 : Below w.heap.size w w6 := kbl.trans (k6.below kbl.size hb')
                    have p1 : w6.cell? ⟨b1, f1 + k * 8 + 1, none⟩ = some (.bool false) := by rw [k6.cell (p := ⟨b1, f1 + k * 8 + 1, none⟩) (Sl.lt q1) (by simp; omega)]; exact q1
                    clear k6 gl kbl nb1 nb3 htk q1 q2 q3 q4 q5 q6 q7
                    go_wp2
                    go_roundw
                    case measure => simp [intOf]; omega
                    case rel => exact ⟨k + 1, zz, now, num, broken, gone, by omega, by omega, by go_num, rfl, rfl, rfl, INV.out.lim zz y1 y2, g6, kb6⟩
                  · obtain ⟨tk1, tk2, tk3⟩ := Pl.take_yes hl0.1 (INV.out.lim zz y1 y2) htk
                    rw [tk1]
                    rintro e w6 ⟨rfl, g6, k6⟩
                    have kb6 : Below w.heap.size w w6 := kbl.trans (k6.below kbl.size hb')
                    have CC : ∀ j u, wl.cell? ⟨b1, f1 + k * 8 + j, none⟩ = some u → w6.cell? ⟨b1, f1 + k * 8 + j, none⟩ = some u := fun j u h => by rw [k6.cell (p := ⟨b1, f1 + k * 8 + j, none⟩) (Sl.lt h) (by simp; omega)]; exact h
                    replace q1 := CC _ _ q1
                    replace q2 := CC _ _ q2
                    replace q3 := CC _ _ q3
                    replace q4 := CC _ _ q4
                    replace q5 := CC _ _ q5
                    replace q6 := CC _ _ q6
                    replace q7 := CC _ _ q7
                    clear CC k6 gl kbl nb1 nb3 htk tk1
                    have wf := Lib.hid (Pl.wants_new hl0.1 tk2)
                    have INV2 := Lib.hid (show Pl.LS zz l false false from ⟨by omega, by omega, by omega, by omega, fun _ => rfl, fun _ => rfl⟩)
                    cases st
                    · obtain ⟨u1, u2, u3⟩ := tk3 rfl
                      subst u2 u3
                      clear tk3
                      go_wp2
                      generalize hwq : w6.alloc (.cells #[.int .i64 s, .int .i64 t, .int .i64 l, .int .i64 lv, .bool false, .slice boa bn bc] 32) = wq
                      have gq : LayerAt wq b zz l num false := hwq ▸ obj_old g6 _
                      have kbq : Below w.heap.size w wq := hwq ▸ Below.alloc kb6 kb6.size _
                      have oq : wq.heap[w6.heap.size]? = some (.cells #[.int .i64 s, .int .i64 t, .int .i64 l, .int .i64 lv, .bool false, .slice boa bn bc] 32 (0, 0)) := hwq ▸ obj_new _ _
                      have r2 := obj_cell oq (k := 2) rfl
                      have r4 := obj_cell oq (k := 4) rfl
                      clear hwq q1 q2 q3 q4 q5 q6 q7 g6 kb6 INV hs ht hlv hbn oq
                      have hgn := Lib.hid (fun n => layerNow_any b zz l num false (World.drewN wq n) gq)
                      have hgw := Lib.hid (fun n => layerWants_no b zz l num false (World.drewN wq n) gq wf.out)
                      have d1 : decide (zz < l) = false := by simpa using tk2
                      have d2 : decide (l < 0) = false := by simpa using hl0.1
                      clear tk2 hl0
                      go_quiet ((first | (go_at_call 27; exact Calls.quietS (hgn.out _)) | (go_at_call 26; exact Calls.quiet_of (hgw.out _))))
                      go_wp2
                      go_roundw
                      case measure => simp [intOf]; omega
                      case rel => exact ⟨k + 1, zz, l, num, false, false, by omega, by omega, by go_num, rfl, rfl, rfl, INV2.out, gq, Below.drewN kbq _⟩
                    · clear tk3
                      go_wp2
                      generalize hwq : w6.alloc (.cells #[.int .i64 s, .int .i64 t, .int .i64 l, .int .i64 lv, .bool true, .slice boa bn bc] 32) = wq
                      have gq : LayerAt wq b zz l num false := hwq ▸ obj_old g6 _
                      have kbq : Below w.heap.size w wq := hwq ▸ Below.alloc kb6 kb6.size _
                      have oq : wq.heap[w6.heap.size]? = some (.cells #[.int .i64 s, .int .i64 t, .int .i64 l, .int .i64 lv, .bool true, .slice boa bn bc] 32 (0, 0)) := hwq ▸ obj_new _ _
                      have r2 := obj_cell oq (k := 2) rfl
                      have r4 := obj_cell oq (k := 4) rfl
                      clear hwq q1 q2 q3 q4 q5 q6 q7 g6 kb6 INV hs ht hlv hbn oq
                      have hgn := Lib.hid (fun n => layerNow_any b zz l num false (World.drewN wq n) gq)
                      have hgw := Lib.hid (fun n => layerWants_no b zz l num false (World.drewN wq n) gq wf.out)
                      have d1 : decide (zz < l) = false := by simpa using tk2
                      have d2 : decide (l < 0) = false := by simpa using hl0.1
                      clear tk2 hl0
                      go_quiet ((first | (go_at_call 27; exact Calls.quietS (hgn.out _)) | (go_at_call 26; exact Calls.quiet_of (hgw.out _))))
                      go_wp2
                      go_roundw
                      case measure => simp [intOf]; omega
                      case rel => exact ⟨k + 1, zz, l, num, false, false, by omega, by omega, by go_num, rfl, rfl, rfl, INV2.out, gq, Below.drewN kbq _⟩
                · clear bad
                  refine (layerTake_gone b zz now lst broken num s t l lv st _ nb1 nb2 _ gl).mono ?_
                  rintro e w6 ⟨rfl, g6, k6⟩
                  have kb6 : Below w.heap.size w w6 := kbl.trans (k6.below kbl.size hb')
                  have p1 : w6.cell? ⟨b1, f1 + k * 8 + 1, none⟩ = some (.bool true) := by rw [k6.cell (p := ⟨b1, f1 + k * 8 + 1, none⟩) (Sl.lt q1) (by simp; omega)]; exact q1
                  clear k6 gl kbl nb1 q1 q2 q3 q4 q5 q6 q7
                  go_wp2
                  go_roundw
                  case measure => simp [intOf]; omega
                  case rel => exact ⟨k + 1, zz, now, num, _, true, by omega, by omega, by go_num, rfl, rfl, rfl, (INV.out.lim zz y1 y2).gone, g6, kb6⟩
            · go_wp2_with fail
              clear q0
              by_cases bad : Pl.takeBad lst num xg s t l lv bn
              · refine (layerTake_bad b most now lst broken num xg s t l lv st boa bn bc hbn bad _ gr).mono ?_
                rintro e w6 ⟨er, rfl, g6, k6⟩
                have kb6 : Below w.heap.size w w6 := kb.trans (k6.mono kb.size)
                clear k6 gr kb bad q1 q2 q3 q4 q5 q6 q7
                go_wp2
                go_roundw
                case measure => simp [intOf]; omega
                case rel => exact ⟨k + 1, most, now, lst, broken, gone, by omega, by omega, by go_num, rfl, rfl, rfl, INV.out, g6, kb6⟩
              · have nb1 : Pl.long num = true := by cases hh : Pl.long num; exact absurd (Or.inl hh) bad; rfl
                have nb2 : lst < num := by rcases Int.lt_or_le lst num with h | h; exact h; exact absurd (Or.inr (Or.inl h)) bad
                cases xg
                · have nb3 : Pl.pkOk s t l lv bn := Decidable.byContradiction fun h => bad (Or.inr (Or.inr ⟨rfl, h⟩))
                  clear bad
                  have hl0 : 0 ≤ l ∧ l ≤ 3 := by unfold Pl.pkOk at nb3; omega
                  refine (layerTake_ok b most now lst broken num s t l lv st boa bn bc nb1 nb2 nb3 _ gr).mono ?_
                  cases htk : (Pl.take most now broken false l st).1
                  · rw [Pl.take_no htk]
                    rintro e w6 ⟨rfl, g6, k6⟩
                    have kb6 : Below w.heap.size w w6 := kb.trans (k6.below kb.size hb')
                    have p1 : w6.cell? ⟨b1, f1 + k * 8 + 1, none⟩ = some (.bool false) := by rw [k6.cell (p := ⟨b1, f1 + k * 8 + 1, none⟩) (Sl.lt q1) (by simp; omega)]; exact q1
                    clear k6 gr kb nb1 nb3 htk q1 q2 q3 q4 q5 q6 q7
                    go_wp2
                    go_roundw
                    case measure => simp [intOf]; omega
                    case rel => exact ⟨k + 1, most, now, num, broken, gone, by omega, by omega, by go_num, rfl, rfl, rfl, INV.out, g6, kb6⟩
                  · obtain ⟨tk1, tk2, tk3⟩ := Pl.take_yes hl0.1 (INV.out) htk
                    rw [tk1]
                    rintro e w6 ⟨rfl, g6, k6⟩
                    have kb6 : Below w.heap.size w w6 := kb.trans (k6.below kb.size hb')
                    have CC : ∀ j u, wr.cell? ⟨b1, f1 + k * 8 + j, none⟩ = some u → w6.cell? ⟨b1, f1 + k * 8 + j, none⟩ = some u := fun j u h => by rw [k6.cell (p := ⟨b1, f1 + k * 8 + j, none⟩) (Sl.lt h) (by simp; omega)]; exact h
                    replace q1 := CC _ _ q1
                    replace q2 := CC _ _ q2
                    replace q3 := CC _ _ q3
                    replace q4 := CC _ _ q4
                    replace q5 := CC _ _ q5
                    replace q6 := CC _ _ q6
                    replace q7 := CC _ _ q7
                    clear CC k6 gr kb nb1 nb3 htk tk1
                    have wf := Lib.hid (Pl.wants_new hl0.1 tk2)
                    have INV2 := Lib.hid (show Pl.LS most l false false from ⟨by omega, by omega, by omega, by omega, fun _ => rfl, fun _ => rfl⟩)
                    cases st
                    · obtain ⟨u1, u2, u3⟩ := tk3 rfl
                      subst u2 u3
                      clear tk3
                      go_wp2
                      generalize hwq : w6.alloc (.cells #[.int .i64 s, .int .i64 t, .int .i64 l, .int .i64 lv, .bool false, .slice boa bn bc] 32) = wq
                      have gq : LayerAt wq b most l num false := hwq ▸ obj_old g6 _
                      have kbq : Below w.heap.size w wq := hwq ▸ Below.alloc kb6 kb6.size _
                      have oq : wq.heap[w6.heap.size]? = some (.cells #[.int .i64 s, .int .i64 t, .int .i64 l, .int .i64 lv, .bool false, .slice boa bn bc] 32 (0, 0)) := hwq ▸ obj_new _ _
                      have r2 := obj_cell oq (k := 2) rfl
                      have r4 := obj_cell oq (k := 4) rfl
                      clear hwq q1 q2 q3 q4 q5 q6 q7 g6 kb6 INV hs ht hlv hbn oq
                      have hgn := Lib.hid (fun n => layerNow_any b most l num false (World.drewN wq n) gq)
                      have hgw := Lib.hid (fun n => layerWants_no b most l num false (World.drewN wq n) gq wf.out)
                      have d1 : decide (most < l) = false := by simpa using tk2
                      have d2 : decide (l < 0) = false := by simpa using hl0.1
                      clear tk2 hl0
                      go_quiet ((first | (go_at_call 27; exact Calls.quietS (hgn.out _)) | (go_at_call 26; exact Calls.quiet_of (hgw.out _))))
                      go_wp2
                      go_roundw
                      case measure => simp [intOf]; omega
                      case rel => exact ⟨k + 1, most, l, num, false, false, by omega, by omega, by go_num, rfl, rfl, rfl, INV2.out, gq, Below.drewN kbq _⟩
                    · clear tk3
                      go_wp2
                      generalize hwq : w6.alloc (.cells #[.int .i64 s, .int .i64 t, .int .i64 l, .int .i64 lv, .bool true, .slice boa bn bc] 32) = wq
                      have gq : LayerAt wq b most l num false := hwq ▸ obj_old g6 _
                      have kbq : Below w.heap.size w wq := hwq ▸ Below.alloc kb6 kb6.size _
                      have oq : wq.heap[w6.heap.size]? = some (.cells #[.int .i64 s, .int .i64 t, .int .i64 l, .int .i64 lv, .bool true, .slice boa bn bc] 32 (0, 0)) := hwq ▸ obj_new _ _
                      have r2 := obj_cell oq (k := 2) rfl
                      have r4 := obj_cell oq (k := 4) rfl
                      clear hwq q1 q2 q3 q4 q5 q6 q7 g6 kb6 INV hs ht hlv hbn oq
                      have hgn := Lib.hid (fun n => layerNow_any b most l num false (World.drewN wq n) gq)
                      have hgw := Lib.hid (fun n => layerWants_no b most l num false (World.drewN wq n) gq wf.out)
                      have d1 : decide (most < l) = false := by simpa using tk2
                      have d2 : decide (l < 0) = false := by simpa using hl0.1
                      clear tk2 hl0
                      go_quiet ((first | (go_at_call 27; exact Calls.quietS (hgn.out _)) | (go_at_call 26; exact Calls.quiet_of (hgw.out _))))
                      go_wp2
                      go_roundw
                      case measure => simp [intOf]; omega
                      case rel => exact ⟨k + 1, most, l, num, false, false, by omega, by omega, by go_num, rfl, rfl, rfl, INV2.out, gq, Below.drewN kbq _⟩
                · clear bad
                  refine (layerTake_gone b most now lst broken num s t l lv st _ nb1 nb2 _ gr).mono ?_
                  rintro e w6 ⟨rfl, g6, k6⟩
                  have kb6 : Below w.heap.size w w6 := kb.trans (k6.below kb.size hb')
                  have p1 : w6.cell? ⟨b1, f1 + k * 8 + 1, none⟩ = some (.bool true) := by rw [k6.cell (p := ⟨b1, f1 + k * 8 + 1, none⟩) (Sl.lt q1) (by simp; omega)]; exact q1
                  clear k6 gr kb nb1 q1 q2 q3 q4 q5 q6 q7
                  go_wp2
                  go_roundw
                  case measure => simp [intOf]; omega
                  case rel => exact ⟨k + 1, most, now, num, _, true, by omega, by omega, by go_num, rfl, rfl, rfl, (INV.out).gone, g6, kb6⟩
          · go_wp2_with fail
            clear q0
            by_cases bad : Pl.takeBad lst num xg s t l lv bn
            · refine (layerTake_bad b most now lst broken num xg s t l lv st boa bn bc hbn bad _ gr).mono ?_
              rintro e w6 ⟨er, rfl, g6, k6⟩
              have kb6 : Below w.heap.size w w6 := kb.trans (k6.mono kb.size)
              clear k6 gr kb bad q1 q2 q3 q4 q5 q6 q7
              go_wp2
              go_roundw
              case measure => simp [intOf]; omega
              case rel => exact ⟨k + 1, most, now, lst, broken, gone, by omega, by omega, by go_num, rfl, rfl, rfl, INV.out, g6, kb6⟩
            · have nb1 : Pl.long num = true := by cases hh : Pl.long num; exact absurd (Or.inl hh) bad; rfl
              have nb2 : lst < num := by rcases Int.lt_or_le lst num with h | h; exact h; exact absurd (Or.inr (Or.inl h)) bad
              cases xg
              · have nb3 : Pl.pkOk s t l lv bn := Decidable.byContradiction fun h => bad (Or.inr (Or.inr ⟨rfl, h⟩))
                clear bad
                have hl0 : 0 ≤ l ∧ l ≤ 3 := by unfold Pl.pkOk at nb3; omega
                refine (layerTake_ok b most now lst broken num s t l lv st boa bn bc nb1 nb2 nb3 _ gr).mono ?_
                cases htk : (Pl.take most now broken false l st).1
                · rw [Pl.take_no htk]
                  rintro e w6 ⟨rfl, g6, k6⟩
                  have kb6 : Below w.heap.size w w6 := kb.trans (k6.below kb.size hb')
                  have p1 : w6.cell? ⟨b1, f1 + k * 8 + 1, none⟩ = some (.bool false) := by rw [k6.cell (p := ⟨b1, f1 + k * 8 + 1, none⟩) (Sl.lt q1) (by simp; omega)]; exact q1
                  clear k6 gr kb nb1 nb3 htk q1 q2 q3 q4 q5 q6 q7
                  go_wp2
                  go_roundw
                  case measure => simp [intOf]; omega
                  case rel => exact ⟨k + 1, most, now, num, broken, gone, by omega, by omega, by go_num, rfl, rfl, rfl, INV.out, g6, kb6⟩
                · obtain ⟨tk1, tk2, tk3⟩ := Pl.take_yes hl0.1 (INV.out) htk
                  rw [tk1]
                  rintro e w6 ⟨rfl, g6, k6⟩
                  have kb6 : Below w.heap.size w w6 := kb.trans (k6.below kb.size hb')
                  have CC : ∀ j u, wr.cell? ⟨b1, f1 + k * 8 + j, none⟩ = some u → w6.cell? ⟨b1, f1 + k * 8 + j, none⟩ = some u := fun j u h => by rw [k6.cell (p := ⟨b1, f1 + k * 8 + j, none⟩) (Sl.lt h) (by simp; omega)]; exact h
                  replace q1 := CC _ _ q1
                  replace q2 := CC _ _ q2
                  replace q3 := CC _ _ q3
                  replace q4 := CC _ _ q4
                  replace q5 := CC _ _ q5
                  replace q6 := CC _ _ q6
                  replace q7 := CC _ _ q7
                  clear CC k6 gr kb nb1 nb3 htk tk1
                  have wf := Lib.hid (Pl.wants_new hl0.1 tk2)
                  have INV2 := Lib.hid (show Pl.LS most l false false from ⟨by omega, by omega, by omega, by omega, fun _ => rfl, fun _ => rfl⟩)
                  cases st
                  · obtain ⟨u1, u2, u3⟩ := tk3 rfl
                    subst u2 u3
                    clear tk3
                    go_wp2
                    generalize hwq : w6.alloc (.cells #[.int .i64 s, .int .i64 t, .int .i64 l, .int .i64 lv, .bool false, .slice boa bn bc] 32) = wq
                    have gq : LayerAt wq b most l num false := hwq ▸ obj_old g6 _
                    have kbq : Below w.heap.size w wq := hwq ▸ Below.alloc kb6 kb6.size _
                    have oq : wq.heap[w6.heap.size]? = some (.cells #[.int .i64 s, .int .i64 t, .int .i64 l, .int .i64 lv, .bool false, .slice boa bn bc] 32 (0, 0)) := hwq ▸ obj_new _ _
                    have r2 := obj_cell oq (k := 2) rfl
                    have r4 := obj_cell oq (k := 4) rfl
                    clear hwq q1 q2 q3 q4 q5 q6 q7 g6 kb6 INV hs ht hlv hbn oq
                    have hgn := Lib.hid (fun n => layerNow_any b most l num false (World.drewN wq n) gq)
                    have hgw := Lib.hid (fun n => layerWants_no b most l num false (World.drewN wq n) gq wf.out)
                    have d1 : decide (most < l) = false := by simpa using tk2
                    have d2 : decide (l < 0) = false := by simpa using hl0.1
                    clear tk2 hl0
                    go_quiet ((first | (go_at_call 27; exact Calls.quietS (hgn.out _)) | (go_at_call 26; exact Calls.quiet_of (hgw.out _))))
                    go_wp2
                    go_roundw
                    case measure => simp [intOf]; omega
                    case rel => exact ⟨k + 1, most, l, num, false, false, by omega, by omega, by go_num, rfl, rfl, rfl, INV2.out, gq, Below.drewN kbq _⟩
                  · clear tk3
                    go_wp2
                    generalize hwq : w6.alloc (.cells #[.int .i64 s, .int .i64 t, .int .i64 l, .int .i64 lv, .bool true, .slice boa bn bc] 32) = wq
                    have gq : LayerAt wq b most l num false := hwq ▸ obj_old g6 _
                    have kbq : Below w.heap.size w wq := hwq ▸ Below.alloc kb6 kb6.size _
                    have oq : wq.heap[w6.heap.size]? = some (.cells #[.int .i64 s, .int .i64 t, .int .i64 l, .int .i64 lv, .bool true, .slice boa bn bc] 32 (0, 0)) := hwq ▸ obj_new _ _
                    have r2 := obj_cell oq (k := 2) rfl
                    have r4 := obj_cell oq (k := 4) rfl
                    clear hwq q1 q2 q3 q4 q5 q6 q7 g6 kb6 INV hs ht hlv hbn oq
                    have hgn := Lib.hid (fun n => layerNow_any b most l num false (World.drewN wq n) gq)
                    have hgw := Lib.hid (fun n => layerWants_no b most l num false (World.drewN wq n) gq wf.out)
                    have d1 : decide (most < l) = false := by simpa using tk2
                    have d2 : decide (l < 0) = false := by simpa using hl0.1
                    clear tk2 hl0
                    go_quiet ((first | (go_at_call 27; exact Calls.quietS (hgn.out _)) | (go_at_call 26; exact Calls.quiet_of (hgw.out _))))
                    go_wp2
                    go_roundw
                    case measure => simp [intOf]; omega
                    case rel => exact ⟨k + 1, most, l, num, false, false, by omega, by omega, by go_num, rfl, rfl, rfl, INV2.out, gq, Below.drewN kbq _⟩
              · clear bad
                refine (layerTake_gone b most now lst broken num s t l lv st _ nb1 nb2 _ gr).mono ?_
                rintro e w6 ⟨rfl, g6, k6⟩
                have kb6 : Below w.heap.size w w6 := kb.trans (k6.below kb.size hb')
                have p1 : w6.cell? ⟨b1, f1 + k * 8 + 1, none⟩ = some (.bool true) := by rw [k6.cell (p := ⟨b1, f1 + k * 8 + 1, none⟩) (Sl.lt q1) (by simp; omega)]; exact q1
                clear k6 gr kb nb1 q1 q2 q3 q4 q5 q6 q7
                go_wp2
                go_roundw
                case measure => simp [intOf]; omega
                case rel => exact ⟨k + 1, most, now, num, _, true, by omega, by omega, by go_num, rfl, rfl, rfl, (INV.out).gone, g6, kb6⟩
        · go_wp2_with fail
          clear q0
          by_cases bad : Pl.takeBad lst num xg s t l lv bn
          · refine (layerTake_bad b most now lst broken num xg s t l lv st boa bn bc hbn bad _ gr).mono ?_
            rintro e w6 ⟨er, rfl, g6, k6⟩
            have kb6 : Below w.heap.size w w6 := kb.trans (k6.mono kb.size)
            clear k6 gr kb bad q1 q2 q3 q4 q5 q6 q7
            go_wp2
            go_roundw
            case measure => simp [intOf]; omega
            case rel => exact ⟨k + 1, most, now, lst, broken, gone, by omega, by omega, by go_num, rfl, rfl, rfl, INV.out, g6, kb6⟩
          · have nb1 : Pl.long num = true := by cases hh : Pl.long num; exact absurd (Or.inl hh) bad; rfl
            have nb2 : lst < num := by rcases Int.lt_or_le lst num with h | h; exact h; exact absurd (Or.inr (Or.inl h)) bad
            cases xg
            · have nb3 : Pl.pkOk s t l lv bn := Decidable.byContradiction fun h => bad (Or.inr (Or.inr ⟨rfl, h⟩))
              clear bad
              have hl0 : 0 ≤ l ∧ l ≤ 3 := by unfold Pl.pkOk at nb3; omega
              refine (layerTake_ok b most now lst broken num s t l lv st boa bn bc nb1 nb2 nb3 _ gr).mono ?_
              cases htk : (Pl.take most now broken false l st).1
              · rw [Pl.take_no htk]
                rintro e w6 ⟨rfl, g6, k6⟩
                have kb6 : Below w.heap.size w w6 := kb.trans (k6.below kb.size hb')
                have p1 : w6.cell? ⟨b1, f1 + k * 8 + 1, none⟩ = some (.bool false) := by rw [k6.cell (p := ⟨b1, f1 + k * 8 + 1, none⟩) (Sl.lt q1) (by simp; omega)]; exact q1
                clear k6 gr kb nb1 nb3 htk q1 q2 q3 q4 q5 q6 q7
                go_wp2
                go_roundw
                case measure => simp [intOf]; omega
                case rel => exact ⟨k + 1, most, now, num, broken, gone, by omega, by omega, by go_num, rfl, rfl, rfl, INV.out, g6, kb6⟩
              · obtain ⟨tk1, tk2, tk3⟩ := Pl.take_yes hl0.1 (INV.out) htk
                rw [tk1]
                rintro e w6 ⟨rfl, g6, k6⟩
                have kb6 : Below w.heap.size w w6 := kb.trans (k6.below kb.size hb')
                have CC : ∀ j u, wr.cell? ⟨b1, f1 + k * 8 + j, none⟩ = some u → w6.cell? ⟨b1, f1 + k * 8 + j, none⟩ = some u := fun j u h => by rw [k6.cell (p := ⟨b1, f1 + k * 8 + j, none⟩) (Sl.lt h) (by simp; omega)]; exact h
                replace q1 := CC _ _ q1
                replace q2 := CC _ _ q2
                replace q3 := CC _ _ q3
                replace q4 := CC _ _ q4
                replace q5 := CC _ _ q5
                replace q6 := CC _ _ q6
                replace q7 := CC _ _ q7
                clear CC k6 gr kb nb1 nb3 htk tk1
                have wf := Lib.hid (Pl.wants_new hl0.1 tk2)
                have INV2 := Lib.hid (show Pl.LS most l false false from ⟨by omega, by omega, by omega, by omega, fun _ => rfl, fun _ => rfl⟩)
                cases st
                · obtain ⟨u1, u2, u3⟩ := tk3 rfl
                  subst u2 u3
                  clear tk3
                  go_wp2
                  generalize hwq : w6.alloc (.cells #[.int .i64 s, .int .i64 t, .int .i64 l, .int .i64 lv, .bool false, .slice boa bn bc] 32) = wq
                  have gq : LayerAt wq b most l num false := hwq ▸ obj_old g6 _
                  have kbq : Below w.heap.size w wq := hwq ▸ Below.alloc kb6 kb6.size _
                  have oq : wq.heap[w6.heap.size]? = some (.cells #[.int .i64 s, .int .i64 t, .int .i64 l, .int .i64 lv, .bool false, .slice boa bn bc] 32 (0, 0)) := hwq ▸ obj_new _ _
                  have r2 := obj_cell oq (k := 2) rfl
                  have r4 := obj_cell oq (k := 4) rfl
                  clear hwq q1 q2 q3 q4 q5 q6 q7 g6 kb6 INV hs ht hlv hbn oq
                  have hgn := Lib.hid (fun n => layerNow_any b most l num false (World.drewN wq n) gq)
                  have hgw := Lib.hid (fun n => layerWants_no b most l num false (World.drewN wq n) gq wf.out)
                  have d1 : decide (most < l) = false := by simpa using tk2
                  have d2 : decide (l < 0) = false := by simpa using hl0.1
                  clear tk2 hl0
                  go_quiet ((first | (go_at_call 27; exact Calls.quietS (hgn.out _)) | (go_at_call 26; exact Calls.quiet_of (hgw.out _))))
                  go_wp2
                  go_roundw
                  case measure => simp [intOf]; omega
                  case rel => exact ⟨k + 1, most, l, num, false, false, by omega, by omega, by go_num, rfl, rfl, rfl, INV2.out, gq, Below.drewN kbq _⟩
                · clear tk3
                  go_wp2
                  generalize hwq : w6.alloc (.cells #[.int .i64 s, .int .i64 t, .int .i64 l, .int .i64 lv, .bool true, .slice boa bn bc] 32) = wq
                  have gq : LayerAt wq b most l num false := hwq ▸ obj_old g6 _
                  have kbq : Below w.heap.size w wq := hwq ▸ Below.alloc kb6 kb6.size _
                  have oq : wq.heap[w6.heap.size]? = some (.cells #[.int .i64 s, .int .i64 t, .int .i64 l, .int .i64 lv, .bool true, .slice boa bn bc] 32 (0, 0)) := hwq ▸ obj_new _ _
                  have r2 := obj_cell oq (k := 2) rfl
                  have r4 := obj_cell oq (k := 4) rfl
                  clear hwq q1 q2 q3 q4 q5 q6 q7 g6 kb6 INV hs ht hlv hbn oq
                  have hgn := Lib.hid (fun n => layerNow_any b most l num false (World.drewN wq n) gq)
                  have hgw := Lib.hid (fun n => layerWants_no b most l num false (World.drewN wq n) gq wf.out)
                  have d1 : decide (most < l) = false := by simpa using tk2
                  have d2 : decide (l < 0) = false := by simpa using hl0.1
                  clear tk2 hl0
                  go_quiet ((first | (go_at_call 27; exact Calls.quietS (hgn.out _)) | (go_at_call 26; exact Calls.quiet_of (hgw.out _))))
                  go_wp2
                  go_roundw
                  case measure => simp [intOf]; omega
                  case rel => exact ⟨k + 1, most, l, num, false, false, by omega, by omega, by go_num, rfl, rfl, rfl, INV2.out, gq, Below.drewN kbq _⟩
            · clear bad
              refine (layerTake_gone b most now lst broken num s t l lv st _ nb1 nb2 _ gr).mono ?_
              rintro e w6 ⟨rfl, g6, k6⟩
              have kb6 : Below w.heap.size w w6 := kb.trans (k6.below kb.size hb')
              have p1 : w6.cell? ⟨b1, f1 + k * 8 + 1, none⟩ = some (.bool true) := by rw [k6.cell (p := ⟨b1, f1 + k * 8 + 1, none⟩) (Sl.lt q1) (by simp; omega)]; exact q1
              clear k6 gr kb nb1 q1 q2 q3 q4 q5 q6 q7
              go_wp2
              go_roundw
              case measure => simp [intOf]; omega
              case rel => exact ⟨k + 1, most, now, num, _, true, by omega, by omega, by go_num, rfl, rfl, rfl, (INV.out).gone, g6, kb6⟩
      · have : k = 80 := by omega
        subst this
        go_wp2
        go_ret
        exact ⟨rfl, kb⟩
    · go_wp2
      go_ret
      exact ⟨rfl, kb⟩

theorem walk_LayerStarts (w : World) (a0 : Int) (w0 : (Lit.int .i64 a0).wf = true) (v1 : Value) (l1 : List It) (o1 : IsIts w v1 l1) (v2 : Value) (l2 : List Int) (o2 : IsInts w v2 l2) :
    Calls Try.prog 9 #[.int .i64 a0, v1, v2] w fun e w' => e = .returned (.bool true) ∧ Below w.heap.size w w' := by
  by_cases h : 0 ≤ a0 ∧ a0 ≤ 3
  · rcases o1 with ⟨⟨rfl, oa, cap, rfl, _, _⟩ | ⟨b1, f1, c1, rfl, q1, q2, q3⟩, hg⟩
    · exact walk_LayerStarts_none w a0 h.1 h.2 oa cap v2
    · by_cases h0 : l1 = []
      · subst h0
        exact walk_LayerStarts_none w a0 h.1 h.2 _ c1 v2
      · have hp : 0 < l1.length := List.length_pos_iff.2 h0
        have hlt : b1 < w.heap.size := Sl.lt (q3 0 hp 0 _ rfl)
        rcases o2 with ⟨⟨rfl, oa, cap, rfl, r1, _⟩ | ⟨b2, f2, c2, rfl, r1, r2, r3⟩, _⟩
        · exact walk_LayerStarts_run w a0 h.1 h.2 b1 f1 c1 l1 q1 q2 q3 hg hlt oa 0 cap (fun _ => 0) (by omega) r1 (fun k hk => by omega)
        · exact walk_LayerStarts_run w a0 h.1 h.2 b1 f1 c1 l1 q1 q2 q3 hg hlt _ l2.length c2 (fun k => l2.getD k 0) r1 r2 (fun k hk => ⟨b2, f2, rfl, Sl.lt (r3 k hk), by rw [r3 k hk]; simp [List.getD, hk]⟩)
  · exact walk_LayerStarts_bad w a0 v1 v2 h
end Go.Proofs.Ytdnikhfhompedaa
