import Derived.Test.YthgdkakkbaoccaaDoorPRingLook
import Derived.Deep.QuietTactic
import Derived.BigQuiet
import Derived.Deep.CutBlock
import Derived.Deep.DeepCutAuto
import Derived.Deep.RegionHeld3
import Derived.Deep.MidRow
/-! The walk of the law RingPlays. -/
namespace Go.Proofs.YthgdkakkbaoccaaDoor
open Go.RowKit
set_option linter.unusedVariables false
set_option linter.unusedSimpArgs false
/-- a packet of the law's own, whose bytes were there ahead -/
def BoxR (M : Nat) (w0 y : World) (X : Nat) : Prop := ∃ (s t l lv : Int) (st : Bool) (oa : Option Addr) (bc : Nat) (body : List UInt8), PkIn y X s t l lv st (.slice oa body.length bc) ∧ body.length ≤ maxLen ∧ IsBytes w0 (.slice oa body.length bc) body ∧ (∀ a, oa = some a → body ≠ [] → a.block < M)
theorem StRE.below {M : Nat} {w0 : World} {n : Int} {b bm rb i : Nat} {y z : World} (h : StRE M w0 n b bm rb i y) (hM : M ≤ w0.heap.size) (k : Below y.heap.size y z) : StRE M w0 n b bm rb i z := by
  obtain ⟨top, c, f, v, L, B, S⟩ := h
  exact ⟨top, c, f, v, L, B, S.below hM k⟩
theorem StRE.drew {M : Nat} {w0 : World} {n : Int} {b bm rb i : Nat} {y : World} (h : StRE M w0 n b bm rb i y) : StRE M w0 n b bm rb i y.drew := by
  obtain ⟨top, c, f, v, L, B, S⟩ := h
  exact ⟨top, c, f, v, L, B, S.drew⟩
theorem StRE.kb {M : Nat} {w0 : World} {n : Int} {b bm rb i : Nat} {y : World} (h : StRE M w0 n b bm rb i y) : Below M w0 y := by
  obtain ⟨top, c, f, v, L, B, S⟩ := h
  exact S.kb
theorem pkIn_kf {y z : World} {X : Nat} {s t l lv : Int} {st : Bool} {bv : Value} (h : PkIn y X s t l lv st bv) (k : KF y z) : PkIn z X s t l lv st bv := by
  have e := k X _ _ h
  unfold PkIn at *
  rw [e]; exact h
theorem pkIn_cells {y : World} {X : Nat} {s t l lv : Int} {st : Bool} {bv : Value} (h : PkIn y X s t l lv st bv) : y.cell? ⟨X, 0, none⟩ = some (.int .i64 s) ∧ y.cell? ⟨X, 1, none⟩ = some (.int .i64 t) ∧ y.cell? ⟨X, 2, none⟩ = some (.int .i64 l) ∧ y.cell? ⟨X, 3, none⟩ = some (.int .i64 lv) ∧ y.cell? ⟨X, 4, none⟩ = some (.bool st) ∧ y.cell? ⟨X, 5, none⟩ = some bv :=
  ⟨obj_cell h rfl, obj_cell h rfl, obj_cell h rfl, obj_cell h rfl, obj_cell h rfl, obj_cell h rfl⟩
set_option maxRecDepth 100000 in
set_option maxHeartbeats 8000000 in
theorem walk_RingPlays_run (w : World) (hE : Env w) (n : Int) (oa1 : Option Addr) (n1 c1 : Nat) (z1 : Nat → Int) (hm1 : n1 ≤ maxLen) (hz1 : ∀ k, k < n1 → ∃ b f, oa1 = some ⟨b, f, none⟩ ∧ b < w.heap.size ∧ w.cell? ⟨b, f + k, none⟩ = some (.int .i64 (z1 k)) ∧ -9223372036854775808 ≤ z1 k ∧ z1 k ≤ 9223372036854775807)
    (oa2 : Option Addr) (n2 c2 : Nat) (hm2 : n2 ≤ maxLen) (hz2 : ∀ k, k < n2 → ∃ b f s t l lv st oa bc body, oa2 = some ⟨b, f, none⟩ ∧ b < w.heap.size ∧ (∀ (j : Nat) (u : Value), (Pk.cells ⟨s, t, l, lv, st, .slice oa (body : List UInt8).length bc, body⟩)[j]? = some u → w.cell? ⟨b, f + (k * 6 + j), none⟩ = some u) ∧ body.length ≤ maxLen ∧ IsBytes w (.slice oa body.length bc) body ∧ (∀ a, oa = some a → body ≠ [] → a.block < w.heap.size))
    (oa3 : Option Addr) (n3 c3 : Nat) (z3 : Nat → Int) (hm3 : n3 ≤ maxLen) (hz3 : ∀ k, k < n3 → ∃ b f, oa3 = some ⟨b, f, none⟩ ∧ b < w.heap.size ∧ w.cell? ⟨b, f + k, none⟩ = some (.int .i64 (z3 k)) ∧ -9223372036854775808 ≤ z3 k ∧ z3 k ≤ 9223372036854775807) :
    Calls Tryd.prog 3 #[.int .i64 n, .slice oa1 n1 c1, .slice oa2 n2 c2, .slice oa3 n3 c3] w fun e w' => e = .returned (.bool true) ∧ Below w.heap.size w w' := by
  have HZ1 := Lib.hid hz1
  have HZ2 := Lib.hid hz2
  have HZ3 := Lib.hid hz3
  have HE := Lib.hid hE
  clear hz1 hz2 hz3 hE
  unfold maxLen at hm1 hm2 hm3
  go_enter Tryd.func3, Tryd.ntmps3
  by_cases hth : 1 ≤ n ∧ n ≤ 64
  case neg =>
    have HTH := Lib.hid hth
    have EA := Lib.hid ((error_hit 1 1 w HE.out).mono (fun e w' ⟨h1, h2⟩ => (show e = Ending.returned (.bool true) ∧ Below w.heap.size w w' from ⟨by rw [h1]; simp, h2⟩)))
    go_wp2_with fail
    refine (ringNew_bad n hth _).mono ?_
    rintro e w5 ⟨rfl, rfl⟩
    clear hth
    go_wp2_with (go_at_call 9; (with_reducible refine EA.out.mono ?_); rintro e w6 ⟨rfl, k6⟩)
    all_goals first
      | (exfalso; have := HTH.out; omega)
      | (go_ret; exact ⟨rfl, k6⟩)
  obtain ⟨hn1, hn2⟩ := hth
  go_wp2_with fail
  refine (ringNew_ok n hn1 hn2 _).mono ?_
  rintro e w5 ⟨b, bm, rfl, hb1, hb2, P5, k5⟩
  have EA := Lib.hid (error_nil 0 w5)
  have P5' := Lib.hid P5
  have kb5 := Lib.hid k5
  clear P5 k5
  go_upto_region 10 with (go_at_call 9; refine EA.out.mono ?_; rintro e w6 ⟨rfl, rfl⟩)
  have hM := Nat.le_refl w.heap.size
  refine abs_to (fun y => Hid (StRE w.heap.size w n b bm w5.heap.size 0 y)) (Lib.hid ⟨-1, 0, fun _ => none, .slice none 0 0, [], fun _ => False, ⟨P5'.out.alloc _, ⟨obj_new _ _, RecK.Own.nil _ _, kb5.out.size⟩, by simp, fun j => by simp, fun x hx => (by cases hx), fun x hx => (by cases hx), by simp, ⟨by omega, by omega⟩, ⟨hb1, hb2⟩, fun k hk => hk.elim, kb5.out.alloc kb5.out.size _⟩⟩) ?_
  generalize w5.heap.size = rb at *
  clear P5' kb5 EA
  rintro y0 S0
  go_loopw [14] (fun s14 wr => ∃ i : Nat, i ≤ n1 ∧ i ≤ 80 ∧ s14 = .int .i64 i ∧ Hid (StRE w.heap.size w n b bm rb i wr)) (fun s14 _ => 80 - (RowKit.intOf s14).toNat)
  case atStart => exact ⟨0, by omega, by omega, rfl, S0⟩
  case round =>
    clear S0
    obtain ⟨i, hin, hi80, rfl, ST⟩ := hrel
    by_cases hlt : i < n1 ∧ i < 80
    · obtain ⟨hl1, hl2⟩ := hlt
      obtain ⟨b1, f1, rfl, hbl1, q0, hz0, hz0'⟩ := HZ1.out i hl1
      have Q := Lib.hid (fun y (k : Below w.heap.size w y) => (k.cell (p := ⟨b1, f1 + i, none⟩) hbl1).trans q0)
      clear q0
      generalize z1 i = num at *
      obtain ⟨X, hX⟩ : ∃ X, wr.heap.size = X := ⟨_, rfl⟩
      have hXM : w.heap.size ≤ X := by have := ST.out.kb.size; omega
      have KB0 := Lib.hid ST.out.kb
      go_upto_if 62 with fail
      go_cut [62] from 50 to 69 (fun _ z => Hid (Below X wr z) ∧ Hid (BoxR w.heap.size w z X))
      case first =>
        have BA : Below X wr (wr.alloc (.cells #[.int .i64 0, .int .i64 0, .int .i64 0, .int .i64 0, .bool false, .slice none 0 0] 36)) := (Below.refl _ _).alloc (by omega) _
        have PA : PkIn (wr.alloc (.cells #[.int .i64 0, .int .i64 0, .int .i64 0, .int .i64 0, .bool false, .slice none 0 0] 36)) X 0 0 0 0 false (.slice none 0 0) := by rw [← hX]; exact obj_new _ _
        by_cases h2 : 0 < n2
        · have hlt2 := Nat.mod_lt i h2
          obtain ⟨b2, f2, s, t, l, lv, st, oa, bc, body, rfl, hb2', hc2, hbl, hby, hoa⟩ := HZ2.out (i % n2) hlt2
          have W1 : IntKind.i64.wrap (Int.tmod (i : Int) (n2 : Int)) = ((i % n2 : Nat) : Int) := by
            rw [← Int.ofNat_tmod, IntKind.wrap_i64]; omega
          have KA := KB0.out.trans (BA.mono hXM)
          have g0 := (KA.cell (p := ⟨b2, f2 + (i % n2) * 6, none⟩) hb2').trans (hc2 0 (.int .i64 s) rfl)
          have g1 := (KA.cell (p := ⟨b2, f2 + (i % n2) * 6 + 1, none⟩) hb2').trans (hc2 1 (.int .i64 t) rfl)
          have g2 := (KA.cell (p := ⟨b2, f2 + (i % n2) * 6 + 2, none⟩) hb2').trans (hc2 2 (.int .i64 l) rfl)
          have g3 := (KA.cell (p := ⟨b2, f2 + (i % n2) * 6 + 3, none⟩) hb2').trans (hc2 3 (.int .i64 lv) rfl)
          have g4 := (KA.cell (p := ⟨b2, f2 + (i % n2) * 6 + 4, none⟩) hb2').trans (hc2 4 (.bool st) rfl)
          have g5 := (KA.cell (p := ⟨b2, f2 + (i % n2) * 6 + 5, none⟩) hb2').trans (hc2 5 (.slice oa body.length bc) rfl)
          have BXR := Lib.hid (show BoxR w.heap.size w (wr.alloc (.cells #[.int .i64 s, .int .i64 t, .int .i64 l, .int .i64 lv, .bool st, .slice oa body.length bc] 36)) X from ⟨s, t, l, lv, st, oa, bc, body, by rw [← hX]; exact obj_new _ _, hbl, hby, hoa⟩)
          have HBA : Hid (Below X wr (wr.alloc (.cells #[.int .i64 s, .int .i64 t, .int .i64 l, .int .i64 lv, .bool st, .slice oa body.length bc] 36))) := Lib.hid ((Below.refl _ _).alloc (by omega) _)
          clear hc2 hby hoa hbl KA BA PA
          go_wp2_with fail
          go_meet
          exact ⟨HBA, BXR⟩
        · obtain rfl : n2 = 0 := by omega
          have BXR := Lib.hid (show BoxR w.heap.size w (wr.alloc (.cells #[.int .i64 0, .int .i64 0, .int .i64 0, .int .i64 0, .bool false, .slice none 0 0] 36)) X from ⟨0, 0, 0, 0, false, none, 0, [], PA, by simp, .inl ⟨rfl, none, 0, rfl, by simp, fun _ => rfl⟩, fun a e => (by cases e)⟩)
          have HBA := Lib.hid BA
          clear BA PA
          go_wp2_with fail
          go_meet
          exact ⟨HBA, BXR⟩
      case rest =>
        obtain ⟨KX, BX⟩ := hcut
        have ST2 : Hid (StRE w.heap.size w n b bm rb i wc) := Lib.hid (ST.out.below hM (by rw [hX]; exact KX.out))
        clear KX ST hX
        obtain ⟨s, t, l, lv, st, oa, bc, body, PX, hbl, hby, hoa⟩ := BX.out
        obtain ⟨PB, k, Q0, Q1, hq0, Q0D, Q1D, RW, PW⟩ := rplays_put w.heap.size w hM n ⟨hn1, hn2⟩ b bm rb i (by omega) num s t l lv st oa bc body hbl hby hoa wc ST2.out
        have RW' := Lib.hid RW
        have PW' := Lib.hid PW
        have Q0D' := Lib.hid Q0D
        have Q1D' := Lib.hid Q1D
        have hq0d := (Q0D'.out _ hq0).1
        have PXD : PkIn wc.drew X s t l lv st (.slice oa body.length bc) := PX
        clear RW PW Q0D Q1D BX ST2 hby hoa
        have PXd : PkIn wc.drew X s t l lv st (.slice oa body.length bc) := PX
        have q0 := Q.out wc (Q0D'.out _ hq0).2
        have r0 := Q.out _ (Q0D'.out _ hq0d).2
        obtain ⟨p0, p1, p2, p3, p4, p5⟩ := pkIn_cells (PX)
        obtain ⟨d0, d1, d2, d3, d4, d5⟩ := pkIn_cells (PXd)
        have HPX := Lib.hid PX
        clear PX PXD PXd
        go_upto_region 15 with fail
        go_cut [16, 17] from 70 to 79 (fun v u z => v = .bool PB ∧ u = .int .i64 k ∧ Q1 z ∧ Hid (PkIn z X s t l lv st (.slice oa body.length bc)))
        case first =>
          go_region_held3 (fun w' => w'.cell? ⟨b1, f1 + i, none⟩ = some (.int .i64 num) ∧ w'.cell? ⟨X, 0, none⟩ = some (.int .i64 s) ∧ w'.cell? ⟨X, 1, none⟩ = some (.int .i64 t) ∧ w'.cell? ⟨X, 2, none⟩ = some (.int .i64 l) ∧ w'.cell? ⟨X, 3, none⟩ = some (.int .i64 lv) ∧ w'.cell? ⟨X, 4, none⟩ = some (.bool st) ∧ w'.cell? ⟨X, 5, none⟩ = some (.slice oa body.length bc))
            (first | (with_reducible assumption) | (refine And.intro ?_ (And.intro ?_ (And.intro ?_ (And.intro ?_ (And.intro ?_ (And.intro ?_ ?_))))) <;> with_reducible assumption))
            (first
            | (go_at_call 10; (with_reducible refine (RW'.out _ (by with_reducible assumption)).mono ?_); rintro e x1 ⟨rfl, hq1, kf⟩; have PX1 := pkIn_kf (z := x1) (by first | exact HPX.out | exact (show PkIn wc.drew X s t l lv st (.slice oa body.length bc) from HPX.out)) kf; have q1 := Q.out x1 (Q1D'.out _ hq1).2; obtain ⟨e0, e1, e2, e3, e4, e5⟩ := pkIn_cells (PX1); have HP1 := Lib.hid PX1; clear PX1 kf))
          all_goals
            go_wp2_with fail
            go_meet
            exact ⟨rfl, rfl, by first | exact hq1 | exact (Q1D'.out _ hq1).1, Lib.hid (by exact HP1.out)⟩
        case rest =>
        clear hq0 hq0d p0 p1 p2 p3 p4 p5 d0 d1 d2 d3 d4 d5 q0 r0 HPX RW' Q0D'
        obtain ⟨rfl, rfl, hq1, HPX⟩ := hcut
        have hq1d := (Q1D'.out _ hq1).1
        have PX := HPX.out
        have PXd : PkIn wc.drew X s t l lv st (.slice oa body.length bc) := PX
        have q0 := Q.out wc (Q1D'.out _ hq1).2
        have r0 := Q.out _ (Q1D'.out _ hq1d).2
        obtain ⟨p0, p1, p2, p3, p4, p5⟩ := pkIn_cells (PX)
        obtain ⟨d0, d1, d2, d3, d4, d5⟩ := pkIn_cells (PXd)
        clear PX PXd
        go_upto_region 16 with fail
        go_cut [18, 19] from 80 to 89 (fun v u z => v = .bool PB ∧ u = errV k ∧ Hid (StRE w.heap.size w n b bm rb (i + 1) z))
        case first =>
          go_region_held3 (fun w' => w'.cell? ⟨b1, f1 + i, none⟩ = some (.int .i64 num) ∧ w'.cell? ⟨X, 0, none⟩ = some (.int .i64 s) ∧ w'.cell? ⟨X, 1, none⟩ = some (.int .i64 t) ∧ w'.cell? ⟨X, 2, none⟩ = some (.int .i64 l) ∧ w'.cell? ⟨X, 3, none⟩ = some (.int .i64 lv) ∧ w'.cell? ⟨X, 4, none⟩ = some (.bool st) ∧ w'.cell? ⟨X, 5, none⟩ = some (.slice oa body.length bc))
            (first | (with_reducible assumption) | (refine And.intro ?_ (And.intro ?_ (And.intro ?_ (And.intro ?_ (And.intro ?_ (And.intro ?_ ?_))))) <;> with_reducible assumption))
            (first
            | (go_at_call 11; (with_reducible refine (PW'.out _ (by with_reducible assumption)).mono ?_); rintro e x2 ⟨rfl, hs2, kf⟩; have PX1 := pkIn_kf (z := x2) (by first | exact HPX.out | exact (show PkIn wc.drew X s t l lv st (.slice oa body.length bc) from HPX.out)) kf; have q1 := Q.out x2 hs2.kb; obtain ⟨e0, e1, e2, e3, e4, e5⟩ := pkIn_cells (PX1); have HS2 := Lib.hid hs2; clear PX1 kf))
          all_goals
            go_wp2_with fail
            go_meet
            exact ⟨rfl, rfl, by first | exact HS2 | exact Lib.hid HS2.out.drew⟩
        case rest =>
        clear hq1 hq1d p0 p1 p2 p3 p4 p5 d0 d1 d2 d3 d4 d5 q0 r0 HPX PW' Q1D'
        obtain ⟨rfl, rfl, SP⟩ := hcut
        have EW := Lib.hid ((error_same k wc (HE.out.below SP.out.kb)).mono (fun e w' ⟨h1, h2⟩ => (show e = Ending.returned (.bool true) ∧ StRE w.heap.size w n b bm rb (i + 1) w' from ⟨h1, SP.out.below hM h2⟩)))
        clear SP
        go_upto_region 18 with (go_at_call 9; (with_reducible refine EW.out.mono ?_); rintro e x3 ⟨rfl, hs3⟩)
        obtain ⟨T, m, oL, Lc, capL, Q0, hLc, hq0, Q0D, Q0F, TW, LW, RLW, NW⟩ := rplays_look w.heap.size w hM n b bm rb (i + 1) (by omega) x3 hs3
        have TW' := Lib.hid TW
        have LW' := Lib.hid LW
        have RLW' := Lib.hid RLW
        have NW' := Lib.hid NW
        have Q0D' := Lib.hid Q0D
        have Q0F' := Lib.hid Q0F
        clear TW LW RLW NW Q0D Q0F hs3 EW
        have hq0d := Q0D'.out _ hq0
        obtain ⟨a1, a2, -⟩ := Q0F'.out _ hq0
        obtain ⟨d1, d2, -⟩ := Q0F'.out _ hq0d
        go_cut [125] from 93 to 125 (fun v z => v = .bool false ∧ Hid (StRE w.heap.size w n b bm rb (i + 1) z))
        case first =>
          go_region_held3 (fun w' => w'.cell? ⟨rb, 1, none⟩ = some (.int .i64 T) ∧ w'.cell? ⟨rb, 2, none⟩ = some (.slice oL Lc capL))
            (first | (with_reducible assumption) | (refine And.intro ?_ ?_ <;> with_reducible assumption))
            (first
            | (go_at_call 12; (with_reducible refine (TW'.out _ (by with_reducible assumption)).mono ?_); rintro e x4 ⟨rfl, hq4⟩; have e4 := (Q0F'.out _ hq4).1; have g4 := (Q0F'.out _ hq4).2.1)
            | (go_at_call 13; (with_reducible refine (LW'.out _ (by with_reducible assumption)).mono ?_); rintro e x5 ⟨rfl, hq5⟩; have e5 := (Q0F'.out _ hq5).1; have g5 := (Q0F'.out _ hq5).2.1)
            | (go_at_call 14; (with_reducible refine (RLW'.out _ (by with_reducible assumption)).mono ?_); rintro e x6 ⟨rfl, hq6⟩; have e6 := (Q0F'.out _ hq6).1; have g6 := (Q0F'.out _ hq6).2.1)
            | (go_at_call 15; (with_reducible refine (NW'.out _ (by with_reducible assumption)).mono ?_); rintro e x7 ⟨rfl, hq7⟩; have e7 := (Q0F'.out _ hq7).1; have g7 := (Q0F'.out _ hq7).2.1))
          all_goals
            go_wp2_with fail
            go_meet
            exact ⟨rfl, Lib.hid (Q0F'.out _ (by with_reducible assumption)).2.2⟩
        case rest =>
        obtain ⟨rfl, SL⟩ := hcut
        clear hq0 hq0d a1 a2 d1 d2 TW' LW' RLW' NW' Q0D' Q0F'
        go_upto_region 21 with fail
        go_loopw [20] (fun s20 wr => ∃ j : Nat, j ≤ n3 ∧ j ≤ 6 ∧ s20 = .int .i64 j ∧ Hid (StRE w.heap.size w n b bm rb (i + 1) wr)) (fun s20 _ => 6 - (RowKit.intOf s20).toNat)
        case atStart => exact ⟨0, by omega, by omega, rfl, SL⟩
        case round =>
          clear SL
          obtain ⟨j, hj3, hj6, rfl, SL⟩ := hrel
          by_cases hj : j < n3 ∧ j < 6
          · obtain ⟨hja, hjb⟩ := hj
            obtain ⟨b3, f3, rfl, hb3, q3, hz3, hz3'⟩ := HZ3.out j hja
            have Q3 := Lib.hid (fun y (k : Below w.heap.size w y) => (k.cell (p := ⟨b3, f3 + j, none⟩) hb3).trans q3)
            clear q3
            generalize z3 j = ask at *
            have hwf : (Lit.int .i64 ask).wf = true := by simp [Lit.wf, IntKind.min, IntKind.max, IntKind.signed, IntKind.bits]; omega
            have HWF := Lib.hid hwf
            clear hwf
            obtain ⟨top, c, f, v, L, B, S0⟩ := SL.out
            go_upto_region 25 with fail
            obtain ⟨X2, hX2⟩ : ∃ X2, wr.heap.size = X2 := ⟨_, rfl⟩
            have BA : Below X2 wr (wr.alloc (.cells #[.int .i64 0, .int .i64 0, .int .i64 0, .int .i64 0, .bool false, .slice none 0 0] 36)) := (Below.refl _ _).alloc (by omega) _
            have PA0 : PkIn (wr.alloc (.cells #[.int .i64 0, .int .i64 0, .int .i64 0, .int .i64 0, .bool false, .slice none 0 0] 36)) X2 0 0 0 0 false (.slice none 0 0) := by rw [← hX2]; exact obj_new _ _
            have HX2 := Lib.hid hX2
            rw [hX2]
            refine abs_to (fun y => Hid (Below X2 wr y) ∧ PkIn y X2 0 0 0 0 false (.slice none 0 0)) ⟨Lib.hid BA, PA0⟩ ?_
            have HS0 := Lib.hid S0
            have HBW := Lib.hid (fun z (k : Below X2 wr z) => (show Below wr.heap.size wr z from by rw [HX2.out]; exact k))
            clear BA PA0 S0 SL hX2
            rintro y ⟨KY, PW2⟩
            have q3 := Q3.out y (HS0.out.below hM (HBW.out y KY.out)).kb
            by_cases hyes : ∃ x ∈ L, x.num = ask
            · have HY := Lib.hid hyes
              clear hyes
              obtain ⟨jx, x, body, hjx, hby, AT, GET⟩ := rplays_some w.heap.size w hM n b bm rb (i + 1) (by omega) ask HWF.out HS0.out HY.out
              have AT' := Lib.hid (AT y (HBW.out y KY.out))
              have GET' := Lib.hid GET
              have HBY := Lib.hid hby
              have hjl : jx < L.length := (List.getElem?_eq_some_iff.1 hjx).1
              obtain ⟨oL2, cL2, rfl, hrd⟩ := HS0.out.r.row.read itemK_ok
              obtain ⟨g, rfl, _, hgl, q⟩ := hrd jx x hjx
              have hgl2 : g < X2 := by have := HX2.out; omega
              have c2 : y.cell? ⟨rb, 2, none⟩ = some (.slice (some ⟨g, 0, none⟩) L.length cL2) := obj_cell (HS0.out.below hM (HBW.out y KY.out)).r.at_ rfl
              obtain ⟨xn, xg, xs, xt, xl, xlv, xst, xo, xbn, xbc⟩ := x
              have q2 : y.cell? ⟨g, jx * 8 + 2, none⟩ = some (.int .i64 xs) := (KY.out.cell (p := ⟨g, jx * 8 + 2, none⟩) hgl2).trans (q 2 _ rfl)
              have q3' : y.cell? ⟨g, jx * 8 + 3, none⟩ = some (.int .i64 xt) := (KY.out.cell (p := ⟨g, jx * 8 + 3, none⟩) hgl2).trans (q 3 _ rfl)
              have q4 : y.cell? ⟨g, jx * 8 + 4, none⟩ = some (.int .i64 xl) := (KY.out.cell (p := ⟨g, jx * 8 + 4, none⟩) hgl2).trans (q 4 _ rfl)
              have q5 : y.cell? ⟨g, jx * 8 + 5, none⟩ = some (.int .i64 xlv) := (KY.out.cell (p := ⟨g, jx * 8 + 5, none⟩) hgl2).trans (q 5 _ rfl)
              have q6 : y.cell? ⟨g, jx * 8 + 6, none⟩ = some (.bool xst) := (KY.out.cell (p := ⟨g, jx * 8 + 6, none⟩) hgl2).trans (q 6 _ rfl)
              have q7 : y.cell? ⟨g, jx * 8 + 7, none⟩ = some (.slice xo xbn xbc) := (KY.out.cell (p := ⟨g, jx * 8 + 7, none⟩) hgl2).trans (q 7 _ rfl)
              obtain ⟨a0, a1, a2, a3, a4, a5⟩ := pkIn_cells PW2
              have f0 := obj_free PW2 0
              have f1' := obj_free PW2 1
              have f2 := obj_free PW2 2
              have f3' := obj_free PW2 3
              have f4 := obj_free PW2 4
              have f5 := obj_free PW2 5
              clear hrd q hby AT GET hjx HY
              go_upto_region 29 with (go_at_call 16; (with_reducible refine AT'.out.mono ?_); rintro e x8 ⟨rfl, rfl⟩)
              refine abs_to (fun z => Hid (Below X2 wr z) ∧ PkIn z X2 xs xt xl xlv xst (.slice xo xbn xbc)) ⟨Lib.hid (Below.setCell (Below.setCell (Below.setCell (Below.setCell (Below.setCell (Below.setCell KY.out (Nat.le_refl _) _) (Nat.le_refl _) _) (Nat.le_refl _) _) (Nat.le_refl _) _) (Nat.le_refl _) _) (Nat.le_refl _) _), obj_set (obj_set (obj_set (obj_set (obj_set (obj_set PW2 0 _) 1 _) 2 _) 3 _) 4 _) 5 _⟩ ?_
              clear KY PW2 q2 q3 q3' q4 q5 q6 q7 a0 a1 a2 a3 a4 a5 f0 f1' f2 f3' f4 f5 c2 AT'
              rintro y ⟨KY, PW2⟩
              have q3 := Q3.out y (HS0.out.below hM (HBW.out y KY.out)).kb
              have GY := Lib.hid (GET'.out y (HBW.out y KY.out))
              clear GET'
              go_upto_region 30 with (go_at_call 17; (with_reducible refine GY.out.mono ?_); rintro e x9 ⟨oa8, c8, rfl, hb8, k9⟩)
              have BA9 : Below x9.heap.size x9 (x9.alloc (.cells #[.int .i64 xs, .int .i64 xt, .int .i64 xl, .int .i64 xlv, .bool xst, .slice oa8 body.length c8] 36)) := (Below.refl _ _).alloc (Nat.le_refl _) _
              have KW9 : Below wr.heap.size wr (x9.alloc (.cells #[.int .i64 xs, .int .i64 xt, .int .i64 xl, .int .i64 xlv, .bool xst, .slice oa8 body.length c8] 36)) := ((HBW.out y KY.out).trans (k9.mono (HBW.out y KY.out).size)).trans (BA9.mono (Nat.le_trans (HBW.out y KY.out).size k9.size))
              refine abs_to (fun z => Hid (StRE w.heap.size w n b bm rb (i + 1) z) ∧ PkIn z X2 xs xt xl xlv xst (.slice xo xbn xbc) ∧ PkIn z x9.heap.size xs xt xl xlv xst (.slice oa8 body.length c8) ∧ IsBytes z (.slice oa8 body.length c8) body ∧ IsBytes z (.slice xo xbn xbc) body) ⟨Lib.hid ⟨top, c, f, _, L, B, HS0.out.below hM KW9⟩, obj_old (Below.heapAt k9 PW2 (lt_of_block PW2)) _, obj_new _ _, hb8 _ ((Keeps.refl _ _).alloc _), HBY.out _ KW9⟩ ?_
              clear BA9 KW9 k9 hb8 PW2 q3 GY KY
              generalize x9.heap.size = X3 at *
              rintro z ⟨SZ, PA, PB, BB, BW⟩
              have EW := Lib.hid ((error_same 0 z (HE.out.below SZ.out.kb)).mono (fun e w' ⟨h1, h2⟩ => (show e = Ending.returned (.bool true) ∧ Below z.heap.size z w' from ⟨h1, h2⟩)))
              go_upto_region 31 with (go_at_call 9; (with_reducible refine EW.out.mono ?_); rintro e zb ⟨rfl, k10⟩)
              have SB := Lib.hid (SZ.out.below hM k10)
              obtain ⟨a0, a1, a2, a3, a4, a5⟩ := pkIn_cells (Below.heapAt k10 PA (lt_of_block PA) : PkIn zb _ _ _ _ _ _ _)
              obtain ⟨d0, d1, d2, d3, d4, d5⟩ := pkIn_cells (Below.heapAt k10 PB (lt_of_block PB) : PkIn zb _ _ _ _ _ _ _)
              have SM := Lib.hid (samePk_any xs xt xl xlv xs xt xl xlv xst xst _ _ body body zb (BB.below k10) (BW.below k10))
              clear PA PB EW SZ k10
              go_upto_region 32 with (go_at_call 18; (with_reducible refine SM.out.mono ?_); rintro e zc ⟨rfl, k11⟩)
              have SC := Lib.hid (SB.out.below hM k11)
              clear SB k11 a0 a1 a2 a3 a4 a5 d0 d1 d2 d3 d4 d5
              rw [show Pl.samePk xs xt xl xlv xst body xs xt xl xlv xst body = true from by simp [Pl.samePk]]
              go_wp2_with fail
              go_roundw
              case measure => simp [RowKit.intOf]; omega
              case rel => exact ⟨j + 1, by omega, by omega, rfl, SC⟩
            · obtain ⟨AT, GET⟩ := rplays_none w.heap.size w hM n b bm rb (i + 1) (by omega) ask HWF.out HS0.out (fun x hx e => hyes ⟨x, hx, e⟩)
              have AT' := Lib.hid (AT y (HBW.out y KY.out))
              have GET' := Lib.hid (GET y (HBW.out y KY.out))
              clear hyes AT GET
              go_upto_region 30 with (first
                | (go_at_call 16; (with_reducible refine AT'.out.mono ?_); rintro e x8 ⟨rfl, rfl⟩)
                | (go_at_call 17; (with_reducible refine GET'.out.mono ?_); rintro e x9 ⟨rfl, k9⟩))
              have BA9 : Below x9.heap.size x9 (x9.alloc (.cells #[.int .i64 0, .int .i64 0, .int .i64 0, .int .i64 0, .bool false, .slice none 0 0] 36)) := (Below.refl _ _).alloc (Nat.le_refl _) _
              refine abs_to (fun z => Hid (StRE w.heap.size w n b bm rb (i + 1) z) ∧ PkIn z X2 0 0 0 0 false (.slice none 0 0) ∧ PkIn z x9.heap.size 0 0 0 0 false (.slice none 0 0)) ⟨Lib.hid ⟨top, c, f, v, L, B, ((HS0.out.below hM (HBW.out y KY.out)).below hM k9).below hM BA9⟩, obj_old (Below.heapAt k9 PW2 (lt_of_block PW2)) _, obj_new _ _⟩ ?_
              clear BA9 k9 PW2 q3 AT' GET' KY
              generalize x9.heap.size = X3 at *
              rintro z ⟨SZ, PA, PB⟩
              have NB : IsBytes z (.slice none 0 0) [] := .inl ⟨rfl, none, 0, rfl, by simp, fun _ => rfl⟩
              have EW := Lib.hid ((error_same 5 z (HE.out.below SZ.out.kb)).mono (fun e w' ⟨h1, h2⟩ => (show e = Ending.returned (.bool true) ∧ Below z.heap.size z w' from ⟨h1, h2⟩)))
              go_upto_region 31 with (go_at_call 9; (with_reducible refine EW.out.mono ?_); rintro e zb ⟨rfl, k10⟩)
              have SB := Lib.hid (SZ.out.below hM k10)
              obtain ⟨a0, a1, a2, a3, a4, a5⟩ := pkIn_cells (Below.heapAt k10 PA (lt_of_block PA) : PkIn zb _ _ _ _ _ _ _)
              obtain ⟨d0, d1, d2, d3, d4, d5⟩ := pkIn_cells (Below.heapAt k10 PB (lt_of_block PB) : PkIn zb _ _ _ _ _ _ _)
              have SM := Lib.hid (samePk_any 0 0 0 0 0 0 0 0 false false (.slice none 0 0) (.slice none 0 0) [] [] zb (NB.below k10) (NB.below k10))
              clear PA PB EW SZ k10
              go_upto_region 32 with (go_at_call 18; (with_reducible refine SM.out.mono ?_); rintro e zc ⟨rfl, k11⟩)
              have SC := Lib.hid (SB.out.below hM k11)
              clear SB k11 a0 a1 a2 a3 a4 a5 d0 d1 d2 d3 d4 d5
              rw [show Pl.samePk 0 0 0 0 false [] 0 0 0 0 false [] = true from by simp [Pl.samePk]]
              go_wp2_with fail
              go_roundw
              case measure => simp [RowKit.intOf]; omega
              case rel => exact ⟨j + 1, by omega, by omega, rfl, SC⟩
          · have hj' := Lib.hid hj
            clear hj
            go_upto_region 21 with fail
            go_cut [133] from 126 to 133 (fun v x => v = .bool false ∧ wr = x)
            case first =>
              go_wp2_with fail
              all_goals first
                | (exfalso; have := hj'.out; omega)
                | (go_meet; exact ⟨rfl, rfl⟩)
                | (go_meet; exact ⟨by rw [decide_eq_false (by have := hj'.out; omega)], rfl⟩)
            case rest =>
              obtain ⟨rfl, rfl⟩ := hcut
              go_wp2_with fail
              go_roundw
              case measure => simp [RowKit.intOf]; omega
              case rel => exact ⟨i + 1, by omega, by omega, rfl, SL⟩
    · have hlt' := Lib.hid hlt
      clear hlt
      go_wp2_with fail
      all_goals first
        | (exfalso; have := hlt'.out; omega)
        | (go_ret; obtain ⟨_, _, _, _, _, _, s⟩ := ST.out; exact ⟨rfl, s.kb⟩)
theorem pks_read {w : World} {v : Value} {l : List Pk} (h : IsPks w v l) : ∃ (oa : Option Addr) (c : Nat), v = .slice oa l.length c ∧ l.length ≤ maxLen ∧ ∀ k, k < l.length → ∃ b f s t ll lv st oa' bc body, oa = some ⟨b, f, none⟩ ∧ b < w.heap.size ∧ (∀ (j : Nat) (u : Value), (Pk.cells ⟨s, t, ll, lv, st, .slice oa' (body : List UInt8).length bc, body⟩)[j]? = some u → w.cell? ⟨b, f + (k * 6 + j), none⟩ = some u) ∧ body.length ≤ maxLen ∧ IsBytes w (.slice oa' body.length bc) body ∧ (∀ a, oa' = some a → body ≠ [] → a.block < w.heap.size) := by
  obtain ⟨h1, h2⟩ := h
  have hl := h1.len
  rcases h1 with ⟨rfl, oa, cap, rfl, r1, _⟩ | ⟨b2, f2, c2, rfl, r1, r2, r3⟩
  · exact ⟨oa, cap, rfl, hl, fun k hk => by simp at hk⟩
  · refine ⟨_, c2, rfl, hl, fun k hk => ?_⟩
    obtain ⟨_, _, _, _, hb⟩ := h2 _ (List.getElem_mem hk)
    obtain ⟨oa', bc, e, hm⟩ := bytes_slice hb
    have r := r3 k hk
    generalize l[k] = p at *
    obtain ⟨s, t, ll, lv, st, bv, body⟩ := p
    dsimp only at e hb hm r
    subst e
    refine ⟨b2, f2, s, t, ll, lv, st, oa', bc, body, rfl, Sl.lt (r 0 _ rfl), fun j u hu => r j u hu, hm, hb, fun a ha hne => ?_⟩
    rcases hb with ⟨e, _⟩ | ⟨b, off, cap, e, q1, q2, q3⟩
    · exact absurd e hne
    · cases e; cases ha
      exact Sl.lt (q3 0 (List.length_pos_iff.2 hne))
theorem walk_RingPlays (w : World) (a0 : Int) (wf0 : (Lit.int .i64 a0).wf = true) (v1 : Value) (l1 : List Int) (o1 : IsInts w v1 l1) (v2 : Value) (l2 : List Pk) (o2 : IsPks w v2 l2) (v3 : Value) (l3 : List Int) (o3 : IsInts w v3 l3) (hE : Env w) :
    Calls Tryd.prog 3 #[.int .i64 a0, v1, v2, v3] w fun e w' => e = .returned (.bool true) ∧ Below w.heap.size w w' := by
  obtain ⟨oa1, c1, rfl, m1, z1⟩ := ints_read o1
  obtain ⟨oa2, c2, rfl, m2, z2⟩ := pks_read o2
  obtain ⟨oa3, c3, rfl, m3, z3⟩ := ints_read o3
  exact walk_RingPlays_run w hE a0 oa1 _ c1 _ m1 z1 oa2 _ c2 m2 z2 oa3 _ c3 _ m3 z3
end Go.Proofs.YthgdkakkbaoccaaDoor
