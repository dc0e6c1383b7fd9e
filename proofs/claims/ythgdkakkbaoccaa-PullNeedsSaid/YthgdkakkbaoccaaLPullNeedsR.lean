import Derived.Test.YthgdkakkbaoccaaPNeeds
import Derived.Deep.QuietTactic
import Derived.BigQuiet
import Derived.Deep.DeepCutAuto
import Derived.Deep.Onto
/-! The walk of the law PullNeeds. -/
namespace Go.Proofs.Ythgdkakkbaoccaa
open Go.RowKit Go.Maps Go.Proofs
set_option linter.unusedVariables false
set_option linter.unusedSimpArgs false
/-- the fact's wants -/
def oneF : Nat → Int → Option Int := wantF (wantF (fun _ _ => none) 2 1 3) 2 2 1
def oneNd (t : Nat) : Int := if t = 2 then 3 else -1
theorem oneF_at (t : Nat) (i : Int) : oneF t i = if t = 2 then (if i = 2 then some 1 else if i = 1 then some 3 else none) else none := by
  unfold oneF wantF
  by_cases e : t = 2
  · subst e; simp
  · simp [e]
theorem oneF_bound : ∀ t i x, oneF t i = some x → 0 ≤ x ∧ x ≤ 3 := fun t i x h => by
  rw [oneF_at] at h
  split at h
  · split at h
    · cases h; omega
    · split at h
      · cases h; omega
      · cases h
  · cases h
theorem oneF_need (t : Nat) : IsNeed (oneF t) (oneNd t) := by
  unfold oneNd
  by_cases e : t = 2
  · subst e
    refine ⟨by decide, fun i x h => ?_, .inr ⟨1, by rw [oneF_at]; rfl⟩⟩
    have := (oneF_bound 2 i x h).2
    exact this
  · rw [if_neg e]
    refine ⟨by decide, fun i x h => ?_, .inl rfl⟩
    rw [oneF_at, if_neg e] at h; cases h
theorem one_chg : chgL oneNd (fun _ => 0) 9 = [⟨0, 2, 3⟩] := by decide
theorem one_chg2 : chgL oneNd (toldN oneNd (fun _ => 0) 9) 9 = [] := by decide
/-- a want of the call's own -/
def WtIn (w : World) (g : Nat) (who track lay : Int) : Prop := w.heap[g]? = some (.cells #[.int .i64 who, .int .i64 track, .int .i64 lay] 33 (0, 0))
def hit (t n : Int) (x : Wt) : Bool := decide (x.track = t) && decide (x.lay = n)
set_option maxRecDepth 100000 in
set_option maxHeartbeats 8000000 in
theorem walk_PullNeeds_run (w : World) (th : Int) (oa1 : Option Addr) (n1 c1 : Nat) (x1 : Nat → Wt) (hm1 : n1 ≤ maxLen) (hz1 : ∀ k, k < n1 → ∃ b f, oa1 = some ⟨b, f, none⟩ ∧ b < w.heap.size ∧ w.cell? ⟨b, f + k * 3, none⟩ = some (.int .i64 (x1 k).who) ∧ w.cell? ⟨b, f + k * 3 + 1, none⟩ = some (.int .i64 (x1 k).track) ∧ w.cell? ⟨b, f + k * 3 + 2, none⟩ = some (.int .i64 (x1 k).lay) ∧ (x1 k).Good)
    (oa2 : Option Addr) (n2 c2 : Nat) (z2 : Nat → Int) (hm2 : n2 ≤ maxLen) (hz2 : ∀ k, k < n2 → ∃ b f, oa2 = some ⟨b, f, none⟩ ∧ b < w.heap.size ∧ w.cell? ⟨b, f + k, none⟩ = some (.int .i64 (z2 k)) ∧ -9223372036854775808 ≤ z2 k ∧ z2 k ≤ 9223372036854775807) :
    Calls Try.prog 3 #[.int .i64 th, .slice oa1 n1 c1, .slice oa2 n2 c2] w fun e w' => e = .returned (.bool true) ∧ Below w.heap.size w w' := by
  have HZ1 := Lib.hid hz1
  have HZ2 := Lib.hid hz2
  clear hz1 hz2
  unfold maxLen at hm1 hm2
  go_enter Try.func3, Try.ntmps3
  go_wp2_with fail
  refine (pullNew_ok 5 (by decide) (by decide) _).mono ?_
  rintro e w1 ⟨b, mp, rfl, P1, k1⟩
  go_wp2_with fail
  refine (pullWant_ok w.heap.size b 0 5 mp _ _ _ _ 1 2 3 (by decide) (by decide) (by decide) _ P1).mono ?_
  rintro e w2 ⟨rfl, P2, k2⟩
  have kb2 := k1.trans (k2.below P1 k1.size)
  clear P1 k1 k2
  go_wp2_with fail
  refine (pullWant_ok w.heap.size b 0 5 mp _ _ _ _ 2 2 1 (by decide) (by decide) (by simp [wantC]) _ P2).mono ?_
  rintro e w3 ⟨rfl, P3, k3⟩
  have kb3 := kb2.trans (k3.below P2 kb2.size)
  clear P2 kb2 k3
  go_wp2_with fail
  refine (pullChanged_any w.heap.size b 0 5 mp _ _ _ _ oneF_bound oneNd (fun t _ _ => oneF_need t) (fun t => by unfold oneNd; split <;> omega) _ kb3.size P3).mono ?_
  rintro e w4 ⟨v4, rfl, r4, P4, k4⟩
  have kb4 := kb3.trans (k4.below P3 kb3.size)
  rw [one_chg] at r4
  obtain ⟨oa4, cap4, rfl, hread⟩ := wantRow_read r4
  obtain ⟨g4, rfl, _, hg4, _, _, q4⟩ := hread 0 ⟨0, 2, 3⟩ rfl
  have q5 : w4.cell? ⟨g4, 2, none⟩ = some (.int .i64 3) := q4
  have NE := Lib.hid (show Calls Try.prog 7 #[.pointer (some ⟨b, 0, none⟩), .int .i64 2] w4 fun e w' => e = .returned (.int .i64 3) ∧ Below w4.heap.size w4 w' from pullNeed_is w.heap.size b 0 5 mp _ _ _ _ 2 (by decide) (oneF_bound 2) 3 (oneF_need 2) w4 P4)
  have CH := Lib.hid (fun y (k : Below w4.heap.size w4 y) => (pullChanged_any w.heap.size b 0 5 mp _ _ _ _ oneF_bound oneNd (fun t _ _ => oneF_need t) (fun t => by unfold oneNd; split <;> omega) y (Nat.le_trans kb4.size k.size) (P4.below k)).mono (fun e y2 ⟨v, h1, h2, h3, h4⟩ => (show ∃ oa c, e = Ending.returned (.slice oa 0 c) ∧ Below w.heap.size w y2 from by
    rw [one_chg2] at h2
    obtain ⟨oa, c, rfl, _⟩ := wantRow_read h2
    have kb := kb4.trans (k.mono kb4.size)
    exact ⟨oa, c, h1, kb.trans (h4.below (P4.below k) kb.size)⟩)))
  have KC := Lib.hid (fun y (k : Below w4.heap.size w4 y) => (k.cell (p := ⟨g4, 2, none⟩) hg4).trans q5)
  clear r4 P3 kb3 k4 hread P4 q4 q5 kb4
  simp only [List.length_cons, List.length_nil, Nat.zero_add]
  go_upto_region 9 with (first
    | (go_at_call 7; refine NE.out.mono ?_; rintro e y1 ⟨rfl, ky⟩; have qy := KC.out y1 ky; have CY := Lib.hid (CH.out y1 ky); clear ky)
    | (go_at_call 6; refine CY.out.mono ?_; rintro e y2 ⟨oa, c, rfl, kb9⟩; have KB9 := Lib.hid kb9; clear kb9))
  refine abs_at (fun y => Hid (Below w.heap.size w y)) KB9 ?_
  clear KB9 CH KC NE qy CY hg4
  rintro y9 kb9
  by_cases hth : 1 ≤ th ∧ th ≤ 1000000
  case neg =>
    have HTH := Lib.hid hth
    go_wp2_with fail
    refine (pullNew_bad th hth _).mono ?_
    rintro e w5 ⟨rfl, rfl⟩
    clear hth
    go_wp2_with fail
    all_goals first
      | (exfalso; have := HTH.out; omega)
      | (go_ret; exact ⟨ret_bool (by have := HTH.out; simp <;> omega), kb9.out⟩)
  obtain ⟨ht1, ht2⟩ := hth
  go_wp2_with fail
  refine (pullNew_ok th ht1 ht2 _).mono ?_
  rintro e w5 ⟨b, mp, rfl, P5, k5⟩
  have kb5 := Lib.hid (kb9.out.trans (k5.mono kb9.out.size))
  have P5' := Lib.hid (P5.mono kb9.out.size)
  have HB := Lib.hid (lt_of_block P5.at_)
  have HMP := Lib.hid (fun k hk => (P5.map k hk).lt)
  have hN : w.heap.size ≤ w5.heap.size := kb5.out.size
  clear P5 k5 kb9
  go_upto_region 14 with fail
  obtain ⟨N, hNe⟩ : ∃ N, w5.heap.size = N := ⟨_, rfl⟩
  rw [hNe] at HB HMP hN
  have hN5 : N ≤ w5.heap.size := by omega
  clear hNe
  go_loopw [14, 15] (fun s14 s15 wr => ∃ (i : Nat) (L : List Wt) (C : Nat → Nat) (F : Nat → Int → Option Int), i ≤ 40 ∧ i ≤ n1 ∧ s15 = .int .i64 i ∧ L.length ≤ i ∧ Hid (∀ j, C j ≤ i) ∧ Hid (PRel L F) ∧ Hid (WRow wr N s14 L) ∧ Hid (Pul w.heap.size wr b 0 th mp (fun _ => 0) (fun _ => 0) C F) ∧ Hid (Below w.heap.size w wr) ∧ N ≤ wr.heap.size) (fun _ s15 _ => 40 - (intOf s15).toNat)
  case atStart => exact ⟨0, [], _, _, by omega, by omega, rfl, by simp, Lib.hid (fun j => by omega), Lib.hid PRel.start, Lib.hid (World.ownsRow_nil _ _ _ _), P5', kb5, hN5⟩
  case round =>
    clear P5' kb5 hN5
    obtain ⟨i, L, C, F, hi40, hin, rfl, hL, hC, R, ro, P, kb, hNs⟩ := hrel
    by_cases hlt : i < n1 ∧ i < 40
    · obtain ⟨hl1, hl2⟩ := hlt
      obtain ⟨b1, f1, rfl, hb1, q0, q1, q2, hg⟩ := HZ1.out i hl1
      rw [← kb.out.cell (p := ⟨b1, f1 + i * 3, none⟩) hb1] at q0
      rw [← kb.out.cell (p := ⟨b1, f1 + i * 3 + 1, none⟩) hb1] at q1
      rw [← kb.out.cell (p := ⟨b1, f1 + i * 3 + 2, none⟩) hb1] at q2
      generalize x1 i = x at *
      obtain ⟨who, track, lay⟩ := x
      dsimp only at q0 q1 q2
      go_upto_region 17 with fail
      refine abs_at (fun y => WtIn y wr.heap.size who track lay ∧ Hid (WRow y N u14 L) ∧ Hid (Pul w.heap.size y b 0 th mp (fun _ => 0) (fun _ => 0) C F) ∧ Hid (Below w.heap.size w y) ∧ wr.heap.size < y.heap.size) ⟨obj_new _ _, Lib.hid (wantRow_below ro.out ((Below.refl _ _).alloc (Nat.le_refl _) _)), Lib.hid (P.out.below ((Below.refl _ _).alloc (Nat.le_refl _) _)), Lib.hid (kb.out.alloc kb.out.size _), by simp⟩ ?_
      clear ro P kb q0 q1 q2 hb1
      obtain ⟨G, hGe⟩ : ∃ G, wr.heap.size = G := ⟨_, rfl⟩
      rw [hGe] at hNs ⊢
      clear hGe
      rintro y ⟨hw, ro, P, kb, hG⟩
      have w0 := obj_cell hw (k := 0) rfl
      have w1 := obj_cell hw (k := 1) rfl
      have w2 := obj_cell hw (k := 2) rfl
      by_cases hok : Pl.rightOk who track ∧ 0 ≤ lay ∧ lay ≤ 3
      case neg =>
        go_wp2_with fail
        refine (pullWant_bad b who track lay hok y).mono ?_
        rintro e y2 ⟨rfl, k2⟩
        have kb2 : Hid (Below w.heap.size w y2) := Lib.hid (kb.out.trans (k2.mono kb.out.size))
        have ro2 := Lib.hid (wantRow_below ro.out k2)
        have P2 := Lib.hid (P.out.below k2)
        have hs2 := k2.size
        clear k2 kb ro P w0 w1 w2 hw
        go_wp2_with fail
        go_roundw
        case measure => simp [intOf]; omega
        case rel => exact ⟨i + 1, L, C, F, by omega, by omega, rfl, by omega, Lib.hid (fun j => by have := hC.out j; omega), R, ro2, P2, kb2, by omega⟩
      obtain ⟨hr, hl⟩ := hok
      obtain ⟨t, rfl⟩ : ∃ t : Nat, track = t := ⟨track.toNat, by have := hr.2.2.1; omega⟩
      go_wp2_with fail
      refine (pullWant_ok w.heap.size b 0 th mp _ _ C F who t lay hr hl (by have := hC.out t; omega) y P.out).mono ?_
      rintro e y2 ⟨rfl, P2, k2⟩
      have kb2 := Lib.hid (kb.out.trans (k2.below P.out kb.out.size))
      have hset : ∀ g, N ≤ g → ¬ (g = b ∨ ∃ j, j < 9 ∧ g = mp j) := fun g hg e => by
        rcases e with rfl | ⟨j, hj, rfl⟩
        · have := HB.out; omega
        · have := HMP.out j hj; omega
      have ro2 := Lib.hid (wantRow_keep ro.out (fun g _ hg hlt => k2.block g hlt (hset g hg)))
      have hw2 : WtIn y2 G who t lay := Keeps.heap k2 hw (hset G hNs)
      have hs2 := k2.size
      have P2 := Lib.hid P2
      have R2 := Lib.hid (R.out.step ⟨who, t, lay⟩ t rfl hr hl)
      have HR := Lib.hid (And.intro hr hl)
      have hC2 := Lib.hid (wantC_le (F := F) (t := t) (who := who) hC.out)
      clear k2 kb ro P w0 w1 w2 hw hset hr hl
      obtain ⟨oaL, capL, rfl, hrd⟩ := wantRow_read ro2.out
      have HRD := Lib.hid hrd
      clear hrd
      have nil2 : Hid (WRow y2 y2.heap.size (.slice none 0 0) []) := Lib.hid (World.ownsRow_nil _ _ _ _)
      have refl2 := Lib.hid (Below.refl y2.heap.size y2)
      have hGl := lt_of_block hw2
      have HW2 := Lib.hid hw2
      clear hw2
      go_upto_region 21 with fail
      go_loopw [18, 19] (fun s18 s19 wr => ∃ k : Nat, k ≤ L.length ∧ s19 = .int .i64 k ∧ Hid (WRow wr y2.heap.size s18 ((L.take k).filter (others who t))) ∧ Hid (Below y2.heap.size y2 wr)) (fun _ s19 _ => L.length - (intOf s19).toNat)
      case atStart => exact ⟨0, by omega, rfl, nil2, refl2⟩
      case round =>
        clear nil2 refl2
        obtain ⟨k, hk, rfl, rn, kn⟩ := hrel
        by_cases hkl : k < L.length
        · obtain ⟨g, e0, _, hgl, c0, c1', c2'⟩ := HRD.out k L[k] (by simp [hkl])
          cases e0
          rw [← kn.out.cell (p := ⟨g, k * 3, none⟩) hgl] at c0
          rw [← kn.out.cell (p := ⟨g, k * 3 + 1, none⟩) hgl] at c1'
          rw [← kn.out.cell (p := ⟨g, k * 3 + 2, none⟩) hgl] at c2'
          have hwr := Below.heapAt kn.out HW2.out hGl
          have w0 := obj_cell hwr (k := 0) rfl
          have w1 := obj_cell hwr (k := 1) rfl
          have HT := Lib.hid (show L.take (k + 1) = L.take k ++ [L[k]] from by rw [List.take_add_one]; simp [hkl])
          obtain ⟨x', hx'⟩ : ∃ x', x' = L[k] := ⟨_, rfl⟩
          have HX := Lib.hid hx'
          rw [← hx'] at c0 c1' c2' HT
          clear hx'
          obtain ⟨a0, a1, a2⟩ := x'
          dsimp only at c0 c1' c2'
          go_upto_region 23 with fail
          go_cut [129] (fun v z => v = .bool (others who t ⟨a0, a1, a2⟩) ∧ Hid (WRow z y2.heap.size u18 ((L.take k).filter (others who t))) ∧ Hid (Below y2.heap.size y2 z))
          case first =>
            cases d1 : (a0 != who)
            · cases d2 : (a1 != (t : Int))
              · have HO := Lib.hid (show others who t ⟨a0, a1, a2⟩ = false from by simp at d1 d2; simp [others, d1, d2])
                go_quiet (fail)
                go_wp2_with fail
                go_meet
                exact ⟨by rw [HO.out], by exact rn, Lib.hid ⟨kn.out.os, kn.out.tape, kn.out.output, kn.out.size, kn.out.block⟩⟩
              · have HO := Lib.hid (show others who t ⟨a0, a1, a2⟩ = true from by simp at d1 d2; simp [others, d1, d2])
                go_quiet (fail)
                go_wp2_with fail
                go_meet
                exact ⟨by rw [HO.out], by exact rn, Lib.hid ⟨kn.out.os, kn.out.tape, kn.out.output, kn.out.size, kn.out.block⟩⟩
            · have HO := Lib.hid (show others who t ⟨a0, a1, a2⟩ = true from by simp at d1; simp [others, d1])
              go_quiet (fail)
              go_wp2_with fail
              go_meet
              exact ⟨by rw [HO.out], by exact rn, Lib.hid ⟨kn.out.os, kn.out.tape, kn.out.output, kn.out.size, kn.out.block⟩⟩
          case rest =>
            clear rn kn c0 c1' c2' w0 w1 hwr
            obtain ⟨rfl, rn, kn⟩ := hcut
            cases hO : others who t ⟨a0, a1, a2⟩
            · have HTK := Lib.hid (show (L.take (k + 1)).filter (others who t) = (L.take k).filter (others who t) from by rw [HT.out, List.filter_append]; simp [hO])
              go_wp2_with fail
              go_roundw
              case measure => simp [intOf]; omega
              case rel => exact ⟨k + 1, by omega, rfl, by rw [HTK.out]; exact rn, kn⟩
            · have HTK := Lib.hid (show (L.take (k + 1)).filter (others who t) = (L.take k).filter (others who t) ++ [⟨a0, a1, a2⟩] from by rw [HT.out, List.filter_append]; simp [hO])
              obtain ⟨g', e0, _, hgl', c0, c1', c2'⟩ := HRD.out k ⟨a0, a1, a2⟩ (by rw [HX.out]; simp [hkl])
              cases e0
              dsimp only at c0 c1' c2'
              rw [← kn.out.cell (p := ⟨g, k * 3, none⟩) hgl] at c0
              rw [← kn.out.cell (p := ⟨g, k * 3 + 1, none⟩) hgl] at c1'
              rw [← kn.out.cell (p := ⟨g, k * 3 + 2, none⟩) hgl] at c2'
              have rA : Hid (WRow (wc.alloc (.cells #[.int .i64 a0, .int .i64 a1, .int .i64 a2] 33)) y2.heap.size u18 ((L.take k).filter (others who t))) := Lib.hid (wantRow_below rn.out ((Below.refl _ _).alloc (Nat.le_refl _) _))
              have kA : Hid (Below y2.heap.size y2 (wc.alloc (.cells #[.int .i64 a0, .int .i64 a1, .int .i64 a2] 33))) := Lib.hid (kn.out.alloc kn.out.size _)
              have hlen : ((L.take k).filter (others who t)).length ≤ 40 := by
                have h1 := List.length_filter_le (others who t) (L.take k)
                have h2 := List.length_take_le k L
                omega
              have RUN := Lib.hid (run_moreWant _ y2.heap.size u18 ⟨a0, a1, a2⟩ ((L.take k).filter (others who t)) rA.out wc.heap.size (obj_new _ _) (by omega) (by have := kn.out.size; simp; omega))
              clear rn kn
              go_upto_region 22 with (at_builtin; obtain ⟨vN, wN, hr, ho, hgr, hbk⟩ := RUN.out; obtain ⟨gN, capN, rfl⟩ := Joins.ownsRow_form ho (by simp); refine Lib.wpList_append_run _ rfl (.tmp 130) (.tmp 135) 22 22 rfl _ _ rfl rfl _ _ hr ?_)
              have RO : Hid (WRow wN y2.heap.size (.slice (some ⟨gN, 0, none⟩) (((L.take k).filter (others who t)).length + 1) capN) ((L.take k).filter (others who t) ++ [⟨a0, a1, a2⟩])) := Lib.hid (by simpa [List.length_append] using ho)
              have hgb : ∀ g, u18.ownBlock = some g → y2.heap.size ≤ g := fun g e => (rA.out.lt g e).1
              have KN : Hid (Below y2.heap.size y2 wN) := Lib.hid ⟨hgr.os.trans kA.out.os, hgr.tape.trans kA.out.tape, hgr.output.trans kA.out.output, Nat.le_trans kA.out.size hgr.size, fun j hj => (hgr.block j (Nat.lt_of_lt_of_le hj kA.out.size) (fun e => by have := hgb j e.symm; omega)).trans (kA.out.block j hj)⟩
              clear hr ho hgr hbk RUN rA kA c0 c1' c2' hgb
              go_wp2_with fail
              go_roundw
              case measure => simp [intOf]; omega
              case rel => exact ⟨k + 1, by omega, rfl, by rw [HTK.out]; exact RO, KN⟩
        · obtain rfl : k = L.length := by omega
          rw [List.take_length] at rn
          have hwr := Below.heapAt kn.out HW2.out hGl
          have w0 := obj_cell hwr (k := 0) rfl
          have w1 := obj_cell hwr (k := 1) rfl
          have w2 := obj_cell hwr (k := 2) rfl
          have rA : Hid (WRow (wr.alloc (.cells #[.int .i64 who, .int .i64 t, .int .i64 lay] 33)) y2.heap.size u18 (L.filter (others who t))) := Lib.hid (wantRow_below rn.out ((Below.refl _ _).alloc (Nat.le_refl _) _))
          have kA : Hid (Below y2.heap.size y2 (wr.alloc (.cells #[.int .i64 who, .int .i64 t, .int .i64 lay] 33))) := Lib.hid (kn.out.alloc kn.out.size _)
          have hlen : (L.filter (others who t)).length ≤ L.length := List.length_filter_le _ _
          have RUN := Lib.hid (run_moreWant _ y2.heap.size u18 ⟨who, t, lay⟩ (L.filter (others who t)) rA.out wr.heap.size (obj_new _ _) (by omega) (by have := kn.out.size; simp; omega))
          clear rn kn hwr
          go_upto_region 26 with (at_builtin; obtain ⟨vN, wN, hr, ho, hgr, hbk⟩ := RUN.out; obtain ⟨gN, capN, rfl⟩ := Joins.ownsRow_form ho (by simp); refine Lib.wpList_append_run _ rfl (.tmp 137) (.tmp 139) 22 22 rfl _ _ rfl rfl _ _ hr ?_)
          have RO : Hid (WRow wN y2.heap.size (.slice (some ⟨gN, 0, none⟩) ((L.filter (others who t)).length + 1) capN) (L.filter (others who t) ++ [⟨who, t, lay⟩])) := Lib.hid (by simpa [List.length_append] using ho)
          have hgb : ∀ g, u18.ownBlock = some g → y2.heap.size ≤ g := fun g e => (rA.out.lt g e).1
          have KN : Hid (Below y2.heap.size y2 wN) := Lib.hid ⟨hgr.os.trans kA.out.os, hgr.tape.trans kA.out.tape, hgr.output.trans kA.out.output, Nat.le_trans kA.out.size hgr.size, fun j hj => (hgr.block j (Nat.lt_of_lt_of_le hj kA.out.size) (fun e => by have := hgb j e.symm; omega)).trans (kA.out.block j hj)⟩
          clear hr ho hgr hbk RUN rA kA hgb w0 w1 w2
          have hLe : (L.filter (others who t) ++ [(⟨who, t, lay⟩ : Wt)]).length = (L.filter (others who t)).length + 1 := by simp
          rw [← hLe] at RO ⊢
          have hLi : (L.filter (others who t) ++ [(⟨who, t, lay⟩ : Wt)]).length ≤ i + 1 := by omega
          generalize L.filter (others who t) ++ [(⟨who, t, lay⟩ : Wt)] = L' at *
          clear hLe hlen
          have hwr := Below.heapAt KN.out HW2.out hGl
          have w0 := obj_cell hwr (k := 0) rfl
          have w1 := obj_cell hwr (k := 1) rfl
          have w2 := obj_cell hwr (k := 2) rfl
          have P3 := Lib.hid (P2.out.below KN.out)
          go_wp2_with fail
          refine (pullNeed_any w.heap.size b 0 th mp _ _ _ _ t ⟨by have := HR.out.1.2.2.1; omega, by have := HR.out.1.2.2.2; omega⟩ (R2.out.bound t) wN P3.out).mono ?_
          rintro e w7 ⟨n, rfl, hn1, hn2, hn3, k7⟩
          have IS := Lib.hid (R2.out.is t n ⟨hn1, hn2, hn3⟩ who lay (by unfold wantF; rw [if_pos rfl, if_pos rfl]))
          have RO7 := Lib.hid (wantRow_below RO.out k7)
          have P7 := Lib.hid (P3.out.below k7)
          have KN7 := Lib.hid (KN.out.trans (k7.mono KN.out.size))
          clear RO P3 k7 KN hwr w0 w1 w2 P2 hn1 hn2 hn3
          obtain ⟨oa', cap', e', hrd'⟩ := wantRow_read RO7.out
          cases e'
          have HRD' := Lib.hid hrd'
          have B0 := Lib.hid (Below.refl w7.heap.size w7)
          have hG7 : G < w7.heap.size := by have := KN7.out.size; omega
          have HW7 := Lib.hid (Below.heapAt KN7.out HW2.out hGl)
          have HLM := Lib.hid (fun (x : Wt) (h : x ∈ L') (e : x.track = t) => IS.out.2 x h e)
          have HAN : Hid (L'.any (hit t n) = true) := Lib.hid (by
            obtain ⟨x, hx, h1, h2⟩ := IS.out.1
            exact List.any_eq_true.2 ⟨x, hx, by simp [hit, h1, h2]⟩)
          clear hrd' IS
          go_upto_region 29 with fail
          go_loopw [21, 22] (fun s21 s22 wr => ∃ k : Nat, k ≤ L'.length ∧ s22 = .int .i64 k ∧ s21 = .bool ((L'.take k).any (hit t n)) ∧ Hid (Below w7.heap.size w7 wr)) (fun _ s22 _ => L'.length - (intOf s22).toNat)
          case atStart => exact ⟨0, by omega, rfl, rfl, B0⟩
          case round =>
            clear B0
            obtain ⟨k, hk, rfl, rfl, kn⟩ := hrel
            by_cases hkl : k < L'.length
            · obtain ⟨g, e0, _, hgl, c0, c1', c2'⟩ := HRD'.out k L'[k] (by simp [hkl])
              cases e0
              rw [← kn.out.cell (p := ⟨gN, k * 3, none⟩) hgl] at c0
              rw [← kn.out.cell (p := ⟨gN, k * 3 + 1, none⟩) hgl] at c1'
              rw [← kn.out.cell (p := ⟨gN, k * 3 + 2, none⟩) hgl] at c2'
              have hwr := Below.heapAt kn.out HW7.out hG7
              have w1 := obj_cell hwr (k := 1) rfl
              have HT := Lib.hid (show (L'.take (k + 1)).any (hit t n) = ((L'.take k).any (hit t n) || hit t n L'[k]) from by rw [show L'.take (k + 1) = L'.take k ++ [L'[k]] from by rw [List.take_add_one]; simp [hkl], List.any_append]; simp)
              have HMX := Lib.hid (fun (e : L'[k].track = (t : Int)) => HLM.out L'[k] (List.getElem_mem hkl) e)
              obtain ⟨x', hx'⟩ : ∃ x', x' = L'[k] := ⟨_, rfl⟩
              rw [← hx'] at c0 c1' c2' HT HMX
              clear hx'
              obtain ⟨a0, a1, a2⟩ := x'
              dsimp only at c0 c1' c2' HMX
              obtain ⟨B, hB⟩ : ∃ B, B = (L'.take k).any (hit t n) := ⟨_, rfl⟩
              rw [← hB] at HT ⊢
              clear hB
              go_upto_region 31 with fail
              cases d1 : (a1 == (t : Int))
              · have HB := Lib.hid (show ((L'.take (k + 1)).any (hit t n)) = B from by rw [HT.out]; simp at d1; simp [hit, d1])
                go_quiet (fail)
                go_wp2_with fail
                go_roundw
                case measure => simp [intOf]; omega
                case rel => exact ⟨k + 1, by omega, rfl, by rw [HB.out], Lib.hid ⟨kn.out.os, kn.out.tape, kn.out.output, kn.out.size, kn.out.block⟩⟩
              · have ht1 : a1 = (t : Int) := by simpa using d1
                have hle := HMX.out ht1
                have HB := Lib.hid (show ((L'.take (k + 1)).any (hit t n)) = (B || (a2 == n)) from by rw [HT.out]; cases h : (a2 == n) <;> simp at h <;> simp [hit, ht1, h])
                have KW := Lib.hid (fun q => (⟨kn.out.os, kn.out.tape, kn.out.output, kn.out.size, kn.out.block⟩ : Below w7.heap.size w7 (wr.drewN q)))
                go_quiet (fail)
                have nle : ¬ n < a2 := by omega
                clear kn
                cases B
                · go_wp2_with fail
                  go_roundw
                  case measure => simp [intOf]; omega
                  case rel => exact ⟨k + 1, by omega, rfl, by rw [HB.out]; simp, Lib.hid (KW.out _)⟩
                · go_wp2_with fail
                  go_roundw
                  case measure => simp [intOf]; omega
                  case rel => exact ⟨k + 1, by omega, rfl, by rw [HB.out]; simp, Lib.hid (KW.out _)⟩
            · obtain rfl : k = L'.length := by omega
              rw [List.take_length, HAN.out]
              have RO9 := Lib.hid (World.ownsRow.mono (wantRow_below RO7.out kn.out) (show N ≤ y2.heap.size by omega))
              have P9 := Lib.hid (P7.out.below kn.out)
              have KB9 := Lib.hid (kb2.out.trans ((KN7.out.trans (kn.out.mono KN7.out.size)).mono kb2.out.size))
              have hs9 : N ≤ wr.heap.size := by have := kn.out.size; have := KN7.out.size; omega
              clear RO7 P7 kn
              go_wp2_with fail
              go_roundw
              case measure => simp [intOf]; omega
              case rel => exact ⟨i + 1, L', _, _, by omega, by omega, rfl, by omega, hC2, R2, RO9, P9, KB9, by omega⟩
    · have hlt' := Lib.hid hlt
      clear hlt
      go_upto_region 14 with fail
      go_cut [89] (fun v x => v = .bool false ∧ wr = x)
      case first =>
        go_wp2_with fail
        all_goals first
          | (exfalso; have := hlt'.out; omega)
          | (go_meet; exact ⟨rfl, rfl⟩)
          | (go_meet; exact ⟨by rw [decide_eq_false (by have := hlt'.out; omega)], rfl⟩)
      case rest =>
        obtain ⟨rfl, rfl⟩ := hcut
        obtain ⟨oaL, capL, rfl, -⟩ := wantRow_read ro.out
        go_upto_region 40 with fail
        go_loopw [23, 24, 25] (fun s23 s24 s25 wr => ∃ (k : Nat) (nw ls : Int) (A : Nat → Int), k ≤ 30 ∧ k ≤ n2 ∧ s23 = .int .i64 nw ∧ s24 = .int .i64 ls ∧ s25 = .int .i64 k ∧ 0 ≤ nw ∧ nw ≤ 10000 * k ∧ -1 ≤ ls ∧ ls ≤ nw ∧ Hid (∀ x, L[0]? = some x → A x.track.toNat = ls + 1) ∧ Hid (WRow wr N (.slice oaL L.length capL) L) ∧ Hid (Pul w.heap.size wr b nw th mp (fun _ => 0) A C F) ∧ Hid (Below w.heap.size w wr)) (fun _ _ s25 _ => 30 - (intOf s25).toNat)
        case atStart => exact ⟨0, 0, -1, fun _ => 0, by omega, by omega, rfl, rfl, rfl, by omega, by omega, by omega, by omega, Lib.hid (fun x _ => rfl), ro, P, kb⟩
        case round =>
          clear ro P kb
          obtain ⟨k, nw, ls, A, hk30, hkn, rfl, rfl, rfl, hn0, hn1, hl0, hl1, HA, ro, P, kb⟩ := hrel
          by_cases hgo : k < n2 ∧ k < 30 ∧ 0 < L.length
          · obtain ⟨hg1, hg2, hg3⟩ := hgo
            obtain ⟨b2, f2, rfl, hb2, q2, hz0, hz1⟩ := HZ2.out k hg1
            rw [← kb.out.cell (p := ⟨b2, f2 + k, none⟩) hb2] at q2
            generalize z2 k = z at *
            obtain ⟨oa', cap', e', hrd'⟩ := wantRow_read ro.out
            cases e'
            have hx : L[0]? = some L[0] := by simp [hg3]
            obtain ⟨gL, rfl, _, hgl, _, c1, _⟩ := hrd' 0 L[0] hx
            have OK := Lib.hid (R.out.ok L[0] (List.getElem_mem hg3))
            have IN := Lib.hid (R.out.into L[0] (List.getElem_mem hg3))
            have HA0 := HA.out L[0] hx
            obtain ⟨x0, hx0⟩ : ∃ x0, x0 = L[0] := ⟨_, rfl⟩
            rw [← hx0] at OK IN HA0 c1 hx
            clear hx0 hrd'
            obtain ⟨who0, tr0, lay0⟩ := x0
            have OK1 : 0 ≤ who0 ∧ who0 ≤ 200 ∧ 1 ≤ tr0 ∧ tr0 ≤ 8 := OK.out.1
            obtain ⟨_, _, ok1, ok2⟩ := OK1
            obtain ⟨t, rfl⟩ : ∃ t : Nat, tr0 = t := ⟨tr0.toNat, by omega⟩
            dsimp only at c1 IN HA0
            clear OK
            have c1' : wr.cell? ⟨gL, 1, none⟩ = some (.int .i64 t) := by simpa using c1
            clear c1
            have hg3' : (0 : Int) < (L.length : Int) := by omega
            by_cases hz : 0 ≤ z ∧ z ≤ 10000
            · obtain ⟨hz2, hz3⟩ := hz
              obtain ⟨nw', hnw⟩ : ∃ nw', nw + z = nw' := ⟨_, rfl⟩
              have W1 : IntKind.i64.wrap (nw + z) = nw' := by rw [IntKind.wrap_i64]; omega
              have W2 : IntKind.i64.wrap (nw' - ls) = nw' - ls := by rw [IntKind.wrap_i64]; omega
              have HD := Lib.hid (show Pl.askDue (A t) th nw' = (decide (ls < 0) || decide (th ≤ nw' - ls)) from by
                have e : A t = ls + 1 := HA0
                unfold Pl.askDue
                rw [e]
                by_cases d1 : ls < 0
                · have : ¬ 0 < ls + 1 := by omega
                  simp [d1, this]
                · have e2 : 0 < ls + 1 := by omega
                  by_cases d2 : th ≤ nw' - ls
                  · have e3 : ¬ nw' - (ls + 1 - 1) < th := by omega
                    simp [d1, d2, e2, e3]
                  · simp [d1, d2, e2]; omega)
              have CP : 0 < C t := by
                have hm := P.out.map t (by omega)
                exact pos_of_some hm plaw Try.underlying3 who0 (by rw [WF.isSome]; have := IN.out; rw [show ((t : Int)).toNat = t from by omega] at this; rw [this]; rfl)
              have AK := Lib.hid (pullAsk_ok w.heap.size b nw th mp _ A C F t ⟨by omega, by omega⟩ nw' ⟨by omega, by omega, by omega⟩ CP (by have := hC.out t; omega) ⟨by have : A t = ls + 1 := HA0; omega, by have : A t = ls + 1 := HA0; omega⟩ wr P.out)
              have KBr := Lib.hid kb.out
              have ROr := Lib.hid ro.out
              clear kb ro
              have HSET := Lib.hid (fun g (hg : N ≤ g) => (show ¬ (g = b ∨ ∃ j, j < 9 ∧ g = mp j) from fun e => by
                rcases e with rfl | ⟨j, hj, rfl⟩
                · have := HB.out; omega
                · have := HMP.out j hj; omega))
              by_cases d1 : ls < 0
              · have hD : Pl.askDue (A t) th nw' = true := by rw [HD.out]; simp [d1]
                rw [hD] at AK
                have hA := Lib.hid (askN_yes hD)
                clear hD
                go_wp2_with (go_at_call 8; refine AK.out.mono ?_; rintro e w9 ⟨rfl, PA, kA⟩)
                go_roundw
                case measure => simp [intOf]; omega
                case rel => exact ⟨k + 1, nw', nw', _, by omega, by omega, rfl, rfl, rfl, by omega, by omega, by omega, by omega, Lib.hid (fun x hx' => by
                    rw [hx] at hx'; cases hx'
                    rw [hA.out]
                    show (if ((t : Int)).toNat = t then nw' + 1 else A ((t : Int)).toNat) = nw' + 1; rw [if_pos (by omega)]), Lib.hid (wantRow_keep ROr.out (fun g _ hg hlt => kA.block g hlt (HSET.out g hg))), Lib.hid PA, Lib.hid (KBr.out.trans (kA.below P.out KBr.out.size))⟩
              · by_cases d2 : th ≤ nw' - ls
                · have hD : Pl.askDue (A t) th nw' = true := by rw [HD.out]; simp [d1, d2]
                  rw [hD] at AK
                  have hA := Lib.hid (askN_yes hD)
                  clear hD
                  go_wp2_with (go_at_call 8; refine AK.out.mono ?_; rintro e w9 ⟨rfl, PA, kA⟩)
                  go_roundw
                  case measure => simp [intOf]; omega
                  case rel => exact ⟨k + 1, nw', nw', _, by omega, by omega, rfl, rfl, rfl, by omega, by omega, by omega, by omega, Lib.hid (fun x hx' => by
                      rw [hx] at hx'; cases hx'
                      rw [hA.out]
                      show (if ((t : Int)).toNat = t then nw' + 1 else A ((t : Int)).toNat) = nw' + 1; rw [if_pos (by omega)]), Lib.hid (wantRow_keep ROr.out (fun g _ hg hlt => kA.block g hlt (HSET.out g hg))), Lib.hid PA, Lib.hid (KBr.out.trans (kA.below P.out KBr.out.size))⟩
                · have hD : Pl.askDue (A t) th nw' = false := by rw [HD.out]; simp [d1, d2]
                  rw [hD] at AK
                  have hA := Lib.hid (askN_no hD)
                  clear hD
                  go_wp2_with (go_at_call 8; refine AK.out.mono ?_; rintro e w9 ⟨rfl, PA, kA⟩)
                  go_roundw
                  case measure => simp [intOf]; omega
                  case rel => exact ⟨k + 1, nw', ls, _, by omega, by omega, rfl, rfl, rfl, by omega, by omega, by omega, by omega, Lib.hid (fun x hx' => by
                      rw [hx] at hx'; cases hx'
                      rw [hA.out]
                      exact HA0), Lib.hid (wantRow_keep ROr.out (fun g _ hg hlt => kA.block g hlt (HSET.out g hg))), Lib.hid PA, Lib.hid (KBr.out.trans (kA.below P.out KBr.out.size))⟩
            · have hz' := Lib.hid hz
              clear hz
              go_wp2_with fail
              all_goals first
                | (exfalso; have := hz'.out; omega)
                | skip
              all_goals
                go_roundw
                case measure => simp [intOf]; omega
                case rel => exact ⟨k + 1, nw, ls, A, by omega, by omega, rfl, rfl, rfl, by omega, by omega, by omega, by omega, HA, ro, P, kb⟩
          · have hgo' := Lib.hid hgo
            clear hgo
            go_wp2_with fail
            all_goals first
              | (exfalso; have := hgo'.out; omega)
              | (go_ret; exact ⟨rfl, kb.out⟩)
end Go.Proofs.Ythgdkakkbaoccaa
