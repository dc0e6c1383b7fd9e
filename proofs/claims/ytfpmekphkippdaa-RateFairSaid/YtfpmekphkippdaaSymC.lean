import Derived.Test.YtfpmekphkippdaaSymM
/-! slices.symMergeCmpFunc: two rows. -/
namespace Go.Proofs.Ytfpmekphkippdaa
open Go.RowKit Go.Sort
set_option linter.unusedVariables false
set_option linter.unusedSimpArgs false
set_option linter.unusedSectionVars false
variable {α : Type} [Inhabited α]
/-- the first numbers of the search -/
def symS (a m b : Nat) : Nat := if (a + b) / 2 < m then (a + b) / 2 + m - b else a
def symR (a m b : Nat) : Nat := if (a + b) / 2 < m then (a + b) / 2 else m
theorem sym_bounds {a m b : Nat} (h1 : a < m) (h2 : m < b) : a ≤ symS a m b ∧ symS a m b ≤ symR a m b ∧ symR a m b ≤ m ∧ symR a m b ≤ (a + b) / 2 ∧ (a + b) / 2 + m - symS a m b ≤ b ∧ m ≤ (a + b) / 2 + m - symR a m b := by
  unfold symS symR
  split <;> omega
theorem sym_low {a m b s : Nat} (h1 : a < m) (h2 : m < b) (hs : s = symS a m b) : s = a ∨ (a + b) / 2 + m - s = b := by
  unfold symS at hs
  split at hs <;> omega
theorem sym_high {a m b s : Nat} (h1 : a < m) (h2 : m < b) (hs : s = symR a m b) : s = m ∨ (a + b) / 2 + m - s = m := by
  unfold symR at hs
  split at hs <;> omega
theorem row_next {f : α → Int} {w wr : World} {blk off q : Nat} {D : Array α} (hw : wr = (putRow (encF f) w blk off D).drewN q) (X : Array α) (q2 : Nat) (hX : X.size = D.size) : (putRow (encF f) wr blk off X).drewN q2 = (putRow (encF f) w blk off X).drewN (q + q2) := by
  rw [hw]; exact row_row f w blk off q q2 D X hX
set_option maxHeartbeats 8000000 in
set_option maxRecDepth 1000000 in
theorem symMerge_c (f key : α → Int) (B blk off cap a m b : Nat) (d : Array α) (w : World) (hH : Holds (encF f) w blk off d) (hC : CmpAt f key B blk off d.size w) (ham : a + 1 < m) (hmb : m + 1 < b) (hb : b ≤ d.size) (hsz : d.size ≤ 1000000) (hs1 : SortedIn (ltK key) a m d) (hs2 : SortedIn (ltK key) m b d)
    (IH : ∀ (a' m' b' : Nat) (d' : Array α) (w' : World), b' - a' < b - a → a' < m' → m' < b' → b' ≤ d'.size → d'.size = d.size → Holds (encF f) w' blk off d' → CmpAt f key B blk off d'.size w' → SortedIn (ltK key) a' m' d' → SortedIn (ltK key) m' b' d' →
      Calls Try.prog 15 #[.slice (some ⟨blk, off, none⟩) d'.size cap, .int .i64 a', .int .i64 m', .int .i64 b', .func (.func 8) #[] #[.pointer (some ⟨B, 0, none⟩)]] w' (SymE f key blk off a' b' d' w')) :
    Calls Try.prog 15 #[.slice (some ⟨blk, off, none⟩) d.size cap, .int .i64 a, .int .i64 m, .int .i64 b, .func (.func 8) #[] #[.pointer (some ⟨B, 0, none⟩)]] w (SymE f key blk off a b d w) := by
  have HST := Lib.hid (show w = (putRow (encF f) w blk off d).drewN 0 from (putRow_self (encF f) w blk off d hH).symm)
  have HH := Lib.hid hH
  have HC := Lib.hid hC
  have HS1 := Lib.hid hs1
  have HS2 := Lib.hid hs2
  have HI := Lib.hid IH
  have HB := Lib.hid (show a + 1 < m ∧ m + 1 < b ∧ b ≤ d.size ∧ d.size ≤ 1000000 from ⟨ham, hmb, hb, hsz⟩)
  have w1 : IntKind.i64.wrap ((m : Int) - (a : Int)) = ((m - a : Nat) : Int) := by rw [IntKind.wrap_i64]; omega
  have w2 : IntKind.i64.wrap ((b : Int) - (m : Int)) = ((b - m : Nat) : Int) := by rw [IntKind.wrap_i64]; omega
  obtain ⟨ma, hma⟩ : ∃ ma, m - a = ma := ⟨_, rfl⟩
  obtain ⟨bm, hbm⟩ : ∃ bm, b - m = bm := ⟨_, rfl⟩
  rw [hma] at w1
  rw [hbm] at w2
  have e0 : ((ma : Int) == 1) = false := beq_eq_false_iff_ne.2 (by omega)
  have e1 : ((bm : Int) == 1) = false := beq_eq_false_iff_ne.2 (by omega)
  obtain ⟨mid, hmid⟩ : ∃ mid, (a + b) / 2 = mid := ⟨_, rfl⟩
  have hmd : ((a : Int) + (b : Int)) / 2 = (mid : Int) := by omega
  obtain ⟨n, hn⟩ : ∃ n, mid + m = n := ⟨_, rfl⟩
  have w3 : IntKind.i64.wrap ((mid : Int) + (m : Int)) = (n : Int) := by rw [IntKind.wrap_i64]; omega
  have hab6 : a + b ≤ 2000000 := by omega
  have W4 := Lib.hid (show mid < m → IntKind.i64.wrap ((n : Int) - (b : Int)) = ((n - b : Nat) : Int) from fun h => by rw [IntKind.wrap_i64]; omega)
  have HX1 := Lib.hid (show ∀ k k', a ≤ k → k ≤ k' → k' < m → key d[k]! ≤ key d[k']! from fun k k' p1 p2 p3 => by
    rcases Nat.lt_or_ge k k' with h | h
    · have := hs1 k k' p1 h p3
      simp only [ltK, decide_eq_false_iff_not] at this
      omega
    · obtain rfl : k = k' := by omega
      exact Int.le_refl _)
  have HX2 := Lib.hid (show ∀ k k', m ≤ k → k ≤ k' → k' < b → key d[k]! ≤ key d[k']! from fun k k' p1 p2 p3 => by
    rcases Nat.lt_or_ge k k' with h | h
    · have := hs2 k k' p1 h p3
      simp only [ltK, decide_eq_false_iff_not] at this
      omega
    · obtain rfl : k = k' := by omega
      exact Int.le_refl _)
  have HMID := Lib.hid hmid
  have HN := Lib.hid hn
  have SB := Lib.hid (sym_bounds (a := a) (m := m) (b := b) (by omega) (by omega))
  have S1 := Lib.hid (show mid < m → n - b = symS a m b ∧ mid = symR a m b from fun h => by unfold symS symR; rw [hmid, hn, if_pos h, if_pos h]; exact ⟨rfl, rfl⟩)
  have S2 := Lib.hid (show ¬ mid < m → a = symS a m b ∧ m = symR a m b from fun h => by unfold symS symR; rw [hmid, if_neg h, if_neg h]; exact ⟨rfl, rfl⟩)
  obtain ⟨s0, hs0⟩ : ∃ s0, symS a m b = s0 := ⟨_, rfl⟩
  obtain ⟨r0, hr0⟩ : ∃ r0, symR a m b = r0 := ⟨_, rfl⟩
  rw [hs0, hr0] at S1 S2 SB
  rw [hmid, hn] at SB
  have LO := Lib.hid (sym_low (a := a) (m := m) (b := b) (s := s0) (by omega) (by omega) hs0.symm)
  have HI0 := Lib.hid (sym_high (a := a) (m := m) (b := b) (s := r0) (by omega) (by omega) hr0.symm)
  rw [hmid, hn] at LO HI0
  clear hH hC hs1 hs2 IH hma hbm hmid hn hs0 hr0
  go_enter Try.func15, Try.ntmps15
  go_upto_region 25 with fail
  try rw [hmd]
  clear hmd w1 w2 e0 e1
  go_upto_if 140 with fail
  go_cut [20, 21] from 138 to 146 (fun s20 s21 z => s20 = .int .i64 s0 ∧ s21 = .int .i64 r0 ∧ Hid (z = (putRow (encF f) w blk off d).drewN 0))
  case first =>
    as_aux_lemma =>
    by_cases hc : mid < m
    · have e1 : (mid : Int) < (m : Int) := by omega
      have w4 := W4.out hc
      rw [(S1.out hc).1] at w4
      have E2 := Lib.hid (S1.out hc).2
      go_wp2_with fail
      go_meet
      exact ⟨rfl, by rw [E2.out], HST⟩
    · have e1 : ¬ (mid : Int) < (m : Int) := by omega
      have E2 := Lib.hid (S2.out hc)
      go_wp2_with fail
      go_meet
      exact ⟨by rw [E2.out.1], by rw [E2.out.2], HST⟩
  obtain ⟨rfl, rfl, HW0⟩ := hcut
  obtain ⟨p, hp⟩ : ∃ p, n = p + 1 := ⟨n - 1, by have := HN.out; omega⟩
  have w5 : IntKind.i64.wrap ((n : Int) - 1) = (p : Int) := by have := HN.out; have := HMID.out; rw [IntKind.wrap_i64]; omega
  have HP := Lib.hid hp
  clear hp
  go_upto_region 33 with fail
  clear w5
  go_loopw [20, 21] (fun s20 s21 wr => ∃ s r q : Nat, s20 = .int .i64 s ∧ s21 = .int .i64 r ∧ s0 ≤ s ∧ s ≤ r ∧ r ≤ r0 ∧ Hid (wr = (putRow (encF f) w blk off d).drewN q) ∧ Hid (∀ c, s0 ≤ c → c < s → key d[c]! ≤ key d[p - c]!) ∧ Hid (∀ c, r ≤ c → c < r0 → key d[p - c]! < key d[c]!)) (fun s20 s21 _ => (intOf s21).toNat - (intOf s20).toNat)
  case atStart => exact ⟨s0, r0, 0, rfl, rfl, Nat.le_refl _, SB.out.2.1, Nat.le_refl _, HW0, Lib.hid (fun k h1 h2 => by omega), Lib.hid (fun k h1 h2 => by omega)⟩
  case round =>
    as_aux_lemma =>
    clear HW0
    obtain ⟨s, r, q, rfl, rfl, hs, hsr, hr, HW, H1, H2⟩ := hrel
    have hpn := HP.out
    have hsb := SB.out
    have hN := HN.out
    have hmidd := HMID.out
    have PC := Lib.hid (show ∀ c, s0 ≤ c → c < r0 → m ≤ p - c ∧ p - c < b ∧ a ≤ c ∧ c < m ∧ c ≤ p from fun c q1 q2 => by omega)
    by_cases hlt : s < r
    · have e1 : (s : Int) < (r : Int) := by omega
      obtain ⟨c, hc⟩ : ∃ c, (s + r) / 2 = c := ⟨_, rfl⟩
      have hcm : ((s : Int) + (r : Int)) / 2 = (c : Int) := by omega
      have hb6 : s + r ≤ 2000000 := by omega
      obtain ⟨q1, q2, q3, q4, q5⟩ := PC.out c (by omega) (by omega)
      obtain ⟨u, hu⟩ : ∃ u, p - c = u := ⟨_, rfl⟩
      rw [hu] at q1 q2
      have w6 : IntKind.i64.wrap ((p : Int) - (c : Int)) = (u : Int) := by rw [IntKind.wrap_i64]; omega
      have hhd := Holds.row HH.out rfl HW.out
      obtain ⟨c1, f1⟩ := hhd c (by omega)
      obtain ⟨c2, f2⟩ := hhd u (by omega)
      have CC := Lib.hid (fun mm => HC.out.call rfl HW.out d[u]! d[c]! mm)
      have h0 : (0 : Int) ≤ (c : Int) := by omega
      have h1 : (c : Int) < (d.size : Int) := by omega
      have h2 : (0 : Int) ≤ (u : Int) := by omega
      have h3 : (u : Int) < (d.size : Int) := by omega
      go_upto_region 35 with fail
      try rw [hcm]
      clear hcm hhd
      have NXT := Lib.hid (show ∀ nn, wr.drewN nn = (putRow (encF f) w blk off d).drewN (q + nn) from fun nn => by rw [HW.out, World.drewN_drewN])
      by_cases hl : key d[u]! - key d[c]! < 0
      · have N1 := Lib.hid (show ∀ k, c ≤ k → k < r0 → key d[p - k]! < key d[k]! from fun k p1 p2 => by
          have t1 := HX1.out c k q3 p1 (by have := PC.out k (by omega) p2; omega)
          have t2 := HX2.out (p - k) (p - c) (by have := PC.out k (by omega) p2; omega) (by omega) (by omega)
          rw [hu] at t2
          omega)
        have hh1 : c < r := by omega
        have hh2 : s ≤ c := by omega
        clear H2 hc hu HW PC q1 q2 q3 q4 q5
        go_quiet ((go_at_call 8; exact Calls.quiet_of (CC.out _)))
        go_wp2_with fail
        go_roundw
        case measure => simp only [intOf]; omega
        case rel => exact ⟨s, c, _, rfl, rfl, hs, hh2, by omega, Lib.hid (NXT.out _), H1, N1⟩
      · have N1 := Lib.hid (show ∀ k, s0 ≤ k → k < c + 1 → key d[k]! ≤ key d[p - k]! from fun k p1 p2 => by
          have t1 := HX1.out k c (by have := PC.out k p1 (by omega); omega) (by omega) q4
          have t2 := HX2.out (p - c) (p - k) (by omega) (by omega) (by have := PC.out k p1 (by omega); omega)
          rw [hu] at t2
          omega)
        have wh : IntKind.i64.wrap ((c : Int) + 1) = ((c + 1 : Nat) : Int) := by rw [IntKind.wrap_i64]; omega
        have hh1 : c + 1 ≤ r := by omega
        have hh2 : s ≤ c := by omega
        clear H1 hc hu HW PC q1 q2 q3 q4 q5
        go_quiet ((go_at_call 8; exact Calls.quiet_of (CC.out _)))
        go_wp2_with fail
        go_roundw
        case measure => simp only [intOf]; omega
        case rel => exact ⟨c + 1, r, _, by simp, rfl, by omega, hh1, hr, Lib.hid (NXT.out _), N1, H2⟩
    · obtain rfl : s = r := by omega
      have e1 : ¬ (s : Int) < (s : Int) := by omega
      obtain ⟨e, he⟩ : ∃ e, n - s = e := ⟨_, rfl⟩
      have w6 : IntKind.i64.wrap ((n : Int) - (s : Int)) = (e : Int) := by rw [IntKind.wrap_i64]; omega
      have hA : a < s → e < b → ltK key d[e]! d[s - 1]! = false := fun p1 p2 => by
        have := LO.out
        have t := H1.out (s - 1) (by omega) (by omega)
        rw [show p - (s - 1) = e by omega] at t
        simp only [ltK, decide_eq_false_iff_not]; omega
      have hB : m < e → s < m → ltK key d[e - 1]! d[s]! = true := fun p1 p2 => by
        have := HI0.out
        have t := H2.out s (Nat.le_refl _) (by omega)
        rw [show p - s = e - 1 by omega] at t
        simp only [ltK, decide_eq_true_eq]; omega
      have BD := Lib.hid (show a ≤ s ∧ s ≤ m ∧ m ≤ e ∧ e ≤ b ∧ s + (e - m) = mid ∧ s ≤ mid ∧ mid ≤ e ∧ a < mid ∧ mid < b from by have := HB.out; omega)
      have ROT := Lib.hid (show ∀ D : Array α, Rot s m e d D → SortedIn (ltK key) a s D ∧ SortedIn (ltK key) s mid D ∧ SortedIn (ltK key) mid e D ∧ SortedIn (ltK key) e b D ∧ ∀ i j, a ≤ i → i < mid → mid ≤ j → j < b → ltK key D[j]! D[i]! = false from fun D hD => by
        have bd := BD.out
        have := sym_rot (ltK_swo key) bd.1 bd.2.1 bd.2.2.1 bd.2.2.2.1 HB.out.2.2.1 HS1.out HS2.out hA hB hD
        rw [bd.2.2.2.2.1] at this
        exact this)
      clear H1 H2 hA hB PC hsr hlt hs hr he hpn hsb hN hmidd S1 S2 W4 LO HI0 HX1 HX2 HS1 HS2 HP HN SB
      go_upto_region 39 with fail
      clear w6 e1
      go_cut [185] from 178 to 184 (fun sc z => sc = .bool (decide (s < m ∧ m < e)) ∧ Hid (z = (putRow (encF f) w blk off d).drewN q))
      case first =>
        as_aux_lemma =>
        by_cases h1 : s < m
        · have e1 : (s : Int) < (m : Int) := by omega
          by_cases h2 : m < e
          · have e2 : (m : Int) < (e : Int) := by omega
            go_wp2_with fail
            go_meet
            exact ⟨by rw [decide_eq_true (show s < m ∧ m < e from ⟨h1, h2⟩)], HW⟩
          · have e2 : ¬ (m : Int) < (e : Int) := by omega
            go_wp2_with fail
            go_meet
            exact ⟨by rw [decide_eq_false (show ¬ (s < m ∧ m < e) from fun h => h2 h.2)], HW⟩
        · have e1 : ¬ (s : Int) < (m : Int) := by omega
          go_wp2_with fail
          go_meet
          exact ⟨by rw [decide_eq_false (show ¬ (s < m ∧ m < e) from fun h => h1 h.1)], HW⟩
      clear HW
      obtain ⟨rfl, HW⟩ := hcut
      go_upto_if 185 with fail
      go_cut [] from 178 to 191 (fun z => ∃ (D : Array α) (q : Nat), Hid (z = (putRow (encF f) w blk off D).drewN q) ∧ Hid (Rot s m e d D) ∧ Hid (PermIn a b d D))
      case first =>
        as_aux_lemma =>
        have bd := BD.out
        by_cases hc : s < m ∧ m < e
        · have dc : decide (s < m ∧ m < e) = true := decide_eq_true hc
          have RT := Lib.hid (rotate_any f blk off cap s m e d _ (.func (.func 8) #[] #[.pointer (some ⟨B, 0, none⟩)]) (Holds.row HH.out rfl HW.out) hc.1 hc.2 (by have := HB.out; omega) HB.out.2.2.2)
          have NX := Lib.hid (fun (X : Array α) (q2 : Nat) (hX : X.size = d.size) => row_next HW.out X q2 hX)
          have hb := HB.out
          clear HW
          go_wp2_with (go_at_call 16; (with_reducible refine RT.out.mono ?_); rintro x z ⟨rfl, D, q2, rfl, r1, r2⟩)
          go_meet
          exact ⟨D, q + q2, Lib.hid (NX.out D q2 r2.1), Lib.hid r1, Lib.hid (permIn_mono _ _ _ _ _ _ bd.1 bd.2.2.2.1 hb.2.2.1 r2)⟩
        · have hR : Rot s m e d d := by
            rcases Nat.lt_or_ge s m with h | h
            · have : e = m := by omega
              subst this
              exact Rot.none' _ _ _ bd.2.1
            · have : s = m := by omega
              subst this
              exact Rot.none _ _ _ bd.2.2.1
          have dc : decide (s < m ∧ m < e) = false := decide_eq_false hc
          go_wp2_with fail
          go_meet
          exact ⟨d, q, HW, Lib.hid hR, Lib.hid (permIn_refl _ _ _)⟩
      obtain ⟨D, q1, HW1, RD, PD⟩ := hcut
      clear HW
      have RO := Lib.hid (ROT.out D RD.out)
      clear ROT RD
      go_upto_region 41 with fail
      go_cut [199] from 192 to 198 (fun sc z => sc = .bool (decide (a < s ∧ s < mid)) ∧ Hid (z = (putRow (encF f) w blk off D).drewN q1))
      case first =>
        as_aux_lemma =>
        by_cases h1 : a < s
        · have e1 : (a : Int) < (s : Int) := by omega
          by_cases h2 : s < mid
          · have e2 : (s : Int) < (mid : Int) := by omega
            go_wp2_with fail
            go_meet
            exact ⟨by rw [decide_eq_true (show a < s ∧ s < mid from ⟨h1, h2⟩)], HW1⟩
          · have e2 : ¬ (s : Int) < (mid : Int) := by omega
            go_wp2_with fail
            go_meet
            exact ⟨by rw [decide_eq_false (show ¬ (a < s ∧ s < mid) from fun h => h2 h.2)], HW1⟩
        · have e1 : ¬ (a : Int) < (s : Int) := by omega
          go_wp2_with fail
          go_meet
          exact ⟨by rw [decide_eq_false (show ¬ (a < s ∧ s < mid) from fun h => h1 h.1)], HW1⟩
      clear HW1
      obtain ⟨rfl, HW1⟩ := hcut
      go_upto_if 199 with fail
      go_cut [] from 192 to 205 (fun z => ∃ (D1 : Array α) (q : Nat), Hid (z = (putRow (encF f) w blk off D1).drewN q) ∧ Hid (Mg (ltK key) a mid D D1))
      case first =>
        as_aux_lemma =>
        have bd := BD.out
        have hb := HB.out
        have hDs : D.size = d.size := PD.out.1
        by_cases hc : a < s ∧ s < mid
        · have dc : decide (a < s ∧ s < mid) = true := decide_eq_true hc
          have RT := Lib.hid (HI.out a s mid D _ (by omega) hc.1 hc.2 (by omega) hDs (Holds.row HH.out hDs HW1.out) (by rw [HW1.out, hDs]; exact HC.out.row D hDs q1) RO.out.1 RO.out.2.1)
          rw [hDs] at RT
          have NX := Lib.hid (fun (X : Array α) (q2 : Nat) (hX : X.size = D.size) => row_next HW1.out X q2 hX)
          clear HW1
          go_wp2_with (go_at_call 15; (with_reducible refine RT.out.mono ?_); rintro x z ⟨rfl, D1, q2, rfl, r1⟩)
          go_meet
          exact ⟨D1, q1 + q2, Lib.hid (NX.out D1 q2 r1.perm.1), Lib.hid r1⟩
        · have hM : Mg (ltK key) a mid D D := ⟨permIn_refl _ _ _, by
            rcases Nat.lt_or_ge a s with h | h
            · have : s = mid := by omega
              rw [← this]; exact RO.out.1
            · have : a = s := by omega
              rw [this]; exact RO.out.2.1⟩
          have dc : decide (a < s ∧ s < mid) = false := decide_eq_false hc
          go_wp2_with fail
          go_meet
          exact ⟨D, q1, HW1, Lib.hid hM⟩
      obtain ⟨D1, q2, HW2, M1⟩ := hcut
      clear HW1
      go_upto_region 43 with fail
      go_cut [213] from 206 to 212 (fun sc z => sc = .bool (decide (mid < e ∧ e < b)) ∧ Hid (z = (putRow (encF f) w blk off D1).drewN q2))
      case first =>
        as_aux_lemma =>
        by_cases h1 : mid < e
        · have e1 : (mid : Int) < (e : Int) := by omega
          by_cases h2 : e < b
          · have e2 : (e : Int) < (b : Int) := by omega
            go_wp2_with fail
            go_meet
            exact ⟨by rw [decide_eq_true (show mid < e ∧ e < b from ⟨h1, h2⟩)], HW2⟩
          · have e2 : ¬ (e : Int) < (b : Int) := by omega
            go_wp2_with fail
            go_meet
            exact ⟨by rw [decide_eq_false (show ¬ (mid < e ∧ e < b) from fun h => h2 h.2)], HW2⟩
        · have e1 : ¬ (mid : Int) < (e : Int) := by omega
          go_wp2_with fail
          go_meet
          exact ⟨by rw [decide_eq_false (show ¬ (mid < e ∧ e < b) from fun h => h1 h.1)], HW2⟩
      clear HW2
      obtain ⟨rfl, HW2⟩ := hcut
      go_upto_if 213 with fail
      have hDs : D.size = d.size := PD.out.1
      have hD1 : D1.size = d.size := M1.out.perm.1.trans hDs
      have bd := BD.out
      have hb := HB.out
      have FIN := Lib.hid (show ∀ D2 : Array α, Mg (ltK key) mid b D1 D2 → Mg (ltK key) a b d D2 from fun D2 h => by
        have j := merge_join (by omega) (by omega) (by omega) (by rw [hD1, hDs]) RO.out.2.2.2.2 M1.out h
        exact ⟨permIn_trans _ _ _ _ _ PD.out j.perm, j.sort⟩)
      have S3 : SortedIn (ltK key) mid e D1 := fun x y h1 h2 h3 => by
        rw [M1.out.perm.2.1 x (by omega), M1.out.perm.2.1 y (by omega)]; exact RO.out.2.2.1 x y h1 h2 h3
      have S4 : SortedIn (ltK key) e b D1 := fun x y h1 h2 h3 => by
        rw [M1.out.perm.2.1 x (by omega), M1.out.perm.2.1 y (by omega)]; exact RO.out.2.2.2.1 x y h1 h2 h3
      by_cases hc : mid < e ∧ e < b
      · have dc : decide (mid < e ∧ e < b) = true := decide_eq_true hc
        have RT := Lib.hid (HI.out mid e b D1 _ (by omega) hc.1 hc.2 (by omega) hD1 (Holds.row HH.out hD1 HW2.out) (by rw [HW2.out, hD1]; exact HC.out.row D1 hD1 q2) S3 S4)
        rw [hD1] at RT
        have NX := Lib.hid (fun (X : Array α) (q3 : Nat) (hX : X.size = D1.size) => row_next HW2.out X q3 hX)
        clear HW2 S3 S4
        go_wp2_with (go_at_call 15; (with_reducible refine RT.out.mono ?_); rintro x z ⟨rfl, D2, q3, rfl, r1⟩)
        go_end0
        exact ⟨rfl, D2, q2 + q3, NX.out D2 q3 r1.perm.1, FIN.out D2 r1⟩
      · have hM : Mg (ltK key) mid b D1 D1 := ⟨permIn_refl _ _ _, by
          rcases Nat.lt_or_ge mid e with h | h
          · have : e = b := by omega
            rw [← this]; exact S3
          · have : mid = e := by omega
            rw [this]; exact S4⟩
        clear S3 S4
        have dc : decide (mid < e ∧ e < b) = false := decide_eq_false hc
        go_wp2_with fail
        go_end0
        exact ⟨rfl, D1, q2, HW2.out, FIN.out D1 hM⟩
end Go.Proofs.Ytfpmekphkippdaa
