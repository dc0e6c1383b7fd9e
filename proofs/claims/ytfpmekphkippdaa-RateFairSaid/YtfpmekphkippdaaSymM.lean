import Derived.Test.YtfpmekphkippdaaSwapR
/-! slices.symMergeCmpFunc where one row holds one. -/
namespace Go.Proofs.Ytfpmekphkippdaa
open Go.RowKit Go.Sort
set_option linter.unusedVariables false
set_option linter.unusedSimpArgs false
set_option linter.unusedSectionVars false
variable {α : Type} [Inhabited α]
def ltK (key : α → Int) : α → α → Bool := fun x y => decide (key x < key y)
theorem ltK_swo (key : α → Int) : SWO (ltK key) where
  irrefl := fun x => by simp [ltK]
  trans := fun x y z h1 h2 => by simp only [ltK, decide_eq_true_eq] at *; omega
  ntrans := fun x y z h1 h2 => by simp only [ltK, decide_eq_false_iff_not] at *; omega
/-- how rate.Fair's closure compares, whatever the row holds -/
def CmpAt (f key : α → Int) (B blk off n : Nat) (w : World) : Prop := ∀ (X : Array α) (x y : α), X.size = n → ∀ m : Nat,
  Calls Try.prog 8 #[.int .i64 (f x), .int .i64 (f y), .pointer (some ⟨B, 0, none⟩)] ((putRow (encF f) w blk off X).drewN m) fun e w' => e = .returned (.int .i64 (key x - key y)) ∧ ∃ q, w' = ((putRow (encF f) w blk off X).drewN m).drewN q
theorem row_row (f : α → Int) (w : World) (blk off q m : Nat) (D X : Array α) (h : X.size = D.size) : (putRow (encF f) ((putRow (encF f) w blk off D).drewN q) blk off X).drewN m = (putRow (encF f) w blk off X).drewN (q + m) := by
  show ((putRow (encF f) (putRow (encF f) w blk off D) blk off X).drewN q).drewN m = _
  rw [putRow_putRow _ _ _ _ _ _ h, World.drewN_drewN]
theorem CmpAt.row {f key : α → Int} {B blk off n : Nat} {w : World} (h : CmpAt f key B blk off n w) (D : Array α) (hD : D.size = n) (q : Nat) : CmpAt f key B blk off n ((putRow (encF f) w blk off D).drewN q) := fun X x y hX m => by
  have := h X x y hX (q + m)
  rw [← row_row f w blk off q m D X (by rw [hX, hD])] at this
  exact this
theorem CmpAt.call {f key : α → Int} {B blk off n : Nat} {w wr : World} (h : CmpAt f key B blk off n w) {D : Array α} (hD : D.size = n) {q : Nat} (hw : wr = (putRow (encF f) w blk off D).drewN q) (x y : α) (m : Nat) :
    Calls Try.prog 8 #[.int .i64 (f x), .int .i64 (f y), .pointer (some ⟨B, 0, none⟩)] (wr.drewN m) fun e w' => e = .returned (.int .i64 (key x - key y)) ∧ ∃ q, w' = (wr.drewN m).drewN q := by
  have := h D x y hD (q + m)
  rw [← World.drewN_drewN, ← hw] at this
  exact this
theorem Holds.row {f : α → Int} {w wr : World} {blk off q : Nat} {d D : Array α} (h : Holds (encF f) w blk off d) (hD : D.size = d.size) (hw : wr = (putRow (encF f) w blk off D).drewN q) : Holds (encF f) wr blk off D := by
  have := holds_putRow (encF f) w blk off d D h hD
  rw [hw]; exact this
def SymE (f key : α → Int) (blk off a b : Nat) (d : Array α) (w : World) (e : Ending) (w' : World) : Prop := e = .returned (.tuple #[]) ∧ ∃ (D : Array α) (q : Nat), w' = (putRow (encF f) w blk off D).drewN q ∧ Mg (ltK key) a b d D
set_option maxHeartbeats 8000000 in
set_option maxRecDepth 1000000 in
theorem symMerge_a (f key : α → Int) (B blk off cap a m b : Nat) (d : Array α) (w : World) (hH : Holds (encF f) w blk off d) (hC : CmpAt f key B blk off d.size w) (hm : a + 1 = m) (hmb : m < b) (hb : b ≤ d.size) (hsz : d.size ≤ 1000000) (hs : SortedIn (ltK key) m b d) :
    Calls Try.prog 15 #[.slice (some ⟨blk, off, none⟩) d.size cap, .int .i64 a, .int .i64 m, .int .i64 b, .func (.func 8) #[] #[.pointer (some ⟨B, 0, none⟩)]] w (SymE f key blk off a b d w) := by
  have HST := Lib.hid (show w = (putRow (encF f) w blk off d).drewN 0 from (putRow_self (encF f) w blk off d hH).symm)
  have HH := Lib.hid hH
  have HC := Lib.hid hC
  have HS := Lib.hid hs
  have HM := Lib.hid hm
  have w1 : IntKind.i64.wrap ((m : Int) - (a : Int)) = 1 := by rw [IntKind.wrap_i64]; omega
  have a0 : (0 : Int) ≤ (a : Int) := by omega
  have a1 : (a : Int) < (d.size : Int) := by omega
  clear hH hC hs hm
  go_enter Try.func15, Try.ntmps15
  go_upto_region 3 with fail
  clear w1
  go_loopw [10, 11] (fun s10 s11 wr => ∃ i j q : Nat, s10 = .int .i64 i ∧ s11 = .int .i64 j ∧ m ≤ i ∧ i ≤ j ∧ j ≤ b ∧ Hid (wr = (putRow (encF f) w blk off d).drewN q) ∧ Hid (∀ k, m ≤ k → k < i → ltK key d[k]! d[a]! = true) ∧ Hid (∀ k, j ≤ k → k < b → ltK key d[k]! d[a]! = false)) (fun s10 s11 _ => (intOf s11).toNat - (intOf s10).toNat)
  case atStart => exact ⟨m, b, 0, rfl, rfl, Nat.le_refl _, by omega, Nat.le_refl _, HST, Lib.hid (fun k h1 h2 => by omega), Lib.hid (fun k h1 h2 => by omega)⟩
  case round =>
    obtain ⟨i, j, q, rfl, rfl, hi, hij, hj, HW, H1, H2⟩ := hrel
    by_cases hlt : i < j
    · have e1 : (i : Int) < (j : Int) := by omega
      obtain ⟨h, hh⟩ : ∃ h, (i + j) / 2 = h := ⟨_, rfl⟩
      have hmid : ((i : Int) + (j : Int)) / 2 = (h : Int) := by omega
      have hb6 : i + j ≤ 2000000 := by omega
      have hhd := Holds.row HH.out rfl HW.out
      obtain ⟨c1, f1⟩ := hhd h (by omega)
      obtain ⟨c2, f2⟩ := hhd a (by omega)
      have CC := Lib.hid (fun mm => HC.out.call rfl HW.out d[h]! d[a]! mm)
      have h0 : (0 : Int) ≤ (h : Int) := by omega
      have h1 : (h : Int) < (d.size : Int) := by omega
      have HX := Lib.hid (show ∀ k, m ≤ k → k < b → ∀ k', k ≤ k' → k' < b → ltK key d[k']! d[k]! = false from fun k p1 p2 k' p3 p4 => by
        rcases Nat.lt_or_ge k k' with h | h
        · exact HS.out k k' p1 h p4
        · obtain rfl : k = k' := by omega
          exact (ltK_swo key).irrefl _)
      go_upto_region 5 with fail
      try rw [hmid]
      clear hmid hhd
      have NXT := Lib.hid (show ∀ nn, wr.drewN nn = (putRow (encF f) w blk off d).drewN (q + nn) from fun nn => by rw [HW.out, World.drewN_drewN])
      by_cases hl : key d[h]! - key d[a]! < 0
      · have N1 := Lib.hid (show ∀ k, m ≤ k → k < h + 1 → ltK key d[k]! d[a]! = true from fun k p1 p2 => by
          rcases Nat.lt_or_ge k i with h | h
          · exact H1.out k p1 h
          · have := HX.out k p1 (by omega) ((i + j) / 2) (by omega) (by omega)
            rw [hh] at this
            simp only [ltK, decide_eq_false_iff_not, decide_eq_true_eq] at *
            omega)
        have wh : IntKind.i64.wrap ((h : Int) + 1) = ((h + 1 : Nat) : Int) := by rw [IntKind.wrap_i64]; omega
        have hh1 : h + 1 ≤ j := by omega
        have hh2 : i ≤ h := by omega
        clear H1 HX hh HW
        go_quiet ((go_at_call 8; exact Calls.quiet_of (CC.out _)))
        go_wp2_with fail
        go_roundw
        case measure => simp only [intOf]; omega
        case rel => exact ⟨h + 1, j, _, by simp, rfl, by omega, hh1, hj, Lib.hid (NXT.out _), N1, H2⟩
      · have N1 := Lib.hid (show ∀ k, h ≤ k → k < b → ltK key d[k]! d[a]! = false from fun k p1 p2 => by
          have := HX.out h (by omega) (by omega) k p1 p2
          simp only [ltK, decide_eq_false_iff_not, decide_eq_true_eq] at *
          omega)
        have hh1 : h < j := by omega
        have hh2 : i ≤ h := by omega
        clear H2 HX hh HW
        go_quiet ((go_at_call 8; exact Calls.quiet_of (CC.out _)))
        go_wp2_with fail
        go_roundw
        case measure => simp only [intOf]; omega
        case rel => exact ⟨i, h, _, rfl, rfl, hi, hh2, by omega, Lib.hid (NXT.out _), H1, N1⟩
    · obtain rfl : i = j := by omega
      have e1 : ¬ (i : Int) < (i : Int) := by omega
      have hma := HM.out
      obtain ⟨i1, rfl⟩ : ∃ i1, i = i1 + 1 := ⟨i - 1, by omega⟩
      have hia : a ≤ i1 := by omega
      have MG := Lib.hid (merge_up (ltK_swo key) (a := a) (b := b) (i := i1 + 1) (d := d) (by omega) hj hb (by rw [hma]; exact HS.out) (fun k p1 p2 => H1.out k (by omega) p2) H2.out)
      clear H1 H2 hij hlt
      go_upto_region 9 with fail
      go_loopw [13] (fun s13 z => ∃ c q : Nat, a + c ≤ i1 ∧ s13 = .int .i64 ((a + c : Nat) : Int) ∧ Hid (z = (putRow (encF f) w blk off (upR d a c)).drewN q)) (fun s13 _ => i1 - (intOf s13).toNat)
      case atStart => exact ⟨0, q, by omega, rfl, HW⟩
      case round =>
        clear HW
        obtain ⟨c, q, hc, rfl, HW⟩ := hrel
        by_cases hlt : a + c < i1
        · obtain ⟨k, hk⟩ : ∃ k, a + c = k := ⟨_, rfl⟩
          have hs : (upR d a c).size = d.size := size_upR d a c
          have hh := Holds.row HH.out hs HW.out
          obtain ⟨c1, f1⟩ := hh (a + c) (by omega)
          obtain ⟨c2, f2⟩ := hh (a + c + 1) (by omega)
          obtain ⟨x, hx⟩ : ∃ x, f (upR d a c)[a + c]! = x := ⟨_, rfl⟩
          obtain ⟨y, hy⟩ : ∃ y, f (upR d a c)[a + c + 1]! = y := ⟨_, rfl⟩
          obtain ⟨p, hp⟩ : ∃ p, k + 1 = p := ⟨_, rfl⟩
          have c1' : wr.cell? ⟨blk, off + k, none⟩ = some (.int .i64 x) := by rw [← hk, ← hx]; exact c1
          have c2' : wr.cell? ⟨blk, off + p, none⟩ = some (.int .i64 y) := by rw [← hp, ← hk, ← hy]; exact c2
          have f1' : wr.frozen? ⟨blk, off + k, none⟩ = false := by rw [← hk]; exact f1
          have f2' : wr.frozen? ⟨blk, off + p, none⟩ = false := by rw [← hp, ← hk]; exact f2
          have w1 : IntKind.i64.wrap ((k : Int) + 1) = (p : Int) := by rw [IntKind.wrap_i64]; omega
          have p0 : (0 : Int) ≤ (k : Int) := by omega
          have q0 : (0 : Int) ≤ (p : Int) := by omega
          have p1 : (k : Int) < (d.size : Int) := by omega
          have q1 : (p : Int) < (d.size : Int) := by omega
          have hpq : k ≠ p := by omega
          have e1 : (k : Int) < (i1 : Int) := by omega
          have NEXT := Lib.hid (show (wr.drew.setCell ⟨blk, off + k, none⟩ (.int .i64 y)).setCell ⟨blk, off + p, none⟩ (.int .i64 x) = (putRow (encF f) w blk off (upR d a (c + 1))).drewN (q + 1) from by
            have := swap_worldC (encF f) w blk off (upR d a c) q (a + c) (a + c + 1) (by omega) (by omega)
            rw [set2_drew, HW.out, ← hx, ← hy, ← hp, ← hk]
            exact this)
          have HK := Lib.hid hk
          have HP := Lib.hid hp
          rw [hk]
          clear hh c1 c2 f1 f2 HW hx hy hs hk hp
          go_wp2_with fail
          go_big_region
          all_goals go_wp2
          go_roundw
          case measure => have := HK.out; have := HP.out; simp only [intOf]; omega
          case rel => exact ⟨c + 1, q + 1, by have := HK.out; omega, by have := HK.out; have := HP.out; first | rfl | (congr 1; omega), NEXT⟩
        · obtain rfl : i1 = a + c := by omega
          have e1 : ¬ ((a + c : Nat) : Int) < ((a + c : Nat) : Int) := by omega
          have MG2 := Lib.hid (show Mg (ltK key) a b d (upR d a c) from by
            have := MG.out
            rw [show a + c + 1 - 1 - a = c by omega] at this
            exact this)
          clear hlt MG
          obtain ⟨k, hk⟩ : ∃ k, a + c = k := ⟨_, rfl⟩
          rw [hk] at e1 ⊢
          have hk6 : k + 1 ≤ 1000000 := by omega
          clear hk
          go_wp2_with fail
          (try simp only [Exit.inBlock, Exit.then])
          refine bodyPost_ret (results_none rfl _ _ _) rfl ?_
          exact ⟨rfl, _, q, HW.out, MG2.out⟩
set_option maxHeartbeats 8000000 in
set_option maxRecDepth 1000000 in
theorem symMerge_b (f key : α → Int) (B blk off cap a m b : Nat) (d : Array α) (w : World) (hH : Holds (encF f) w blk off d) (hC : CmpAt f key B blk off d.size w) (ham : a + 1 < m) (hm : m + 1 = b) (hb : b ≤ d.size) (hsz : d.size ≤ 1000000) (hs : SortedIn (ltK key) a m d) :
    Calls Try.prog 15 #[.slice (some ⟨blk, off, none⟩) d.size cap, .int .i64 a, .int .i64 m, .int .i64 b, .func (.func 8) #[] #[.pointer (some ⟨B, 0, none⟩)]] w (SymE f key blk off a b d w) := by
  have HST := Lib.hid (show w = (putRow (encF f) w blk off d).drewN 0 from (putRow_self (encF f) w blk off d hH).symm)
  have HH := Lib.hid hH
  have HC := Lib.hid hC
  have HS := Lib.hid hs
  have HM := Lib.hid hm
  have w1 : IntKind.i64.wrap ((m : Int) - (a : Int)) = ((m - a : Nat) : Int) := by rw [IntKind.wrap_i64]; omega
  obtain ⟨ma, hma⟩ : ∃ ma, m - a = ma := ⟨_, rfl⟩
  rw [hma] at w1
  have e0 : ((ma : Int) == 1) = false := beq_eq_false_iff_ne.2 (by omega)
  have w2 : IntKind.i64.wrap ((b : Int) - (m : Int)) = 1 := by rw [IntKind.wrap_i64]; omega
  have a0 : (0 : Int) ≤ (m : Int) := by omega
  have a1 : (m : Int) < (d.size : Int) := by omega
  have HMA := Lib.hid ham
  clear hH hC hs hm hma
  go_enter Try.func15, Try.ntmps15
  go_upto_region 15 with fail
  clear w1 w2 e0
  go_loopw [14, 15] (fun s14 s15 wr => ∃ i j q : Nat, s14 = .int .i64 i ∧ s15 = .int .i64 j ∧ a ≤ i ∧ i ≤ j ∧ j ≤ m ∧ Hid (wr = (putRow (encF f) w blk off d).drewN q) ∧ Hid (∀ k, a ≤ k → k < i → ltK key d[m]! d[k]! = false) ∧ Hid (∀ k, j ≤ k → k < m → ltK key d[m]! d[k]! = true)) (fun s14 s15 _ => (intOf s15).toNat - (intOf s14).toNat)
  case atStart => exact ⟨a, m, 0, rfl, rfl, Nat.le_refl _, by omega, Nat.le_refl _, HST, Lib.hid (fun k h1 h2 => by omega), Lib.hid (fun k h1 h2 => by omega)⟩
  case round =>
    obtain ⟨i, j, q, rfl, rfl, hi, hij, hj, HW, H1, H2⟩ := hrel
    by_cases hlt : i < j
    · have e1 : (i : Int) < (j : Int) := by omega
      obtain ⟨h, hh⟩ : ∃ h, (i + j) / 2 = h := ⟨_, rfl⟩
      have hmid : ((i : Int) + (j : Int)) / 2 = (h : Int) := by omega
      have hb6 : i + j ≤ 2000000 := by omega
      have hhd := Holds.row HH.out rfl HW.out
      obtain ⟨c1, f1⟩ := hhd h (by omega)
      obtain ⟨c2, f2⟩ := hhd m (by omega)
      have CC := Lib.hid (fun mm => HC.out.call rfl HW.out d[m]! d[h]! mm)
      have h0 : (0 : Int) ≤ (h : Int) := by omega
      have h1 : (h : Int) < (d.size : Int) := by omega
      have HX := Lib.hid (show ∀ k, a ≤ k → k < m → ∀ k', k ≤ k' → k' < m → ltK key d[k']! d[k]! = false from fun k p1 p2 k' p3 p4 => by
        rcases Nat.lt_or_ge k k' with h | h
        · exact HS.out k k' p1 h p4
        · obtain rfl : k = k' := by omega
          exact (ltK_swo key).irrefl _)
      go_upto_region 17 with fail
      try rw [hmid]
      clear hmid hhd
      have NXT := Lib.hid (show ∀ nn, wr.drewN nn = (putRow (encF f) w blk off d).drewN (q + nn) from fun nn => by rw [HW.out, World.drewN_drewN])
      by_cases hl : key d[m]! - key d[h]! < 0
      · have N1 := Lib.hid (show ∀ k, h ≤ k → k < m → ltK key d[m]! d[k]! = true from fun k p1 p2 => by
          have := HX.out h (by omega) (by omega) k p1 p2
          simp only [ltK, decide_eq_false_iff_not, decide_eq_true_eq] at *
          omega)
        have hh1 : h < j := by omega
        have hh2 : i ≤ h := by omega
        clear H2 HX hh HW
        go_quiet ((go_at_call 8; exact Calls.quiet_of (CC.out _)))
        go_wp2_with fail
        go_roundw
        case measure => simp only [intOf]; omega
        case rel => exact ⟨i, h, _, rfl, rfl, hi, hh2, by omega, Lib.hid (NXT.out _), H1, N1⟩
      · have N1 := Lib.hid (show ∀ k, a ≤ k → k < h + 1 → ltK key d[m]! d[k]! = false from fun k p1 p2 => by
          rcases Nat.lt_or_ge k i with h | h
          · exact H1.out k p1 h
          · have := HX.out k p1 (by omega) ((i + j) / 2) (by omega) (by omega)
            rw [hh] at this
            simp only [ltK, decide_eq_false_iff_not, decide_eq_true_eq] at *
            omega)
        have wh : IntKind.i64.wrap ((h : Int) + 1) = ((h + 1 : Nat) : Int) := by rw [IntKind.wrap_i64]; omega
        have hh1 : h + 1 ≤ j := by omega
        have hh2 : i ≤ h := by omega
        clear H1 HX hh HW
        go_quiet ((go_at_call 8; exact Calls.quiet_of (CC.out _)))
        go_wp2_with fail
        go_roundw
        case measure => simp only [intOf]; omega
        case rel => exact ⟨h + 1, j, _, by simp, rfl, by omega, hh1, hj, Lib.hid (NXT.out _), N1, H2⟩
    · obtain rfl : i = j := by omega
      have e1 : ¬ (i : Int) < (i : Int) := by omega
      have MG := Lib.hid (show Mg (ltK key) a b d (dnR d m (m - i)) from by
        have := merge_dn (ltK_swo key) (a := a) (m := m) (i := i) (d := d) hi hj (by have := HM.out; omega) HS.out H1.out H2.out
        rw [HM.out] at this; exact this)
      clear H1 H2 hij hlt
      go_upto_region 21 with fail
      go_loopw [17] (fun s17 z => ∃ c q : Nat, c ≤ m - i ∧ s17 = .int .i64 ((m - c : Nat) : Int) ∧ Hid (z = (putRow (encF f) w blk off (dnR d m c)).drewN q)) (fun s17 _ => (intOf s17).toNat)
      case atStart => exact ⟨0, q, by omega, rfl, HW⟩
      case round =>
        clear HW
        obtain ⟨c, q, hc, rfl, HW⟩ := hrel
        by_cases hlt : c < m - i
        · obtain ⟨p, hp⟩ : ∃ p, m - c = p + 1 := ⟨m - c - 1, by omega⟩
          obtain ⟨k, hk⟩ : ∃ k, p + 1 = k := ⟨_, rfl⟩
          have hs : (dnR d m c).size = d.size := size_dnR d m c
          have hh := Holds.row HH.out hs HW.out
          obtain ⟨c1, f1⟩ := hh (m - c) (by omega)
          obtain ⟨c2, f2⟩ := hh (m - c - 1) (by omega)
          obtain ⟨x, hx⟩ : ∃ x, f (dnR d m c)[m - c]! = x := ⟨_, rfl⟩
          obtain ⟨y, hy⟩ : ∃ y, f (dnR d m c)[m - c - 1]! = y := ⟨_, rfl⟩
          have hp' : m - c - 1 = p := by omega
          have hk' : m - c = k := by omega
          have c1' : wr.cell? ⟨blk, off + k, none⟩ = some (.int .i64 x) := by rw [← hk', ← hx]; exact c1
          have c2' : wr.cell? ⟨blk, off + p, none⟩ = some (.int .i64 y) := by rw [← hp', ← hy]; exact c2
          have f1' : wr.frozen? ⟨blk, off + k, none⟩ = false := by rw [← hk']; exact f1
          have f2' : wr.frozen? ⟨blk, off + p, none⟩ = false := by rw [← hp']; exact f2
          have w1 : IntKind.i64.wrap ((k : Int) - 1) = (p : Int) := by rw [IntKind.wrap_i64]; omega
          have p0 : (0 : Int) ≤ (k : Int) := by omega
          have q0 : (0 : Int) ≤ (p : Int) := by omega
          have p1 : (k : Int) < (d.size : Int) := by omega
          have q1 : (p : Int) < (d.size : Int) := by omega
          have hpq : k ≠ p := by omega
          have e1 : (i : Int) < (k : Int) := by omega
          have NEXT := Lib.hid (show (wr.drew.setCell ⟨blk, off + k, none⟩ (.int .i64 y)).setCell ⟨blk, off + p, none⟩ (.int .i64 x) = (putRow (encF f) w blk off (dnR d m (c + 1))).drewN (q + 1) from by
            have := swap_worldC (encF f) w blk off (dnR d m c) q (m - c) (m - c - 1) (by omega) (by omega)
            rw [set2_drew, HW.out, ← hx, ← hy, ← hp', ← hk']
            exact this)
          have HK := Lib.hid hk
          have HP := Lib.hid hp
          rw [hk']
          clear hh c1 c2 f1 f2 HW hx hy hs hk hp hp' hk'
          go_wp2_with fail
          go_big_region
          all_goals go_wp2
          go_roundw
          case measure => have := HK.out; have := HP.out; simp only [intOf]; omega
          case rel => exact ⟨c + 1, q + 1, by have := HK.out; omega, by have := HK.out; have := HP.out; first | rfl | (congr 1; omega), NEXT⟩
        · have hce : c = m - i := by omega
          subst hce
          have hmi : m - (m - i) = i := by omega
          rw [hmi]
          have e1 : ¬ (i : Int) < (i : Int) := by omega
          clear hlt hmi
          go_wp2_with fail
          (try simp only [Exit.inBlock, Exit.then])
          refine bodyPost_ret (results_none rfl _ _ _) rfl ?_
          exact ⟨rfl, _, q, HW.out, MG.out⟩
end Go.Proofs.Ytfpmekphkippdaa
