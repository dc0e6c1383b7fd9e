import Derived.Test.YthmfmnoblobcoaaBackU
import Derived.Test.YthmfmnoblobcoaaPBackB
import Derived.Test.YthmfmnoblobcoaaOpenBk
import Derived.Test.YthmfmnoblobcoaaSameBk
import Derived.Test.YthmfmnoblobcoaaRSorted
import Derived.Test.YthmfmnoblobcoaaSame
import Derived.Deep.CutBlock
/-! The walk of the law BackBack. -/
namespace Go.Proofs.Ythmfmnoblobcoaa
open Go.RowKit
set_option linter.unusedVariables false
set_option linter.unusedSimpArgs false
theorem backRead_any (v : Value) (l : List UInt8) (w : World) (hv : IsBytes w v l) (hl : l.length ≤ 2000000) :
    Calls Try.prog 9 #[v] w (ReadBE w.heap.size l w) := by
  by_cases h : l.length < Pl.rdSize l
  · exact backRead_short v l w hv (by omega) h
  · by_cases h1 : (l.getD 0 0).toNat = 1
    · exact backRead_1 v l w hv hl h h1
    · exact backRead_2 v l w hv (by omega) h h1
theorem Pl.fact_pairs : Pl.PairsOf (· ∈ ([5, 6, 22, 4] : List Int)) [⟨4, 3⟩, ⟨22, 0⟩] := by
  refine ⟨by simp, fun p hp => ?_, fun n hn => ?_⟩
  · simp at hp
    rcases hp with rfl | rfl
    · refine ⟨by simp, by decide, by decide, fun k hk => ?_⟩
      have key : ∀ k : Fin 16, (Pl.bit ⟨4, 3⟩ k.1 = true ↔ (4 : Int) + (k.1 : Int) + 1 ∈ ([5, 6, 22, 4] : List Int)) := by decide
      exact key ⟨k, hk⟩
    · refine ⟨by simp, by decide, by decide, fun k hk => ?_⟩
      have key : ∀ k : Fin 16, (Pl.bit ⟨22, 0⟩ k.1 = true ↔ (22 : Int) + (k.1 : Int) + 1 ∈ ([5, 6, 22, 4] : List Int)) := by decide
      exact key ⟨k, hk⟩
  · simp at hn
    rcases hn with rfl | rfl | rfl | rfl
    · exact ⟨⟨4, 3⟩, by simp, by decide, by decide⟩
    · exact ⟨⟨4, 3⟩, by simp, by decide, by decide⟩
    · exact ⟨⟨22, 0⟩, by simp, by decide, by decide⟩
    · exact ⟨⟨4, 3⟩, by simp, by decide, by decide⟩
theorem pairs_fact (v : Value) (w : World) (h : Sl encI w v [5, 6, 22, 4]) :
    Calls Try.prog 4 #[v] w fun e w' => ∃ (b : Nat) (f c : Nat), e = .returned (.tuple #[.slice (some ⟨b, f, none⟩) 2 c, .nilIface]) ∧ 2 ≤ c ∧ w'.cell? ⟨b, f, none⟩ = some (.int .i64 4) ∧ w'.cell? ⟨b, f + 1, none⟩ = some (.int .i64 3) ∧ w'.cell? ⟨b, f + 2, none⟩ = some (.int .i64 22) ∧ Below w.heap.size w w' := by
  refine (backPairs_ok v [5, 6, 22, 4] (by decide) w h).mono fun e w' ⟨L, oa, c, q1, q2, q3, _, _, _, q4⟩ => ?_
  obtain rfl : L = [⟨4, 3⟩, ⟨22, 0⟩] := q3.eq Pl.fact_pairs
  obtain ⟨oa', c', e', hlc, _, _, rd⟩ := prs_read q2
  cases e'
  obtain ⟨b, f, rfl, _, r0, r1, _⟩ := rd 0 (by simp)
  obtain ⟨b', f', e'', _, s0, _, _⟩ := rd 1 (by simp)
  cases e''
  exact ⟨b, f, c, q1, by simpa using hlc, r0, r1, s0, q4⟩
theorem encB_bad {k t val : Int} {A : List Int} (hF : Pl.backF k t val A ≠ 0) (oa : Option Addr) (c : Nat) (z : World) (hA : Sl encI z (.slice oa A.length c) A) :
    Calls Try.prog 8 #[bkV k t (.slice oa A.length c) val] z fun e w' => e = .returned (.tuple #[.slice none 0 0, .iface 43 (.int .i64 (Pl.backF k t val A))]) ∧ Below z.heap.size z w' := by
  refine (backEnc_any k t val oa c A z hA).mono fun e w' ⟨h1, h2⟩ => ?_
  rcases h2 with ⟨_, h2⟩ | ⟨h2, _⟩
  · exact ⟨h2, h1⟩
  · exact absurd h2 hF
theorem Pl.pairs_len {A : List Int} {L : List Pr} (h : Pl.PairsOf (· ∈ A) L) (hr : A.Pairwise fun x y => x < y) : L.length ≤ A.length := by
  have h1 := (Pl.numsOf_len L).1
  have h2 : Pl.numsOf L = A := Pl.rises_same h.rises hr fun i => h.mem i
  rw [h2] at h1; exact h1
theorem encB_good {k t val : Int} {A : List Int} (hF : Pl.backF k t val A = 0) (oa : Option Addr) (c : Nat) (z : World) (hA : Sl encI z (.slice oa A.length c) A) :
    Calls Try.prog 8 #[bkV k t (.slice oa A.length c) val] z fun e w' => ∃ (o1 : Option Addr) (n1 c1 : Nat) (L : List Pr), e = .returned (.tuple #[.slice o1 n1 c1, .nilIface]) ∧ Pl.PairsOf (· ∈ A) L ∧ IsBytes w' (.slice o1 n1 c1) (Pl.backBytes k t val L) ∧ L.length ≤ A.length ∧ L.length ≤ 200 ∧ Below z.heap.size z w' := by
  refine (backEnc_any k t val oa c A z hA).mono fun e w' ⟨h1, h2⟩ => ?_
  rcases h2 with ⟨h2, _⟩ | ⟨_, v, L, rfl, h3, h4⟩
  · exact absurd hF h2
  · have hb := h4.reads
    obtain ⟨o1, c1, rfl, -⟩ := bytes_slice hb
    obtain ⟨_, _, hr, hp⟩ := Pl.backF_zero hF
    have hle := Pl.pairs_len h3 hr
    have hA2 : A.length ≤ 200 := by
      rcases Pl.pairF_cases A with ⟨q, _⟩ | ⟨_, q⟩
      · rw [hp] at q; cases q
      · exact q
    exact ⟨o1, _, c1, L, rfl, h3, hb, hle, by omega, h1⟩
/-- what was said is read -/
theorem read_said {k t val : Int} {A : List Int} {L : List Pr} (hF : Pl.backF k t val A = 0) (hL : Pl.PairsOf (· ∈ A) L) (hle : L.length ≤ A.length) (hl2 : L.length ≤ 200) (v : Value) (z : World) (hv : IsBytes z v (Pl.backBytes k t val L)) :
    Calls Try.prog 9 #[v] z fun e w' => ∃ (oa : Option Addr) (c : Nat), e = .returned (.tuple #[bkV k t (.slice oa A.length c) val, .nilIface]) ∧ Sl encI w' (.slice oa A.length c) A ∧ Below z.heap.size z w' := by
  obtain ⟨hs, hx⟩ := Pl.back_read hF hL hle
  have hlen : (Pl.backBytes k t val L).length ≤ 2000000 := by
    unfold Pl.backBytes
    rw [List.length_append]
    split
    · simp
    · split
      · rw [Pl.putB_length]; simp
      · rw [Pl.prBytes_len]; simp; omega
  refine (backRead_any v _ z hv hlen).mono fun e w' ⟨h1, h2⟩ => ?_
  rw [if_neg (by omega)] at h2
  obtain ⟨k', t', A', val', hr, h3⟩ := h2
  obtain ⟨rfl, rfl, rfl, rfl⟩ := hx _ _ _ _ hr
  rcases h3 with ⟨h4 | ⟨_, L', h5, h6⟩, _⟩ | ⟨_, _, oa, c, h4, h5⟩
  · exact absurd hF h4
  · exact absurd (by rw [h5.eq hL]) h6
  · exact ⟨oa, c, h4, h5, h1⟩
/-- what is read says the same bytes -/
theorem read_any2 (v : Value) (l : List UInt8) (hl : l.length ≤ 2000000) (z : World) (hv : IsBytes z v l) :
    Calls Try.prog 9 #[v] z fun e w' => ∃ (k t val : Int) (A : List Int) (oa : Option Addr) (c : Nat) (er : Value), e = .returned (.tuple #[bkV k t (.slice oa A.length c) val, er]) ∧ ((∃ f, er = .iface 43 (.int .i64 f)) ∨ (er = .nilIface ∧ Pl.backF k t val A = 0 ∧ (∃ L, Pl.PairsOf (· ∈ A) L ∧ Pl.backBytes k t val L = l) ∧ Sl encI w' (.slice oa A.length c) A)) ∧ Below z.heap.size z w' := by
  refine (backRead_any v l z hv hl).mono fun e w' ⟨h1, h2⟩ => ?_
  by_cases hs : l.length < Pl.rdSize l
  · rw [if_pos hs] at h2
    exact ⟨0, 0, 0, [], none, 0, _, h2, .inl ⟨8, rfl⟩, h1⟩
  · rw [if_neg hs] at h2
    obtain ⟨k', t', A', val', hr, h3⟩ := h2
    rcases h3 with ⟨_, h4⟩ | ⟨h4, h5, oa, c, h6, h7⟩
    · exact ⟨0, 0, 0, [], none, 0, _, h4, .inl ⟨2, rfl⟩, h1⟩
    · exact ⟨k', t', val', A', oa, c, _, h6, .inr ⟨rfl, h4, h5, h7⟩, h1⟩
set_option maxRecDepth 100000 in
set_option maxHeartbeats 2000000 in
theorem walk_BackBack_run (w : World) (v0 : Value) (A0 : List Int) (o0 : Sl encI w v0 A0) (k t val : Int) (lv : Value) (A : List Int) (o1 : Sl encI w lv A) (v2 : Value) (lc : List UInt8) (o2 : IsBytes w v2 lc) (hb2 : lc.length ≤ 2000000) :
    Calls Try.prog 3 #[v0, bkV k t lv val, v2] w fun e w' => e = .returned (.bool true) ∧ Below w.heap.size w w' := by
  have H0 := Lib.hid o0
  have H1 := Lib.hid o1
  have H2 := Lib.hid o2
  have HB2 := Lib.hid hb2
  obtain ⟨oa0, c0', rfl⟩ := ints_form o0
  obtain ⟨oB, cB, rfl⟩ := ints_form o1
  obtain ⟨oC, cC, rfl, hmC⟩ := bytes_slice o2
  have hm0 := o0.len
  unfold maxLen at hmC hm0
  clear o0 o1 o2 hb2
  go_enter Try.func3, Try.ntmps3
  go_upto_region 1 with fail
  have kA : Below w.heap.size w (w.alloc (.cells #[.int .i64 k, .int .i64 t, .slice oB A.length cB, .int .i64 val] 24)) := (Below.refl _ _).alloc (Nat.le_refl _) _
  have BX0 : Hid (BkBox (w.alloc (.cells #[.int .i64 k, .int .i64 t, .slice oB A.length cB, .int .i64 val] 24)) w.heap.size k t (.slice oB A.length cB) val) := Lib.hid (obj_new _ _)
  have KA := Lib.hid kA
  refine abs_b (fun y => Hid (BkBox y w.heap.size k t (.slice oB A.length cB) val) ∧ Hid (Below w.heap.size w y)) ⟨BX0, KA⟩ ?_
  clear BX0 KA kA
  rintro y ⟨BX, KY⟩
  have kB : Below y.heap.size y (y.alloc (.cells #[.int .i64 5, .int .i64 6, .int .i64 22, .int .i64 4] 3)) := (Below.refl _ _).alloc (Nat.le_refl _) _
  have PF := Lib.hid (pairs_fact (.slice (some ⟨y.heap.size, 0, none⟩) 4 4) (y.alloc (.cells #[.int .i64 5, .int .i64 6, .int .i64 22, .int .i64 4] 3)) (Sl.own (obj_new _ _) (by simp) (Nat.le_refl _) (by unfold maxLen; omega) (fun j hj => by
    have hj4 : j < 4 := hj
    obtain rfl | rfl | rfl | rfl : j = 0 ∨ j = 1 ∨ j = 2 ∨ j = 3 := by omega
    all_goals rfl)))
  have KB := Lib.hid kB
  clear kB
  go_upto_region 4 with (go_at_call 4; (with_reducible refine PF.out.mono ?_); rintro e w1 ⟨b1, f1, cc1, rfl, q0, q1, q2, q3, k1⟩; have BX1 := Lib.hid (show BkBox w1 w.heap.size k t (.slice oB A.length cB) val from Below.heapAt k1 (Below.heapAt KB.out BX.out (lt_of_block BX.out)) (by have := lt_of_block BX.out; have := KB.out.size; omega)); have K1 := Lib.hid (KY.out.trans ((KB.out.mono KY.out.size).trans (k1.mono (Nat.le_trans KY.out.size KB.out.size)))); have i0 : (0 : Int) < 2 := (by decide); have i1 : (1 : Int) < 2 := (by decide); clear k1)
  clear PF KB BX KY q0 q1 q2 q3 i0 i1
  refine abs_b (fun y => Hid (BkBox y w.heap.size k t (.slice oB A.length cB) val) ∧ Hid (Below w.heap.size w y)) ⟨BX1, K1⟩ ?_
  clear BX1 K1
  rintro y ⟨BX, KY⟩
  have HNY := Lib.hid (show w.heap.size < y.heap.size from lt_of_block BX.out)
  by_cases hp : Pl.pairF A0 = 0
  case' pos =>
    have P1 := Lib.hid (backPairs_ok _ A0 hp y (H0.out.below KY.out))
    have HP := Lib.hid hp
    clear hp
    go_upto_region 6 with (go_at_call 4; (with_reducible refine P1.out.mono ?_); rintro e w1 ⟨L, oL, cL, rfl, h1, h2, h3, h4, h5, k1⟩; have N1 := Lib.hid (backNums_ok _ L h5 w1 h1); have PO := Lib.hid h2; have PL1 := Lib.hid h1; have K1 := Lib.hid k1; clear h1 h2 h5 k1)
    clear P1
    go_upto_region 7 with (go_at_call 5; (with_reducible refine N1.out.mono ?_); rintro e w2 ⟨R, oR, cR, rfl, h1, h2, h3, k2⟩; have RR := Lib.hid h2; have RM := Lib.hid h3; have IR := Lib.hid h1; have K2 := Lib.hid (K1.out.trans (k2.mono K1.out.size)); have PL2 := Lib.hid (PL1.out.below k2); clear h1 h2 h3 k2)
    clear N1 PL1 K1
    have S1 := Lib.hid (rSorted_any _ A0 (by omega) w2 (H0.out.below (KY.out.trans (K2.out.mono KY.out.size))))
    go_upto_region 9 with (first
      | (go_at_call 6; (with_reducible refine S1.out.mono ?_); rintro r w3 ⟨v13, S, rfl, h1, h2, h3, k3⟩; have hS : S = R := Pl.rises_same h1 RR.out (fun i => by rw [h2, RM.out, PO.out.mem]); have K3 := Lib.hid (K2.out.trans (k3.mono K2.out.size)); have PL3 := Lib.hid (PL2.out.below k3); have IS := Lib.hid (sameInts_eq _ _ R w3 ((IR.out.below k3).sl) (by rw [← hS]; exact intRow_sl h3)); clear h1 h2 h3 k3 hS)
      | (go_at_call 7; (with_reducible refine IS.out.mono ?_); rintro r x3 ⟨rfl, nn, rfl⟩; have K4 := Lib.hid (Below.drewN K3.out nn); have PL4 := Lib.hid (PL3.out.below (Below.drewN (Below.refl _ _) nn))))
    clear S1 IS K2 K3 PL2 PL3 IR RR RM
    have e1 : ¬ (A0.length : Int) < (L.length : Int) := by omega
    have BX4 := Lib.hid (show BkBox (w3.drewN nn) w.heap.size k t (.slice oB A.length cB) val from Below.heapAt K4.out BX.out HNY.out)
    have K5 := Lib.hid (KY.out.trans (K4.out.mono KY.out.size))
    have SQ := Lib.hid (Pl.pairF_all (A := A0))
    clear K4 BX KY HNY
    go_upto_region 11 with fail
    go_upto_block 0 with fail
    go_cut [15] from 86 to 104 (fun _ z => Hid (BkBox z w.heap.size k t (.slice oB A.length cB) val) ∧ Hid (Below w.heap.size w z))
    case first =>
      as_aux_lemma =>
      go_upto_region 12 with fail
      go_loopw [15] (fun s15 z => ∃ i : Nat, 1 ≤ i ∧ i ≤ max 1 L.length ∧ s15 = .int .i64 i ∧ Hid (BkBox z w.heap.size k t (.slice oB A.length cB) val) ∧ Hid (IsPrs z (.slice oL L.length cL) L) ∧ Hid (Below w.heap.size w z)) (fun s15 _ => L.length + 1 - (intOf s15).toNat)
      case atStart => exact ⟨1, by omega, by omega, rfl, BX4, PL4, K5⟩
      case round =>
        as_aux_lemma =>
        clear BX4 PL4 K5
        obtain ⟨i, hi1, hi2, rfl, BZ, PZ, KZ⟩ := hrel
        by_cases hlt : i < L.length
        · have e1 : (i : Int) < (L.length : Int) := by omega
          have hgap := (List.pairwise_iff_getElem.1 PO.out.gap) (i - 1) i (by omega) hlt (by omega)
          have hsq := SQ.out HP.out _ (PO.out.ok L[i - 1] (List.getElem_mem _)).1
          obtain ⟨oL', cL', e', hlL, hcL, -, rL⟩ := prs_read PZ.out
          cases e'
          obtain ⟨b, f, rfl, hb, q0, -, -⟩ := rL i hlt
          obtain ⟨b', f', e, -, q1, -, -⟩ := rL (i - 1) (by omega)
          cases e
          unfold maxLen at hcL
          unfold Pl.Seq16 at hsq
          generalize L[i].base = x at *
          generalize L[i - 1].base = y at *
          have i1 : (0 : Int) ≤ ((i - 1 : Nat) : Int) := by omega
          have i2 : ((i - 1 : Nat) : Int) < (L.length : Int) := by omega
          have i4 : IntKind.i64.wrap ((i : Int) - 1) = ((i - 1 : Nat) : Int) := by rw [IntKind.wrap_i64]; omega
          have i5 : IntKind.i64.wrap (y + 16) = y + 16 := by rw [IntKind.wrap_i64]; omega
          have d1 : decide (x ≤ y + 16) = false := by simp; omega
          clear rL hgap hsq
          go_upto_region 14 with fail
          go_quiet (fail)
          go_wp2_with fail
          go_roundw
          case measure => simp only [intOf]; omega
          case rel => exact ⟨i + 1, by omega, by omega, by simp, Lib.hid BZ.out, Lib.hid (PZ.out.below (Below.drewN (Below.refl _ _) _)), Lib.hid (Below.drewN KZ.out _)⟩
        · have e1 : ¬ (i : Int) < (L.length : Int) := by omega
          clear hlt
          go_wp2_with fail
          go_meet
          exact ⟨BZ, KZ⟩
    case' rest =>
      clear BX4 PL4 K5 SQ HP PO
      obtain ⟨BX, KY⟩ := hcut
      go_upto_region 16 with fail
      refine abs_b (fun y => Hid (BkBox y w.heap.size k t (.slice oB A.length cB) val) ∧ Hid (Below w.heap.size w y)) ⟨BX, KY⟩ ?_
      clear BX KY
      rintro y ⟨BX, KY⟩
  case' neg =>
    have P1 := Lib.hid (backPairs_bad _ A0 hp y (H0.out.below KY.out))
    clear hp
    go_upto_region 16 with (go_at_call 4; (with_reducible refine P1.out.mono ?_); rintro e w1 ⟨rfl, k1⟩; have BX2 := Lib.hid (show BkBox w1 w.heap.size k t (.slice oB A.length cB) val from Below.heapAt k1 BX.out HNY.out); have K2 := Lib.hid (KY.out.trans (k1.mono KY.out.size)); clear k1)
    refine abs_b (fun y => Hid (BkBox y w.heap.size k t (.slice oB A.length cB) val) ∧ Hid (Below w.heap.size w y)) ⟨BX2, K2⟩ ?_
    clear BX2 K2 P1 BX KY HNY
    rintro y ⟨BX, KY⟩
  all_goals
    have HNY := Lib.hid (show w.heap.size < y.heap.size from lt_of_block BX.out)
    obtain ⟨c0, c1, c2, c3⟩ := BX.out.cells
    by_cases hF : Pl.backF k t val A = 0
    case' pos =>
      have E1 := Lib.hid (encB_good hF oB cB y (H1.out.below KY.out))
      have HF := Lib.hid hF
      clear hF
      go_upto_region 18 with (go_at_call 8; (with_reducible refine E1.out.mono ?_); rintro e w1 ⟨o1, n1, c1', L1, rfl, h1, h2, h3, h4, k1⟩; have R1 := Lib.hid (read_said HF.out h1 h3 h4 _ w1 h2); have BX1 := Lib.hid (show BkBox w1 w.heap.size k t (.slice oB A.length cB) val from Below.heapAt k1 BX.out HNY.out); have K1 := Lib.hid (KY.out.trans (k1.mono KY.out.size)); clear h1 h2 h3 h4 k1)
      clear E1 BX KY HNY c0 c1 c2 c3
      go_upto_region 19 with (go_at_call 9; (with_reducible refine R1.out.mono ?_); rintro e w2 ⟨oD, cD, rfl, h1, k1⟩; have D1 := Lib.hid h1; have BX2 := Lib.hid (show BkBox w2 w.heap.size k t (.slice oB A.length cB) val from Below.heapAt k1 BX1.out (lt_of_block BX1.out)); have K2 := Lib.hid (K1.out.trans (k1.mono K1.out.size)); clear h1 k1)
      have kA : Below w2.heap.size w2 (w2.alloc (.cells #[.int .i64 k, .int .i64 t, .slice oD A.length cD, .int .i64 val] 24)) := (Below.refl _ _).alloc (Nat.le_refl _) _
      have DX := Lib.hid (show BkBox (w2.alloc (.cells #[.int .i64 k, .int .i64 t, .slice oD A.length cD, .int .i64 val] 24)) w2.heap.size k t (.slice oD A.length cD) val from obj_new _ _)
      have BX3 := Lib.hid (show BkBox (w2.alloc (.cells #[.int .i64 k, .int .i64 t, .slice oD A.length cD, .int .i64 val] 24)) w.heap.size k t (.slice oB A.length cB) val from Below.heapAt kA BX2.out (lt_of_block BX2.out))
      have D3 := Lib.hid (D1.out.below kA)
      have K3 := Lib.hid (K2.out.trans (kA.mono K2.out.size))
      refine abs_b (fun y => Hid (BkBox y w2.heap.size k t (.slice oD A.length cD) val) ∧ Hid (BkBox y w.heap.size k t (.slice oB A.length cB) val) ∧ Hid (Sl encI y (.slice oD A.length cD) A) ∧ Hid (Below w.heap.size w y)) ⟨DX, BX3, D3, K3⟩ ?_
      clear DX BX3 D3 K3 kA BX1 K1 R1 D1 BX2 K2
      rintro y3 ⟨DX, BX, DY, KY⟩
      obtain ⟨d0, d1, d2, d3⟩ := DX.out.cells
      obtain ⟨c0, c1, c2, c3⟩ := BX.out.cells
      have SB := Lib.hid (sameBk_eq k t val _ _ A y3 DY.out (H1.out.below KY.out))
      go_upto_region 22 with (go_at_call 10; (with_reducible refine SB.out.mono ?_); rintro e w3 ⟨rfl, k3⟩; have K3 := Lib.hid (KY.out.trans (k3.mono KY.out.size)); clear k3)
      refine abs_b (fun y => Hid (Below w.heap.size w y)) K3 ?_
      clear K3 SB DX BX DY KY d0 d1 d2 d3 c0 c1 c2 c3
      rintro y3 KY
    case' neg =>
      have E1 := Lib.hid (encB_bad hF oB cB y (H1.out.below KY.out))
      clear hF
      go_upto_region 22 with (go_at_call 8; (with_reducible refine E1.out.mono ?_); rintro e w3 ⟨rfl, k3⟩; have K3 := Lib.hid (KY.out.trans (k3.mono KY.out.size)); clear k3)
      refine abs_b (fun y => Hid (Below w.heap.size w y)) K3 ?_
      clear K3 E1 BX KY HNY c0 c1 c2 c3
      rintro y3 KY
    all_goals
      have R2 := Lib.hid (read_any2 _ lc HB2.out y3 (H2.out.below KY.out))
      go_upto_region 23 with (go_at_call 9; (with_reducible refine R2.out.mono ?_); rintro e w4 ⟨k2, t2, val2, A2, oE, cE, er, rfl, h1, k4⟩; have ER := Lib.hid h1; have K4 := Lib.hid (KY.out.trans (k4.mono KY.out.size)); clear h1 k4)
      clear R2 KY
      have kB : Below w4.heap.size w4 (w4.alloc (.cells #[.int .i64 k2, .int .i64 t2, .slice oE A2.length cE, .int .i64 val2] 24)) := (Below.refl _ _).alloc (Nat.le_refl _) _
      have GX := Lib.hid (show BkBox (w4.alloc (.cells #[.int .i64 k2, .int .i64 t2, .slice oE A2.length cE, .int .i64 val2] 24)) w4.heap.size k2 t2 (.slice oE A2.length cE) val2 from obj_new _ _)
      have K5 := Lib.hid (K4.out.trans (kB.mono K4.out.size))
      rcases ER.out with ⟨f, rfl⟩ | ⟨rfl, F2, ⟨L2, P2, hb⟩, SA2⟩
      · clear GX
        go_wp2_with fail
        go_ret
        exact ⟨rfl, K5.out⟩
      · have SX := Lib.hid (SA2.below kB)
        have HLB := Lib.hid (show ∀ L3, Pl.PairsOf (· ∈ A2) L3 → Pl.backBytes k2 t2 val2 L3 = lc from fun L3 h => by rw [h.eq P2]; exact hb)
        have F2' := Lib.hid F2
        clear SA2 P2 hb F2 ER kB
        refine abs_b (fun y => Hid (BkBox y w4.heap.size k2 t2 (.slice oE A2.length cE) val2) ∧ Hid (Sl encI y (.slice oE A2.length cE) A2) ∧ Hid (Below w.heap.size w y)) ⟨GX, SX, K5⟩ ?_
        clear GX SX K5 K4
        rintro z ⟨GX, SX, KZ⟩
        obtain ⟨c0, c1, c2, c3⟩ := GX.out.cells
        have E2 := Lib.hid (encB_good F2'.out oE cE z SX.out)
        go_upto_region 26 with (go_at_call 8; (with_reducible refine E2.out.mono ?_); rintro e w5 ⟨o1, n1, c1', L3, rfl, h1, h2, -, -, k5⟩; have K5 := Lib.hid (KZ.out.trans (k5.mono KZ.out.size)); have cv1 := conv_bytes (show IsBytes w5 (.slice o1 n1 c1') lc from by rw [HLB.out L3 h1] at h2; exact h2); have cv2 := conv_bytes (H2.out.below (KZ.out.trans (k5.mono KZ.out.size))); clear h1 h2 k5)
        clear E2 c0 c1 c2 c3 GX SX KZ
        generalize strB lc = S1 at *
        go_wp2_with fail
        go_ret
        exact ⟨by first | rfl | simp, K5.out⟩
theorem walk_BackBack (w : World) (v0 : Value) (A0 : List Int) (o0 : IsInts w v0 A0) (v1 : Value) (p1 : Bk) (o1 : v1 = p1.val ∧ p1.Good w) (v2 : Value) (lc : List UInt8) (o2 : IsBytes w v2 lc) (hb0 : A0.length ≤ 1048576) (hb1 : p1.A.length ≤ 1048576) (hb2 : lc.length ≤ 1048576) :
    Calls Try.prog 3 #[v0, v1, v2] w fun e w' => e = .returned (.bool true) ∧ Below w.heap.size w w' := by
  obtain ⟨rfl, h⟩ := o1
  exact walk_BackBack_run w v0 A0 o0.1 p1.k p1.t p1.v p1.lv p1.A h.2.2.1.1 v2 lc o2 (by omega)
end Go.Proofs.Ythmfmnoblobcoaa
