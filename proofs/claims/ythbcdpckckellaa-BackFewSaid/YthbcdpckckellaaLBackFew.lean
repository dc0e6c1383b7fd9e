import Derived.Test.YthbcdpckckellaaBackQ
import Derived.Test.YthbcdpckckellaaSlRows
import Derived.Deep.CutBlock
/-! The walk of the law BackFew. -/
namespace Go.Proofs.Ythbcdpckckellaa
open Go.RowKit
set_option linter.unusedVariables false
set_option linter.unusedSimpArgs false
/-- the second half: of numbers that follow each other -/
def Pl.rowOf (a : Int) (n : Nat) : List Int := (List.range n).map fun i : Nat => a + (i : Int)
theorem Pl.rowOf_succ (a : Int) (n : Nat) : Pl.rowOf a (n + 1) = Pl.rowOf a n ++ [a + (n : Int)] := by unfold Pl.rowOf; rw [List.range_succ, List.map_append]; rfl
theorem Pl.mem_rowOf (a : Int) (n : Nat) (i : Int) : i ∈ Pl.rowOf a n ↔ a ≤ i ∧ i < a + n := by
  unfold Pl.rowOf
  rw [List.mem_map]
  constructor
  · rintro ⟨k, hk, rfl⟩
    rw [List.mem_range] at hk
    omega
  · intro h
    exact ⟨(i - a).toNat, by rw [List.mem_range]; omega, by omega⟩
theorem Pl.rowOf_len (a : Int) (n : Nat) : (Pl.rowOf a n).length = n := by unfold Pl.rowOf; simp
theorem Pl.rowOf_rises (a : Int) (n : Nat) : Rises (Pl.rowOf a n) := by
  unfold Rises Pl.rowOf
  rw [List.pairwise_map]
  exact List.pairwise_lt_range.imp fun {x y} h => by omega
theorem Pl.rises_one : ∀ {A B : List Int}, Rises A → Rises B → (∀ i, i ∈ A ↔ i ∈ B) → A = B
  | [], [], _, _, _ => rfl
  | [], y :: B, _, _, h => absurd ((h y).2 (.head _)) (by simp)
  | x :: A, [], _, _, h => absurd ((h x).1 (.head _)) (by simp)
  | x :: A, y :: B, hA, hB, h => by
    obtain ⟨a1, a2⟩ := List.pairwise_cons.1 hA
    obtain ⟨b1, b2⟩ := List.pairwise_cons.1 hB
    have e : x = y := by
      rcases List.mem_cons.1 ((h x).1 (.head _)) with q | q
      · exact q
      · rcases List.mem_cons.1 ((h y).2 (.head _)) with q' | q'
        · exact q'.symm
        · have := a1 y q'; have := b1 x q; omega
    subst e
    rw [Pl.rises_one a2 b2 fun z => ⟨fun hz => by
      rcases List.mem_cons.1 ((h z).1 (.tail _ hz)) with q | q
      · subst q; have := a1 z hz; omega
      · exact q, fun hz => by
      rcases List.mem_cons.1 ((h z).2 (.tail _ hz)) with q | q
      · subst q; have := b1 z hz; omega
      · exact q⟩]
theorem Pl.rowOf_fault {a : Int} {n : Nat} (h0 : 0 ≤ a) (h1 : a + n ≤ 65536) (hn : n ≤ 200) : Pl.pairF (Pl.rowOf a n) = 0 := by
  unfold Pl.pairF
  rw [if_neg (by rw [Pl.rowOf_len]; omega), if_pos]
  intro i hi
  have := (Pl.mem_rowOf a n i).1 hi
  unfold Pl.Seq16; omega
set_option maxRecDepth 100000 in
set_option maxHeartbeats 2000000 in
theorem walk_BackFew (w : World) (v0 : Value) (A : List Int) (o0 : IsInts w v0 A) (a : Int) (wf1 : (Lit.int .i64 a).wf = true) (m : Int) (wf2 : (Lit.int .i64 m).wf = true) :
    Calls Try.prog 3 #[v0, .int .i64 a, .int .i64 m] w fun e w' => e = .returned (.bool true) ∧ Below w.heap.size w w' := by
  have ha := wf_i64 wf1
  have hm := wf_i64 wf2
  have H0 := Lib.hid o0.1
  clear wf1 wf2 o0
  go_enter Try.func3, Try.ntmps3
  by_cases hp : Pl.pairF A = 0
  case' pos =>
    have P1 := Lib.hid (backPairs_ok v0 A hp w H0.out)
    clear hp
    go_upto_region 3 with (go_at_call 5; (with_reducible refine P1.out.mono ?_); rintro e w1 ⟨L, oL, cL, rfl, h1, h2, h3, h4, h5, k1⟩; have N1 := Lib.hid (backNums_ok _ L h5 w1 h1); have PO := Lib.hid h2; have K1 := Lib.hid k1; clear h1 h2 h5 k1)
    clear P1
    go_upto_region 4 with (go_at_call 6; (with_reducible refine N1.out.mono ?_); rintro e w2 ⟨R, oR, cR, rfl, -, h2, h3, k2⟩; have HR := Lib.hid (Pl.nums_eq PO.out h2 h3); have K2 := Lib.hid (K1.out.trans (k2.mono K1.out.size)); clear h2 h3 k2)
    clear N1 K1
    have hln := Pl.numsOf_len L
    rw [← HR.out] at hln
    have e1 : ¬ (R.length : Int) < (L.length : Int) := by omega
    have e2 : IntKind.i64.wrap (17 * (L.length : Int)) = 17 * (L.length : Int) := by rw [IntKind.wrap_i64]; omega
    have e3 : ¬ 17 * (L.length : Int) < (R.length : Int) := by omega
    go_upto_region 6 with fail
    refine abs_b (fun y => Hid (Below w.heap.size w y)) K2 ?_
    clear e1 e2 e3 hln HR PO K2 h3 h4
    rintro y KY
  case' neg =>
    have P1 := Lib.hid (backPairs_bad v0 A hp w H0.out)
    clear hp
    go_upto_region 6 with (go_at_call 5; (with_reducible refine P1.out.mono ?_); rintro e w1 ⟨rfl, k1⟩; have K2 := Lib.hid k1; clear k1)
    clear P1
    refine abs_b (fun y => Hid (Below w.heap.size w y)) K2 ?_
    clear K2
    rintro y KY
  all_goals
    have HOK := Lib.hid (Decidable.em (0 ≤ a ∧ a ≤ 65536 ∧ 0 ≤ m ∧ m ≤ 200 ∧ a + m ≤ 65536))
    rcases HOK.out with hok | hok
    case inr =>
      have HN := Lib.hid hok
      clear hok HOK
      go_wp2_with fail
      all_goals first
        | (go_ret; exact ⟨rfl, KY.out⟩)
        | (exfalso; have := HN.out; omega)
    clear HOK
    obtain ⟨a0, a1, m0, m1, am⟩ := hok
    obtain ⟨n, hn⟩ : ∃ n : Nat, m = n := ⟨m.toNat, by omega⟩
    subst hn
    have e0 : IntKind.i64.wrap (a + (n : Int)) = a + (n : Int) := by rw [IntKind.wrap_i64]; omega
    have e1 : ¬ a < 0 := by omega
    have e2 : ¬ (65536 : Int) < a := by omega
    have e3 : ¬ (n : Int) < 0 := by omega
    have e4 : ¬ (200 : Int) < (n : Int) := by omega
    have e5 : ¬ (65536 : Int) < a + (n : Int) := by omega
    go_upto_region 10 with fail
    clear e0 e1 e2 e3 e4 e5
    have R0 := Lib.hid (IRow.nil y w.heap.size)
    go_loopw [11, 12] (fun s11 s12 wr => ∃ i : Nat, i ≤ n ∧ s12 = .int .i64 i ∧ Hid (IRow wr w.heap.size s11 (Pl.rowOf a i)) ∧ Hid (Below w.heap.size w wr)) (fun _ s12 _ => n - (intOf s12).toNat)
    case atStart => exact ⟨0, by omega, rfl, R0, KY⟩
    case round =>
      as_aux_lemma =>
      clear R0 KY
      obtain ⟨i, hi, rfl, IR, KR⟩ := hrel
      have RL := Lib.hid (Pl.rowOf_len a i)
      by_cases hlt : i < n
      · have e1 : (i : Int) < (n : Int) := by omega
        obtain ⟨gN, capN, wN, hrun, ho, hk2⟩ := IR.out.more (a + (i : Int)) (by rw [RL.out]; omega) KR.out (Nat.le_refl _)
        rw [← Pl.rowOf_succ] at ho
        have HRUN := Lib.hid hrun
        have HO := Lib.hid ho
        have HK := Lib.hid hk2
        clear hrun ho hk2 hlt
        go_wp2_with (at_builtin; refine Lib.wpList_append_run _ rfl (.tmp 71) (.tmp 75) 22 22 rfl _ _ rfl rfl _ _ HRUN.out ?_)
        go_roundw
        case measure => simp only [intOf]; omega
        case rel => exact ⟨i + 1, by omega, by simp, HO, HK⟩
      · have hie : i = n := by omega
        subst hie
        have e1 : ¬ (i : Int) < (i : Int) := by omega
        have PF := Lib.hid (Pl.rowOf_fault a0 (n := i) am (by omega))
        obtain ⟨o11, c11, rfl, -⟩ := intRow_read IR.out
        have SL := Lib.hid IR.out.sl
        have P1 := Lib.hid (backPairs_ok _ (Pl.rowOf a i) PF.out wr IR.out.sl)
        have RR := Lib.hid (Pl.rowOf_rises a i)
        have RM := Lib.hid (Pl.mem_rowOf a i)
        clear hlt
        go_upto_region 14 with (go_at_call 5; (with_reducible refine P1.out.mono ?_); rintro e w1 ⟨L, oL, cL, rfl, h1, h2, h3, h4, h5, k1⟩; have N1 := Lib.hid (backNums_ok _ L h5 w1 h1); have PO := Lib.hid h2; have K1 := Lib.hid (KR.out.trans (k1.mono KR.out.size)); have SL1 := Lib.hid (SL.out.below k1); clear h1 h2 h5 k1)
        clear P1 SL
        have LL := Lib.hid (Pl.PairsOf.row (PO.out.congr RM.out))
        go_upto_region 15 with (go_at_call 6; (with_reducible refine N1.out.mono ?_); rintro e w2 ⟨R, oR, cR, rfl, h1, h2, h3, k2⟩; have hR : R = Pl.rowOf a i := Pl.rises_one h2 RR.out (fun j => by rw [h3, PO.out.mem]); have K2 := Lib.hid (K1.out.trans (k2.mono K1.out.size)); have IS := Lib.hid (sameInts_eq _ _ (Pl.rowOf a i) w2 (by rw [← hR]; exact h1.sl) (SL1.out.below k2)); clear h1 h2 h3 k2 hR)
        clear N1 K1
        have w1 : IntKind.i64.wrap ((i : Int) + 16) = (i : Int) + 16 := by rw [IntKind.wrap_i64]; omega
        have w2' : ((i : Int) + 16).tdiv 17 = (L.length : Int) := by
          rw [LL.out, Int.tdiv_eq_ediv_of_nonneg (by omega)]; omega
        go_wp2_with (go_at_call 7; (with_reducible refine IS.out.mono ?_); rintro r x3 ⟨rfl, nn, rfl⟩; have K3 := Lib.hid (Below.drewN K2.out nn))
        go_ret
        exact ⟨by first | rfl | simp, K3.out⟩
end Go.Proofs.Ythbcdpckckellaa
