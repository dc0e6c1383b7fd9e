import Derived.Test.YthbcdpckckellaaDoorBackE
import Derived.Test.YthbcdpckckellaaDoorEqual
/-! back.size; what is read. -/
namespace Go.Proofs.YthbcdpckckellaaDoor
open Go.RowKit
set_option linter.unusedVariables false
set_option linter.unusedSimpArgs false
theorem backEnc_any (k t val : Int) (oa : Option Addr) (c : Nat) (A : List Int) (w : World) (hA : Sl encI w (.slice oa A.length c) A) :
    Calls Tryd.prog 12 #[bkV k t (.slice oa A.length c) val] w fun e w' => Below w.heap.size w w' ∧ ((Pl.backF k t val A ≠ 0 ∧ e = .returned (.tuple #[.slice none 0 0, .iface 54 (.int .i64 (Pl.backF k t val A))])) ∨
      (Pl.backF k t val A = 0 ∧ ∃ (v : Value) (L : List Pr), e = .returned (.tuple #[v, .nilIface]) ∧ Pl.PairsOf (· ∈ A) L ∧ OwnB w' w.heap.size v (Pl.backBytes k t val L))) := by
  by_cases h : Pl.backHead k t val
  · exact backEnc_1 k t val oa c A h w hA
  · have hF : Pl.backF k t val A = 1 := by unfold Pl.backF; rw [if_neg h]
    refine (backEnc_head k t val oa A.length c h w).mono fun e w' ⟨h1, h2⟩ => ⟨h2, .inl ⟨by rw [hF]; decide, by rw [hF]; exact h1⟩⟩
namespace Pl
/-- how many bytes there have to be -/
def rdSize (l : List UInt8) : Nat := if l.length < 2 then 2 else if (l.getD 0 0).toNat = 1 then max 6 ((l.length + 1) / 4 * 4 + 2) else if (l.getD 0 0).toNat = 2 then 3 else if (l.getD 0 0).toNat = 3 then 6 else 2
/-- the pairs that bytes say -/
def prAt (l : List UInt8) (r : Nat) : Pr := ⟨getB (((l.drop (2 + r * 4)).take 4).take 2), getB (((l.drop (2 + r * 4)).take 4).drop 2)⟩
def prsOf (l : List UInt8) : List Pr := (List.range ((l.length - 2) / 4)).map (prAt l)
/-- what bytes say -/
structure RdX (l : List UInt8) (k t : Int) (A : List Int) (val : Int) : Prop where
  kind : k = ((l.getD 0 0).toNat : Int)
  track : t = ((l.getD 1 0).toNat : Int)
  lost : if k = 1 then (numF (prsOf l) ≠ 0 ∧ A = []) ∨ (numF (prsOf l) = 0 ∧ A.Pairwise (fun x y => x < y) ∧ ∀ i, i ∈ A ↔ i ∈ numsOf (prsOf l)) else A = []
  value : val = if k = 2 ∨ k = 3 then getB ((l.take (rdSize l)).drop 2) else 0
end Pl
set_option maxRecDepth 100000 in
set_option maxHeartbeats 1000000 in
theorem backSize_any (v : Value) (l : List UInt8) (w : World) (hv : IsBytes w v l) (hl : l.length ≤ 1000000000) : Calls Tryd.prog 29 #[v] w fun e w' => e = .returned (.int .i64 (Pl.rdSize l)) ∧ w = w' := by
  by_cases h2 : l.length < 2
  · have E : Pl.rdSize l = 2 := by unfold Pl.rdSize; rw [if_pos h2]
    obtain ⟨oa, c, rfl, -⟩ := bytes_slice hv
    rw [E]
    have e1 : (l.length : Int) < 2 := by omega
    clear hv E
    go_enter Tryd.func29, Tryd.ntmps29
    go_wp2_with fail
    go_ret
    exact ⟨rfl, rfl⟩
  · obtain ⟨b, off, cap, rfl, hlc, hcm, _⟩ := bytes_long hv (by omega)
    have c0 := bytes_at hv 0 (by omega)
    rw [Nat.add_zero] at c0
    unfold maxLen at hcm
    have e1 : ¬ (l.length : Int) < 2 := by omega
    have e2 : (0 : Int) < (l.length : Int) := by omega
    have SZ := Lib.hid (show Pl.rdSize l = if (l.getD 0 0).toNat = 1 then max 6 ((l.length + 1) / 4 * 4 + 2) else if (l.getD 0 0).toNat = 2 then 3 else if (l.getD 0 0).toNat = 3 then 6 else 2 from by unfold Pl.rdSize; rw [if_neg h2])
    generalize l.getD 0 0 = x at *
    clear hv h2
    by_cases x1 : x.toNat = 1
    · have E := Lib.hid (show Pl.rdSize l = max 6 ((l.length + 1) / 4 * 4 + 2) from by rw [SZ.out, if_pos x1])
      have d1 : (x.toNat : Int) = 1 := by omega
      obtain ⟨q, hq⟩ : ∃ q, (l.length + 1) / 4 = q := ⟨_, rfl⟩
      have hq2 : q ≤ 300000000 := by omega
      have t1 : IntKind.i64.wrap ((l.length : Int) + 1) = (l.length : Int) + 1 := by rw [IntKind.wrap_i64]; omega
      have t2 : ((l.length : Int) + 1).tdiv 4 = (q : Int) := by rw [Int.tdiv_eq_ediv_of_nonneg (by omega)]; omega
      have t3 : IntKind.i64.wrap ((q : Int) * 4) = (q : Int) * 4 := by rw [IntKind.wrap_i64]; omega
      have t4 : IntKind.i64.wrap ((q : Int) * 4 + 2) = (q : Int) * 4 + 2 := by rw [IntKind.wrap_i64]; omega
      rw [hq] at E
      have E2 := Lib.hid (show ((Pl.rdSize l : Nat) : Int) = max 6 ((q : Int) * 4 + 2) from by rw [E.out]; omega)
      rw [E2.out]
      have xx : encB x = .int .u8 1 := by unfold encB; rw [d1]
      rw [xx] at c0
      clear hq SZ E E2 x1 xx d1
      go_enter Tryd.func29, Tryd.ntmps29
      go_wp2_with fail
      go_ret
      exact ⟨by first | rfl | (congr 2; omega), rfl⟩
    · have hcase : (x.toNat = 2 ∧ Pl.rdSize l = 3) ∨ (x.toNat = 3 ∧ Pl.rdSize l = 6) ∨ (x.toNat ≠ 2 ∧ x.toNat ≠ 3 ∧ Pl.rdSize l = 2) := by
        have E := SZ.out
        rw [if_neg x1] at E
        by_cases h2 : x.toNat = 2
        · rw [if_pos h2] at E; exact .inl ⟨h2, E⟩
        · rw [if_neg h2] at E
          by_cases h3 : x.toNat = 3
          · rw [if_pos h3] at E; exact .inr (.inl ⟨h3, E⟩)
          · rw [if_neg h3] at E; exact .inr (.inr ⟨h2, h3, E⟩)
      have xx : encB x = .int .u8 (x.toNat : Int) := rfl
      rw [xx] at c0
      have d1 : ((x.toNat : Int) == 1) = false := by rw [beq_eq_false_iff_ne]; omega
      clear SZ xx
      rcases hcase with ⟨h2, E⟩ | ⟨h3, E⟩ | ⟨h2, h3, E⟩
      · rw [E]
        have d2 : ((x.toNat : Int) == 2) = true := by rw [beq_iff_eq]; omega
        clear x1 h2 E
        go_enter Tryd.func29, Tryd.ntmps29
        go_wp2_with fail
        go_ret
        exact ⟨rfl, rfl⟩
      · rw [E]
        have d2 : ((x.toNat : Int) == 2) = false := by rw [beq_eq_false_iff_ne]; omega
        have d3 : ((x.toNat : Int) == 3) = true := by rw [beq_iff_eq]; omega
        clear x1 h3 E
        go_enter Tryd.func29, Tryd.ntmps29
        go_wp2_with fail
        go_ret
        exact ⟨rfl, rfl⟩
      · rw [E]
        have d2 : ((x.toNat : Int) == 2) = false := by rw [beq_eq_false_iff_ne]; omega
        have d3 : ((x.toNat : Int) == 3) = false := by rw [beq_eq_false_iff_ne]; omega
        clear x1 h2 h3 E
        go_enter Tryd.func29, Tryd.ntmps29
        go_wp2_with fail
        go_ret
        exact ⟨rfl, rfl⟩
/-- what Read hands out -/
def ReadBE (n₀ : Nat) (l : List UInt8) (w : World) (e : Ending) (w' : World) : Prop :=
  Below n₀ w w' ∧ if l.length < Pl.rdSize l then e = .returned (.tuple #[bkV 0 0 (.slice none 0 0) 0, .iface 54 (.int .i64 8)]) else
    ∃ (k t : Int) (A : List Int) (val : Int), Pl.RdX l k t A val ∧
      (((Pl.backF k t val A ≠ 0 ∨ (Pl.backF k t val A = 0 ∧ ∃ L, Pl.PairsOf (· ∈ A) L ∧ Pl.backBytes k t val L ≠ l)) ∧ e = .returned (.tuple #[bkV 0 0 (.slice none 0 0) 0, .iface 54 (.int .i64 2)])) ∨
       (Pl.backF k t val A = 0 ∧ (∃ L, Pl.PairsOf (· ∈ A) L ∧ Pl.backBytes k t val L = l) ∧ ∃ (oa : Option Addr) (c : Nat), e = .returned (.tuple #[bkV k t (.slice oa A.length c) val, .nilIface]) ∧ Sl encI w' (.slice oa A.length c) A))
/-- the result's memory -/
theorem bk_zero {w : World} {N : Nat} {k t : Int} {lv : Value} {val : Int} (h : BkBox w N k t lv val) (k' t' : Int) (lv' : Value) (val' : Int) :
    BkBox ((((w.setCell ⟨N, 0, none⟩ (.int .i64 k')).setCell ⟨N, 1, none⟩ (.int .i64 t')).setCell ⟨N, 2, none⟩ lv').setCell ⟨N, 3, none⟩ (.int .i64 val')) N k' t' lv' val' :=
  obj_set (obj_set (obj_set (obj_set h 0 _) 1 _) 2 _) 3 _
theorem BkBox.free {w : World} {g : Nat} {k t val : Int} {lv : Value} (h : BkBox w g k t lv val) : w.frozen? ⟨g, 0, none⟩ = false ∧ w.frozen? ⟨g, 1, none⟩ = false ∧ w.frozen? ⟨g, 2, none⟩ = false ∧ w.frozen? ⟨g, 3, none⟩ = false := ⟨obj_free h 0, obj_free h 1, obj_free h 2, obj_free h 3⟩
theorem bk_kb {w w0 : World} {N M : Nat} (h : Below M w0 w) (hN : M ≤ N) (a b c d : Value) :
    Below M w0 ((((w.setCell ⟨N, 0, none⟩ a).setCell ⟨N, 1, none⟩ b).setCell ⟨N, 2, none⟩ c).setCell ⟨N, 3, none⟩ d) :=
  Below.setCell (Below.setCell (Below.setCell (Below.setCell h hN _) hN _) hN _) hN _
set_option maxRecDepth 100000 in
set_option maxHeartbeats 1000000 in
theorem backRead_short (v : Value) (l : List UInt8) (w : World) (hv : IsBytes w v l) (hl : l.length ≤ 1000000000) (h : l.length < Pl.rdSize l) :
    Calls Tryd.prog 14 #[v] w (ReadBE w.heap.size l w) := by
  obtain ⟨oa, c, rfl, hm⟩ := bytes_slice hv
  have kA : Below w.heap.size w (w.alloc (.cells #[.int .i64 0, .int .i64 0, .slice none 0 0, .int .i64 0] 25)) := (Below.refl _ _).alloc (Nat.le_refl _) _
  have SZ := Lib.hid (backSize_any _ l (w.alloc (.cells #[.int .i64 0, .int .i64 0, .slice none 0 0, .int .i64 0] 25)) (hv.below kA) hl)
  have HL := Lib.hid h
  obtain ⟨s, hs⟩ : ∃ s, Pl.rdSize l = s := ⟨_, rfl⟩
  rw [hs] at SZ h
  have e1 : (l.length : Int) < (s : Int) := by omega
  clear hv hs h
  go_enter Tryd.func14, Tryd.ntmps14
  go_upto_region 2 with (go_at_call 29; (with_reducible refine SZ.out.mono ?_); rintro e w1 ⟨rfl, rfl⟩)
  obtain ⟨N, hN⟩ : ∃ N, w.heap.size = N := ⟨_, rfl⟩
  have BX : Hid (BkBox (w.alloc (.cells #[.int .i64 0, .int .i64 0, .slice none 0 0, .int .i64 0] 25)) N 0 0 (.slice none 0 0) 0) := Lib.hid (by rw [← hN]; exact obj_new _ _)
  refine abs_b (fun y => Hid (BkBox y N 0 0 (.slice none 0 0) 0) ∧ Hid (Below N w y)) ⟨BX, Lib.hid (by rw [← hN]; exact kA)⟩ ?_
  try rw [hN]
  have HN := Lib.hid hN
  clear BX kA hN SZ e1
  rintro y ⟨BX, KY⟩
  obtain ⟨p0, p1, p2, p3⟩ := BX.out.cells
  obtain ⟨f0, f1, f2, f3⟩ := BX.out.free
  have BX2 := Lib.hid (bk_zero BX.out 0 0 (.slice none 0 0) 0)
  have KY2 := Lib.hid (bk_kb KY.out (Nat.le_refl N) (.int .i64 0) (.int .i64 0) (.slice none 0 0) (.int .i64 0))
  go_cut [3] (fun s3 x => s3 = .iface 54 (.int .i64 8) ∧ Hid (BkBox x N 0 0 (.slice none 0 0) 0) ∧ Hid (Below N w x))
  case first =>
    go_wp2_with fail
    go_meet
    exact ⟨rfl, BX2, KY2⟩
  case rest =>
  clear BX KY p0 p1 p2 p3 f0 f1 f2 f3 BX2 KY2
  obtain ⟨rfl, BX, KY⟩ := hcut
  obtain ⟨p0, p1, p2, p3⟩ := BX.out.cells
  go_wp2_with fail
  refine bodyPost_ret (v := .tuple #[bkV 0 0 (.slice none 0 0) 0, .iface 54 (.int .i64 8)]) (by simp [results, Tryd.results14, go_sem, p0, p1, p2, p3]) rfl ?_
  exact ⟨by have q := KY.out; rw [← HN.out] at q; exact q, by rw [if_pos HL.out]⟩
end Go.Proofs.YthbcdpckckellaaDoor
