import Derived.Test.YtmlpdcbfafplkaaDoorSerial
import Derived.Test.YtmlpdcbfafplkaaDoorPWin
import Derived.RegionTactic
import Derived.Deep.QuietTactic
import Derived.BigQuiet
import Derived.Deep.DeepCutAuto
/-! Contracts of serial's window. -/
namespace Go.Proofs.YtmlpdcbfafplkaaDoor
open Go.RowKit
set_option linter.unusedVariables false
set_option linter.unusedSimpArgs false

/-- a window in memory -/
def WinAt (w : World) (b : Nat) (n top : Int) (B : BitVec 64) : Prop := w.heap[b]? = some (.cells #[.int .i64 n, .int .i64 top, .int .u64 (B.toNat : Int)] 58 (0, 0))
theorem WinAt.other {a c : World} {b N : Nat} {n top : Int} {B : BitVec 64} (h : WinAt a b n top B) (k : KeepsBut N a c) (hn : b ≠ N) : WinAt c b n top B := Keeps.heap k h hn
theorem WinAt.below {a c : World} {b M : Nat} {n top : Int} {B : BitVec 64} (h : WinAt a b n top B) (k : Below M a c) (hn : b < M) : WinAt c b n top B := Below.heapAt k h hn
theorem abs_at' {P : Program} {c : Code} {Q : Exit → Act → World → Prop} {a : Act} {W : World} (S : World → Prop) (h : S W) (k : ∀ wq, S wq → c.wp P Q a wq) : c.wp P Q a W := k W h
theorem winNew_ok (n : Int) (h1 : 1 ≤ n) (h2 : n ≤ 64) (w : World) :
    Calls Tryd.prog 5 #[.int .i64 n] w fun e w' => ∃ b, e = .returned (.tuple #[.pointer (some ⟨b, 0, none⟩), .nilIface]) ∧ w.heap.size ≤ b ∧ WinAt w' b n (-1) 0#64 ∧ Below w.heap.size w w' := by
  go_enter Tryd.func5, Tryd.ntmps5
  go_wp2
  go_ret2
  exact ⟨_, rfl, Nat.le_refl _, obj_new _ _, (Below.refl _ _).alloc (Nat.le_refl _) _⟩
theorem winNew_bad (n : Int) (h : ¬ (1 ≤ n ∧ n ≤ 64)) (w : World) :
    Calls Tryd.prog 5 #[.int .i64 n] w fun e w' => e = .returned (.tuple #[.pointer none, .iface 55 (.int .i64 1)]) ∧ w = w' := by
  have G := Lib.hid h
  clear h
  go_enter Tryd.func5, Tryd.ntmps5
  go_wp2
  all_goals first
    | (exfalso; have := G.out; omega)
    | (go_ret2; exact ⟨rfl, rfl⟩)
theorem winTop_any (b : Nat) (n top : Int) (B : BitVec 64) (w : World) (hg : WinAt w b n top B) :
    Calls Tryd.prog 9 #[.pointer (some ⟨b, 0, none⟩)] w fun e w' => e = .returned (.int .i64 top) ∧ w = w' := by
  have k1 := obj_cell hg (k := 1) rfl
  go_enter Tryd.func9, Tryd.ntmps9
  go_wp2
  go_ret
  exact ⟨rfl, rfl⟩
theorem winAdd_range (b : Nat) (num : Int) (h : Pl.long num = false) (w : World) :
    Calls Tryd.prog 8 #[.pointer (some ⟨b, 0, none⟩), .int .i64 num] w fun e w' => e = .returned (.tuple #[.bool false, .iface 55 (.int .i64 1)]) ∧ w = w' := by
  go_enter Tryd.func8, Tryd.ntmps8
  go_wp2_with (go_at_call 21; refine (long_any _ _).mono ?_; rw [h]; rintro e w' ⟨rfl, rfl⟩)
  go_ret2
  exact ⟨rfl, rfl⟩
theorem shl_any (x y : Int) (h0 : 0 ≤ y) : Op.shift .shl .u64 x .i64 y = pure (.int .u64 (IntKind.u64.wrap (x * 2 ^ (min y.toNat 64)))) := by
  simp [Op.shift, IntKind.bits]
  omega
theorem Pl.shl_min (B : BitVec 64) (s : Nat) : B <<< (min s 64) = B <<< s := by
  rcases Nat.le_total s 64 with h | h
  · rw [Nat.min_eq_left h]
  · rw [Nat.min_eq_right h, BitVec.shiftLeft_eq_zero (Nat.le_refl _), BitVec.shiftLeft_eq_zero h]
theorem shl_bits (B : BitVec 64) (y : Int) (h0 : 0 ≤ y) : Op.shift .shl .u64 (B.toNat : Int) .i64 y = pure (.int .u64 ((B <<< y.toNat).toNat : Int)) := by
  rw [shl_any _ _ h0, Pl.shl_u64, Pl.shl_min]
set_option maxRecDepth 100000 in
set_option maxHeartbeats 1000000 in
theorem winAdd_state (b : Nat) (n top : Int) (B : BitVec 64) (num : Int) (h : Pl.long num = true) (n1 : 1 ≤ n) (n2 : n ≤ 64) (t1 : -1 ≤ top) (t2 : top ≤ 1099511627776) (h2 : num ≤ top - n) (w : World) (hg : WinAt w b n top B) :
    Calls Tryd.prog 8 #[.pointer (some ⟨b, 0, none⟩), .int .i64 num] w fun e w' => e = .returned (.tuple #[.bool false, .iface 55 (.int .i64 6)]) ∧ ∃ m, w' = w.drewN m := by
  have k0 := obj_cell hg (k := 0) rfl
  have k1 := obj_cell hg (k := 1) rfl
  have d : decide (num ≤ top - n) = true := by simpa using h2
  go_enter Tryd.func8, Tryd.ntmps8
  go_wp2_with (go_at_call 21; refine (long_any _ _).mono ?_; rw [h]; rintro e w' ⟨rfl, rfl⟩)
  go_quiet (fail)
  go_wp2
  go_ret2
  exact ⟨rfl, _, rfl⟩
set_option maxRecDepth 100000 in
set_option maxHeartbeats 1000000 in
theorem winAdd_new (b : Nat) (n top : Int) (B : BitVec 64) (num : Int) (h : Pl.long num = true) (n1 : 1 ≤ n) (n2 : n ≤ 64) (t1 : -1 ≤ top) (t2 : top ≤ 1099511627776) (hb : 0 ≤ num ∧ num ≤ 1099511627776) (h2 : top < num) (w : World) (hg : WinAt w b n top B) :
    Calls Tryd.prog 8 #[.pointer (some ⟨b, 0, none⟩), .int .i64 num] w fun e w' => e = .returned (.tuple #[.bool true, .nilIface]) ∧ WinAt w' b n num (B <<< (num - top).toNat ||| 1#64) ∧ KeepsBut b w w' := by
  obtain ⟨hb1, hb2⟩ := hb
  have k0 := obj_cell hg (k := 0) rfl
  have k1 := obj_cell hg (k := 1) rfl
  have k2 := obj_cell hg (k := 2) rfl
  have f1 := obj_free hg 1
  have f2 := obj_free hg 2
  have d : decide (num ≤ top - n) = false := by simp; omega
  have d2 : decide (top < num) = true := by simpa using h2
  have hw : IntKind.i64.wrap (num - top) = num - top := by rw [IntKind.wrap_i64]; omega
  obtain ⟨C, hC⟩ : ∃ C, C = B <<< (num - top).toNat := ⟨_, rfl⟩
  have hsh : Op.shift .shl .u64 (B.toNat : Int) .i64 (num - top) = pure (.int .u64 (C.toNat : Int)) := by rw [hC]; exact shl_bits B _ (by omega)
  have hsh2 : Op.shift .shl .u64 (B.toNat : Int) .i64 (IntKind.i64.wrap (num - top)) = pure (.int .u64 (C.toNat : Int)) := by rw [hw]; exact hsh
  have HC := Lib.hid hC
  clear hC hw
  go_enter Tryd.func8, Tryd.ntmps8
  go_wp2_with (go_at_call 21; refine (long_any _ _).mono ?_; rw [h]; rintro e w' ⟨rfl, rfl⟩)
  go_quiet (fail)
  go_upto_region 6 with fail
  refine abs_at' (fun y => WinAt y b n top B ∧ KeepsBut b w y) ⟨hg, Keeps.drewN (KeepsBut.refl _ _) _⟩ ?_
  clear hg k0 k1 k2 f1 f2
  rintro wx ⟨hg, kk⟩
  have k1 := obj_cell hg (k := 1) rfl
  have k2 := obj_cell hg (k := 2) rfl
  have f1 := obj_free hg 1
  have f2 := obj_free hg 2
  go_region
  go_wp2
  go_ret2
  refine ⟨rfl, ?_, KeepsBut.set (Keeps.drew (KeepsBut.set kk _ _)) _ _⟩
  have q : WinAt ((wx.setCell ⟨b, 2, none⟩ (.int .u64 ((C ||| 1#64).toNat : Int))).setCell ⟨b, 1, none⟩ (.int .i64 num)) b n num (C ||| 1#64) := obj_set (obj_set hg 2 _) 1 _
  rw [← HC.out]
  rw [← Pl.or_u64] at q
  exact q
set_option maxRecDepth 100000 in
set_option maxHeartbeats 1000000 in
theorem winAdd_old (b : Nat) (n top : Int) (B : BitVec 64) (num : Int) (h : Pl.long num = true) (n1 : 1 ≤ n) (n2 : n ≤ 64) (t1 : -1 ≤ top) (t2 : top ≤ 1099511627776) (hb : 0 ≤ num ∧ num ≤ 1099511627776) (h2 : num ≤ top) (h3 : top - n < num) (w : World) (hg : WinAt w b n top B) :
    Calls Tryd.prog 8 #[.pointer (some ⟨b, 0, none⟩), .int .i64 num] w fun e w' => e = .returned (.tuple #[.bool (!(B.getLsbD (top - num).toNat)), .nilIface]) ∧ WinAt w' b n top (B ||| (1#64 <<< (top - num).toNat)) ∧ KeepsBut b w w' := by
  obtain ⟨hb1, hb2⟩ := hb
  have k0 := obj_cell hg (k := 0) rfl
  have k1 := obj_cell hg (k := 1) rfl
  have k2 := obj_cell hg (k := 2) rfl
  have f1 := obj_free hg 1
  have f2 := obj_free hg 2
  have d : decide (num ≤ top - n) = false := by simp; omega
  have d2 : decide (top < num) = false := by simp; omega
  have hd : (top - num).toNat < 64 := by omega
  have FR := Lib.hid (Pl.fresh_u64 B (top - num).toNat hd)
  clear hd
  go_enter Tryd.func8, Tryd.ntmps8
  go_wp2_with (go_at_call 21; refine (long_any _ _).mono ?_; rw [h]; rintro e w' ⟨rfl, rfl⟩)
  go_quiet (fail)
  go_wp2
  go_ret2
  refine ⟨?_, ?_, KeepsBut.set (Keeps.drewN (KeepsBut.refl _ _) _) _ _⟩
  · rw [← FR.out]
    rfl
  · have q : WinAt (w.setCell ⟨b, 2, none⟩ (.int .u64 ((B ||| (1#64 <<< (top - num).toNat)).toNat : Int))) b n top (B ||| (1#64 <<< (top - num).toNat)) := obj_set hg 2 _
    rw [← Pl.or_u64, ← Pl.bit_u64] at q
    exact q
set_option maxRecDepth 100000 in
set_option maxHeartbeats 1000000 in
theorem winHas_in (b : Nat) (n top : Int) (B : BitVec 64) (num : Int) (n1 : 1 ≤ n) (n2 : n ≤ 64) (t1 : -1 ≤ top) (t2 : top ≤ 1099511627776) (h1 : 0 ≤ num) (h2 : num ≤ top) (h3 : top - n < num) (w : World) (hg : WinAt w b n top B) :
    Calls Tryd.prog 10 #[.pointer (some ⟨b, 0, none⟩), .int .i64 num] w fun e w' => e = .returned (.bool (B.getLsbD (top - num).toNat)) ∧ ∃ m, w' = w.drewN m := by
  have k0 := obj_cell hg (k := 0) rfl
  have k1 := obj_cell hg (k := 1) rfl
  have k2 := obj_cell hg (k := 2) rfl
  have d1 : decide (0 ≤ num) = true := by simpa using h1
  have d2 : decide (num ≤ top) = true := by simpa using h2
  have d3 : decide (top - n < num) = true := by simpa using h3
  have hd : (top - num).toNat < 64 := by omega
  have FR := Lib.hid (Pl.has_u64 B (top - num).toNat hd)
  clear hd
  go_enter Tryd.func10, Tryd.ntmps10
  go_wp2_with fail
  go_quiet (fail)
  go_wp2
  go_ret
  refine ⟨?_, _, rfl⟩
  rw [← FR.out]
  rfl
set_option maxRecDepth 100000 in
set_option maxHeartbeats 1000000 in
theorem winHas_neg (b : Nat) (n top : Int) (B : BitVec 64) (num : Int) (n1 : 1 ≤ n) (n2 : n ≤ 64) (t1 : -1 ≤ top) (t2 : top ≤ 1099511627776) (h1 : num < 0) (w : World) (hg : WinAt w b n top B) :
    Calls Tryd.prog 10 #[.pointer (some ⟨b, 0, none⟩), .int .i64 num] w fun e w' => e = .returned (.bool false) ∧ ∃ m, w' = w.drewN m := by
  have k0 := obj_cell hg (k := 0) rfl
  have k1 := obj_cell hg (k := 1) rfl
  have k2 := obj_cell hg (k := 2) rfl
  have d1 : decide (0 ≤ num) = false := by simpa using h1
  go_enter Tryd.func10, Tryd.ntmps10
  go_wp2_with fail
  go_quiet (fail)
  go_wp2
  go_ret
  refine ⟨?_, _, rfl⟩
  rfl
set_option maxRecDepth 100000 in
set_option maxHeartbeats 1000000 in
theorem winHas_above (b : Nat) (n top : Int) (B : BitVec 64) (num : Int) (n1 : 1 ≤ n) (n2 : n ≤ 64) (t1 : -1 ≤ top) (t2 : top ≤ 1099511627776) (h1 : 0 ≤ num) (h2 : top < num) (w : World) (hg : WinAt w b n top B) :
    Calls Tryd.prog 10 #[.pointer (some ⟨b, 0, none⟩), .int .i64 num] w fun e w' => e = .returned (.bool false) ∧ ∃ m, w' = w.drewN m := by
  have k0 := obj_cell hg (k := 0) rfl
  have k1 := obj_cell hg (k := 1) rfl
  have k2 := obj_cell hg (k := 2) rfl
  have d1 : decide (0 ≤ num) = true := by simpa using h1
  have d2 : decide (num ≤ top) = false := by simpa using h2
  go_enter Tryd.func10, Tryd.ntmps10
  go_wp2_with fail
  go_quiet (fail)
  go_wp2
  go_ret
  refine ⟨?_, _, rfl⟩
  rfl
set_option maxRecDepth 100000 in
set_option maxHeartbeats 1000000 in
theorem winHas_below (b : Nat) (n top : Int) (B : BitVec 64) (num : Int) (n1 : 1 ≤ n) (n2 : n ≤ 64) (t1 : -1 ≤ top) (t2 : top ≤ 1099511627776) (h1 : 0 ≤ num) (h2 : num ≤ top) (h3 : num ≤ top - n) (w : World) (hg : WinAt w b n top B) :
    Calls Tryd.prog 10 #[.pointer (some ⟨b, 0, none⟩), .int .i64 num] w fun e w' => e = .returned (.bool false) ∧ ∃ m, w' = w.drewN m := by
  have k0 := obj_cell hg (k := 0) rfl
  have k1 := obj_cell hg (k := 1) rfl
  have k2 := obj_cell hg (k := 2) rfl
  have d1 : decide (0 ≤ num) = true := by simpa using h1
  have d2 : decide (num ≤ top) = true := by simpa using h2
  have d3 : decide (top - n < num) = false := by simpa using h3
  go_enter Tryd.func10, Tryd.ntmps10
  go_wp2_with fail
  go_quiet (fail)
  go_wp2
  go_ret
  refine ⟨?_, _, rfl⟩
  rfl
/-- was it there: of both kinds of window -/
theorem winHas_any (b : Nat) (n top : Int) (B : BitVec 64) (L : List Int) (R : Pl.WinRel top B L) (num : Int) (n1 : 1 ≤ n) (n2 : n ≤ 64) (t2 : top ≤ 1099511627776) (w : World) (hg : WinAt w b n top B) :
    Calls Tryd.prog 10 #[.pointer (some ⟨b, 0, none⟩), .int .i64 num] w fun e w' => e = .returned (.bool (decide (num ∈ L ∧ top - n < num))) ∧ ∃ m, w' = w.drewN m := by
  have t1 := R.low
  by_cases h1 : 0 ≤ num
  · by_cases h2 : num ≤ top
    · by_cases h3 : top - n < num
      · refine (winHas_in b n top B num n1 n2 t1 t2 h1 h2 h3 w hg).mono ?_
        rintro e w' ⟨rfl, hm⟩
        have := (R.old h1 h2 (by omega)).1
        exact ⟨by rw [this]; simp [h3], hm⟩
      · refine (winHas_below b n top B num n1 n2 t1 t2 h1 h2 (by omega) w hg).mono ?_
        rintro e w' ⟨rfl, hm⟩
        exact ⟨by simp [h3], hm⟩
    · refine (winHas_above b n top B num n1 n2 t1 t2 h1 (by omega) w hg).mono ?_
      rintro e w' ⟨rfl, hm⟩
      have hn : num ∉ L := fun hx => by have := R.all _ hx; omega
      exact ⟨by simp [hn], hm⟩
  · refine (winHas_neg b n top B num n1 n2 t1 t2 (by omega) w hg).mono ?_
    rintro e w' ⟨rfl, hm⟩
    have hn : num ∉ L := fun hx => by have := R.all _ hx; omega
    exact ⟨by simp [hn], hm⟩
end Go.Proofs.YtmlpdcbfafplkaaDoor
